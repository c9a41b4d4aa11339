/- Packed: AlMk, AlCat, AlAlt, AlGroup, AlRepeat, Positions, Clean -/
import Derived.Test.YtlagablcopmhkaaProg
import Derived.Test.YtlagablcopmhkaaKRowRuns1
import Derived.Test.YtlagablcopmhkaaKRowRuns8
import Derived.Test.YtlagablcopmhkaaKRowRuns14
set_option linter.unusedVariables false
set_option linter.unusedSimpArgs false
/- nfa: what the maker makes of a tree. -/
namespace Go.Proofs.Ytlagablcopmhkaa
open Go.RowKit

def MS.thenS (M : MS) (a b : Pt) : MS := ⟨M.sets, orAll M.fol b.f (bitsL a.l)⟩
def Pt.thenP (a b : Pt) : Pt := ⟨pFirst a.f a.e b.f, pLast a.l b.l b.e, a.e && b.e⟩
def Pt.orP (a b : Pt) : Pt := ⟨a.f ||| b.f, a.l ||| b.l, a.e || b.e⟩
/-- how often a Repeat is written out -/
def manyR (mn mx : Int) : Nat := (if mx = -1 then max mn 1 else mx).toNat
/-- round k of many of a Repeat -/
def repRound (g : MS → MS × Pt) (mn mx : Int) (many k : Nat) (s : MS × Pt) : MS × Pt :=
  let r := g s.1
  let M1 := if mx = -1 ∧ k + 1 = many then r.1.thenS r.2 r.2 else r.1
  let x : Pt := ⟨r.2.f, r.2.l, r.2.e || decide (mn ≤ (k : Int))⟩
  (M1.thenS s.2 x, s.2.thenP x)
def repUp (g : MS → MS × Pt) (mn mx : Int) (many : Nat) : Nat → MS × Pt → MS × Pt
  | 0, s => s
  | k + 1, s => repRound g mn mx many k (repUp g mn mx many k s)
mutual
def mkN : Node → MS → MS × Pt
  | .mk k s mn mx subs, M =>
    if k = 1 then (M, ⟨0, 0, true⟩)
    else if k = 2 then (⟨M.sets ++ [s], M.fol ++ [0]⟩, ⟨2 ^ M.sets.length, 2 ^ M.sets.length, false⟩)
    else if k = 3 then mkCat subs (M, ⟨0, 0, true⟩)
    else if k = 4 then mkAlt subs (M, ⟨0, 0, false⟩)
    else if k = 5 then repUp (fun M => mkHd subs M) mn mx (manyR mn mx) (manyR mn mx) (M, ⟨0, 0, true⟩)
    else if k = 6 then mkHd subs M
    else (M, ⟨0, 0, false⟩)
def mkHd : List Node → MS → MS × Pt
  | [], M => (M, ⟨0, 0, false⟩)
  | x :: _, M => mkN x M
def mkCat : List Node → MS × Pt → MS × Pt
  | [], s => s
  | x :: l, s => mkCat l ((mkN x s.1).1.thenS s.2 (mkN x s.1).2, s.2.thenP (mkN x s.1).2)
def mkAlt : List Node → MS × Pt → MS × Pt
  | [], s => s
  | x :: l, s => mkAlt l ((mkN x s.1).1, s.2.orP (mkN x s.1).2)
end

/-- all is in range -/
structure MOk (s : MS × Pt) : Prop where
  len : s.1.fol.length = s.1.sets.length
  f : ∀ t, s.2.f.testBit t = true → t < s.1.sets.length
  l : ∀ t, s.2.l.testBit t = true → t < s.1.sets.length
def MGo (M : MS) (s : MS × Pt) : Prop := M.fol.length = M.sets.length → M.sets.length ≤ s.1.sets.length ∧ MOk s
theorem thenS_len (M : MS) (a b : Pt) : (M.thenS a b).fol.length = M.fol.length := orAll_length _ _ _
theorem MOk.thenB {M : MS} {a b : Pt} (hM : M.fol.length = M.sets.length) (ha : ∀ t, a.f.testBit t = true ∨ a.l.testBit t = true → t < M.sets.length) (hb : ∀ t, b.f.testBit t = true ∨ b.l.testBit t = true → t < M.sets.length) : MOk (M.thenS a b, a.thenP b) := by
  refine ⟨(thenS_len _ _ _).trans hM, fun t h => ?_, fun t h => ?_⟩
  · unfold Pt.thenP pFirst at h
    simp only at h
    split at h
    · rw [Nat.testBit_or, Bool.or_eq_true] at h
      exact h.elim (fun h => ha t (.inl h)) (fun h => hb t (.inl h))
    · exact ha t (.inl h)
  · unfold Pt.thenP pLast at h
    simp only at h
    split at h
    · rw [Nat.testBit_or, Bool.or_eq_true] at h
      exact h.elim (fun h => hb t (.inr h)) (fun h => ha t (.inr h))
    · exact hb t (.inr h)
theorem repRound_ok {g : MS → MS × Pt} (hg : ∀ M, MGo M (g M)) (mn mx : Int) (many k : Nat) {s : MS × Pt} (hs : MOk s) : s.1.sets.length ≤ (g s.1).1.sets.length ∧ (g s.1).1.sets.length = (repRound g mn mx many k s).1.sets.length ∧ MOk (repRound g mn mx many k s) := by
  obtain ⟨h1, h2⟩ := hg s.1 hs.len
  refine ⟨h1, ?_, ?_⟩
  · unfold repRound MS.thenS; simp only; split <;> rfl
  · unfold repRound
    simp only
    have hset : (if mx = -1 ∧ k + 1 = many then (g s.1).1.thenS (g s.1).2 (g s.1).2 else (g s.1).1).sets.length = (g s.1).1.sets.length := by split <;> rfl
    have hfol : (if mx = -1 ∧ k + 1 = many then (g s.1).1.thenS (g s.1).2 (g s.1).2 else (g s.1).1).fol.length = (g s.1).1.fol.length := by
      split
      · exact thenS_len _ _ _
      · rfl
    refine .thenB (by rw [hset, hfol]; exact h2.len) (fun t h => ?_) (fun t h => ?_)
    · rw [hset]; exact Nat.lt_of_lt_of_le (h.elim (hs.f t) (hs.l t)) h1
    · rw [hset]; exact h.elim (h2.f t) (h2.l t)
theorem repUp_ok {g : MS → MS × Pt} (hg : ∀ M, MGo M (g M)) (mn mx : Int) (many : Nat) {s : MS × Pt} (hs : MOk s) : ∀ k, s.1.sets.length ≤ (repUp g mn mx many k s).1.sets.length ∧ MOk (repUp g mn mx many k s)
  | 0 => ⟨Nat.le_refl _, hs⟩
  | k + 1 => by
    obtain ⟨h1, h2⟩ := repUp_ok hg mn mx many hs k
    obtain ⟨h3, h4, h5⟩ := repRound_ok hg mn mx many k h2
    exact ⟨by rw [repUp, ← h4]; omega, h5⟩
theorem MOk.zero {M : MS} (h : M.fol.length = M.sets.length) (e : Bool) : MOk (M, ⟨0, 0, e⟩) := ⟨h, fun t h => by simp at h, fun t h => by simp at h⟩
mutual
theorem mkN_ok : ∀ (x : Node) (M : MS), MGo M (mkN x M)
  | .mk k s mn mx subs, M => fun hM => by
    unfold mkN
    split
    · exact ⟨Nat.le_refl _, .zero hM _⟩
    split
    · refine ⟨by simp, by simp [hM], fun t h => ?_, fun t h => ?_⟩ <;> (rw [Nat.testBit_two_pow] at h; simp at h ⊢; omega)
    split
    · exact mkCat_ok subs _ (.zero hM _)
    split
    · exact mkAlt_ok subs _ (.zero hM _)
    split
    · exact repUp_ok (fun M => mkHd_ok subs M) mn mx _ (.zero hM _) _
    split
    · exact mkHd_ok subs M hM
    · exact ⟨Nat.le_refl _, .zero hM _⟩
theorem mkHd_ok : ∀ (l : List Node) (M : MS), MGo M (mkHd l M)
  | [], M => fun hM => ⟨Nat.le_refl _, .zero hM _⟩
  | x :: _, M => mkN_ok x M
theorem mkCat_ok : ∀ (l : List Node) (s : MS × Pt), MOk s → s.1.sets.length ≤ (mkCat l s).1.sets.length ∧ MOk (mkCat l s)
  | [], s, hs => ⟨Nat.le_refl _, hs⟩
  | x :: l, s, hs => by
    obtain ⟨h1, h2⟩ := mkN_ok x s.1 hs.len
    have h3 : MOk ((mkN x s.1).1.thenS s.2 (mkN x s.1).2, s.2.thenP (mkN x s.1).2) := .thenB h2.len (fun t h => Nat.lt_of_lt_of_le (h.elim (hs.f t) (hs.l t)) h1) (fun t h => h.elim (h2.f t) (h2.l t))
    obtain ⟨h4, h5⟩ := mkCat_ok l _ h3
    rw [mkCat]
    exact ⟨Nat.le_trans h1 h4, h5⟩
theorem mkAlt_ok : ∀ (l : List Node) (s : MS × Pt), MOk s → s.1.sets.length ≤ (mkAlt l s).1.sets.length ∧ MOk (mkAlt l s)
  | [], s, hs => ⟨Nat.le_refl _, hs⟩
  | x :: l, s, hs => by
    obtain ⟨h1, h2⟩ := mkN_ok x s.1 hs.len
    have h3 : MOk ((mkN x s.1).1, s.2.orP (mkN x s.1).2) := ⟨h2.len, fun t h => by
      rw [Pt.orP, Nat.testBit_or, Bool.or_eq_true] at h
      exact h.elim (fun h => Nat.lt_of_lt_of_le (hs.f t h) h1) (h2.f t), fun t h => by
      rw [Pt.orP, Nat.testBit_or, Bool.or_eq_true] at h
      exact h.elim (fun h => Nat.lt_of_lt_of_le (hs.l t h) h1) (h2.l t)⟩
    obtain ⟨h4, h5⟩ := mkAlt_ok l _ h3
    rw [mkAlt]
    exact ⟨Nat.le_trans h1 h4, h5⟩
end
end Go.Proofs.Ytlagablcopmhkaa
/- nfa: the maker at Cat, Alt, Repeat, Group. -/
namespace Go.Proofs.Ytlagablcopmhkaa
open Go.RowKit

theorem then3 {bm : Nat} {sv fv : Value} {M : MS} (a b : Pt) (hM : M.fol.length = M.sets.length) (ha : ∀ t, a.l.testBit t = true → t < M.sets.length) :
    AC Try.prog 139 [.ptr bm 0, .a a.V, .a b.V] (mk3 bm sv fv M) fun r L' => r = .a (a.thenP b).V ∧ L' = mk3 bm sv fv (M.thenS a b) :=
  (then_a (bm := bm) (sv := .v sv) (fv := fv) (fol := M.fol) (fa := a.f) (la := a.l) (fb := b.f) (lb := b.l) (ea := a.e) (eb := b.e) (fun p hp => by
    rw [hM]
    refine ha p ?_
    have := (List.mem_filter.1 (show p ∈ (List.range 448).filter (fun k => a.l.testBit k) from hp)).2
    exact this)).fr (F := [.row sv 38 4 M.sets.length (setsV M.sets)]) (perm_at (i := 2) rfl .emp).1 fun r L1' h => by
      obtain ⟨rfl, rfl⟩ := h
      exact ⟨mk3 bm sv fv (M.thenS a b), (perm_at (L := mk3 bm sv fv (M.thenS a b)) (i := 2) rfl .emp).1.symm, rfl, rfl⟩
theorem loop3 {bm : Nat} {sv fv : Value} {M : MS} (a : Pt) (hM : M.fol.length = M.sets.length) (ha : ∀ t, a.l.testBit t = true → t < M.sets.length) :
    AC Try.prog 164 [.ptr bm 0, .a (bitsV a.l), .a (bitsV a.f)] (mk3 bm sv fv M) fun r L' => r = .t [] ∧ L' = mk3 bm sv fv (M.thenS a a) :=
  (loop_a (bm := bm) (ty := 98) (sv := .v sv) (fv := fv) (fol := M.fol) (last := a.l) (first := a.f) (fun p hp => by
    rw [hM]
    refine ha p ?_
    have := (List.mem_filter.1 (show p ∈ (List.range 448).filter (fun k => a.l.testBit k) from hp)).2
    exact this)).fr (F := [.row sv 38 4 M.sets.length (setsV M.sets)]) (perm_at (i := 2) rfl .emp).1 fun r L1' h => by
      obtain ⟨rfl, rfl⟩ := h
      refine ⟨mk3 bm sv fv (M.thenS a a), ?_, rfl, rfl⟩
      rw [mkL_or]
      exact (perm_at (L := mk3 bm sv fv (M.thenS a a)) (i := 2) rfl .emp).1.symm

/-- a tree is made -/
def MakeC (x : Node) : Prop := ∀ (bm : Nat) (sv fv : Value) (M : MS), M.fol.length = M.sets.length → (mkN x M).1.sets.length ≤ 448 →
  AC Try.prog 61 [.ptr bm 0, .a (nodeV x)] (mk3 bm sv fv M) fun r L' => ∃ sv' fv', r = .a (mkN x M).2.V ∧ L' = mk3 bm sv' fv' (mkN x M).1

theorem nodesD_drop {l : List Node} {k : Nat} {x : Node} (h : l[k]? = some x) : ((nodesD l).drop (k * 8)).take 8 = nodeD x := by
  apply List.ext_getElem?
  intro j
  rw [List.getElem?_take]
  split
  · rename_i hj; rw [List.getElem?_drop]; exact nodesD_at l k x h j hj
  · rename_i hj; rw [eq_comm, List.getElem?_eq_none_iff, nodeD_length]; omega
theorem aop_load_node {P : Program} {n : Nat} {o : Oper} {sl : Sl} {L : List Ch} {K : Sl → List Ch → Prop} {ty : TypeId} {x : Operand} {k : Nat} {l : List Node} {y : Node} [ht : TyS P ty 8 true] (ho : o.op = .load ty x) (hd : dstOk n o.dst = true) (hx : ev sl x = .e (nodesD l) (k * 8)) (hk : l[k]? = some y)
    (hK : K (put sl o.dst (.a (nodeV y))) L) : AOp P n o sl L K :=
  aop_load_agg_e ho hd hx (by have := (List.getElem?_eq_some_iff.1 hk).1; rw [nodesD_length]; omega) (by rw [nodesD_drop hk]; exact hK)

set_option exponentiation.threshold 1000 in
set_option maxRecDepth 100000 in
set_option maxHeartbeats 2000000 in
theorem kinds4_a {bm : Nat} {sv fv : Value} {M : MS} {k : Nat} {s : BitVec 256} {mn mx : Int} {subs : List Node} (hS : ∀ x ∈ subs, MakeC x) (hM : M.fol.length = M.sets.length) (hn : (mkCat subs (M, ⟨0, 0, true⟩)).1.sets.length ≤ 448) (hl : subs.length ≤ 1000000) :
    AC Try.prog 138 [.a (nodeV (.mk k s mn mx subs)), .e [ptrM bm] 0] (mk3 bm sv fv M) fun r L' => ∃ sv' fv', r = .a (mkCat subs (M, ⟨0, 0, true⟩)).2.V ∧ L' = mk3 bm sv' fv' (mkCat subs (M, ⟨0, 0, true⟩)).1 := by
  refine ac_body _ Try.func138 rfl Try.ntmps138 Try.results138 rfl ?_
  refine aw_seq (aw_region ?_)
  refine aos_cons rfl (aop_box_a rfl rfl rfl rfl ?_)
  intro b2
  refine aos_cons rfl (aop_alloc rfl rfl ?_)
  intro b3
  (repeat (first | refine aos_nil ?_ | refine aw_seq ?_ | refine aw_region ?_))
  (refine aos_cons rfl ?_); refine aop_build rfl rfl (Pt.V ⟨0, 0, true⟩) rfl ?_; show AOs _ _ _ _ ((_, _) :: _) _ _
  refine aos_cons rfl (aop_alloc rfl rfl ?_)
  intro b4
  show AOs _ _ _ _ ((_, _) :: _) (_ :: _) _
  (repeat (first | refine aos_nil ?_ | ((refine aos_cons rfl ?_); (first | refine qd rfl rfl ?_ | refine gl rfl rfl rfl (by repeat first | exact .z | apply At.s) (by rfl) ?_ | refine aop_fieldAddr rfl rfl rfl ?_ | refine gn0 rfl rfl rfl ?_ | refine gsa rfl rfl rfl rfl (by repeat first | exact .z | apply At.s) rfl (by rfl) rfl ?_); show AOs _ _ _ _ ((_, _) :: _) _ _) | refine aw_seq ?_ | refine aw_region ?_ | refine aw_block ?_))
  refine aw_for (ι := Nat × Value × Value × (MS × Pt)) (fun i => [(1, V.e [ptrM bm] 0), (3, V.ptr b3 0), (4, V.ptr b4 0), (9, V.d (.s subs.length 8 (nodesD subs))), (10, V.i subs.length), (11, V.i i.1)])
    (fun i => [.box b4 102 i.2.2.2.2.V, .box b3 102 (Pt.V ⟨0, 0, false⟩)] ++ (.box b2 41 (nodeV (.mk k s mn mx subs)) :: mk3 bm i.2.1 i.2.2.1 i.2.2.2.1))
    (fun i => i.1 ≤ subs.length ∧ mkCat subs (M, ⟨0, 0, true⟩) = mkCat (subs.drop i.1) i.2.2.2 ∧ MOk i.2.2.2) (fun i => subs.length - i.1) (0, sv, fv, (M, ⟨0, 0, true⟩)) ⟨Nat.zero_le _, rfl, .zero hM _⟩ (.eqs' rfl rfl) ?_
  rintro ⟨i, sv, fv, st⟩ ⟨hi, he, hok⟩
  show AW _ _ _ _ [(1, V.e [ptrM bm] 0), (3, V.ptr b3 0), (4, V.ptr b4 0), (9, V.d (.s subs.length 8 (nodesD subs))), (10, V.i subs.length), (11, V.i i)] [.box b4 102 st.2.V, .box b3 102 (Pt.V ⟨0, 0, false⟩), .box b2 41 (nodeV (.mk k s mn mx subs)), .row fv 100 7 st.1.fol.length (folV st.1.fol), .row sv 38 4 st.1.sets.length (setsV st.1.sets), .box bm 98 [.v sv, .v fv]] _
  have hi : i ≤ subs.length := hi
  by_cases hlt : i < subs.length
  · have hd : decide ((i : Int) < (subs.length : Int)) = true := by simp; omega
    obtain ⟨x, hx⟩ := some_at hlt
    have hx8 : (nodeV x).length = 8 := by cases x; rfl
    have hdr : subs.drop i = x :: subs.drop (i + 1) := drop_cons hx
    have he : mkCat subs (M, ⟨0, 0, true⟩) = mkCat (subs.drop i) st := he
    rw [hdr, mkCat] at he
    obtain ⟨g1, g2⟩ := mkN_ok x st.1 hok.len
    have hok2 : MOk ((mkN x st.1).1.thenS st.2 (mkN x st.1).2, st.2.thenP (mkN x st.1).2) := .thenB g2.len (fun t h => Nat.lt_of_lt_of_le (h.elim (hok.f t) (hok.l t)) g1) (fun t h => h.elim (g2.f t) (g2.l t))
    have hle := (mkCat_ok (subs.drop (i + 1)) _ hok2).1
    rw [← he] at hle
    have hle2 : (mkN x st.1).1.sets.length ≤ 448 := Nat.le_trans hle hn
    have hmk := hS x (List.mem_of_getElem? hx) bm sv fv st.1 hok.len hle2
    (repeat (first | refine aos_nil ?_ | ((refine aos_cons rfl ?_); (first | refine gc rfl rfl rfl rfl rfl _ (by assumption) ?_ | refine aop_index rfl rfl rfl rfl _ rfl (by omega) ?_); show AOs _ _ _ _ ((_, _) :: _) _ _) | refine aw_seq ?_ | refine aw_region ?_ | refine aw_block ?_ | refine aw_skip ?_ | refine aw_cond true rfl ?_))
    (refine aos_cons rfl ?_); refine aop_load_node (k := i) (y := x) rfl rfl rfl hx ?_; show AOs _ _ _ _ ((_, _) :: _) _ _
    refine aos_cons rfl (aop_alloc rfl rfl ?_)
    intro b6
    show AOs _ _ _ _ ((_, _) :: _) (_ :: _) _
    refine aos_cons rfl (aop_store_all (i := 0) rfl rfl rfl rfl rfl (by cases x; rfl) rfl (by cases x; rfl) ?_)
    show AOs _ _ _ _ ((_, _) :: _) (_ :: _) _
    (repeat (refine aos_nil ?_))
    refine aw_drawGZ (show List.Perm _ ([] ++ [_, _, _, _, _, _, _]) from .refl _) ([.box b4 102 st.2.V]) 4 [0, 1] [15, 16, 17, 18, 19] (by kernel_rfl) (by kernel_rfl) rfl (by kernel_rfl) (by kernel_rfl) ?_; refine drawg_q [] rfl rfl rfl (by kernel_rfl) (aq_plain rfl (by exact aop_load_e rfl rfl rfl rfl ⟨rfl, rfl⟩)) ?_; refine drawg_q [] rfl rfl rfl (by kernel_rfl) (aq_plain rfl (by exact gla rfl rfl rfl (by repeat first | exact .z | apply At.s) (by rfl) ⟨rfl, rfl⟩)) ?_; refine drawg_q [] rfl rfl rfl (by kernel_rfl) (aq_plain rfl (by exact aop_load_e rfl rfl rfl rfl ⟨rfl, rfl⟩)) ?_; refine drawg_q [] rfl rfl rfl (by kernel_rfl) (aq_plain rfl (by exact aop_load_all (i := 0) rfl rfl rfl rfl ⟨rfl, rfl⟩ hx8 ⟨rfl, rfl⟩)) ?_; refine ⟨.refl _, ?_, _, rfl, rfl, fun β => ?_⟩
    · intro z hz
      rcases List.mem_cons.1 hz with rfl | hz
      · refine ⟨_, _, 15, [], rfl, ?_, rfl, (fun _ h => by cases h), aop_load_e rfl rfl rfl rfl ⟨rfl, rfl⟩⟩
        repeat (first | exact List.mem_cons_self | refine List.mem_cons_of_mem _ ?_)
      · obtain rfl := List.mem_singleton.1 hz
        refine ⟨_, _, 16, [], rfl, ?_, rfl, (fun _ h => by cases h), aop_load_all (i := 0) rfl rfl rfl rfl ⟨rfl, rfl⟩ rfl ⟨rfl, rfl⟩⟩
        repeat (first | exact List.mem_cons_self | refine List.mem_cons_of_mem _ ?_)
    · refine aop_call rfl rfl rfl (fun _ _ => by kernel_rfl) (List.perm_append_comm (l₁ := [_, _, _, _])) hmk (.refl _) ?_
      rintro r L' ⟨sv', fv', rfl, rfl⟩
      refine ⟨_, _, rfl, (perm_at (i := 4) rfl .emp).1, ?_⟩
      refine aos_cons rfl (aop_call rfl rfl rfl (fun _ _ => by kernel_rfl) (.refl _) (then3 st.2 (mkN x st.1).2 g2.len (fun t h => Nat.lt_of_lt_of_le (hok.l t h) g1)) (.refl _) ?_)
      rintro r L' ⟨rfl, rfl⟩
      show AOs _ _ _ _ ((_, _) :: _) (_ :: _) _
      refine aos_cons rfl (aop_store_all (i := 4) rfl rfl rfl rfl rfl rfl rfl rfl ?_)
      show AOs _ _ _ _ ((_, _) :: _) (_ :: _) _
      (repeat (first | refine aos_nil ?_ | ((refine aos_cons rfl ?_); (first | refine qd rfl rfl ?_ | refine ga rfl rfl rfl rfl rfl (by omega) (by omega) ?_); show AOs _ _ _ _ ((_, _) :: _) _ _) | refine aw_region ?_))
      refine ⟨(i + 1, sv', fv', _), ⟨by show i + 1 ≤ _; omega, he, hok2⟩, by show subs.length - (i + 1) < subs.length - i; omega, .trans (.perm (List.perm_append_comm (l₁ := [_, _, _]))) (.trans (.sub (List.sublist_cons_self _ _)) (.eqs' rfl rfl))⟩
  · have hd : decide ((i : Int) < (subs.length : Int)) = false := by simp; omega
    obtain rfl : i = subs.length := by omega
    rw [List.drop_length, mkCat] at he
    (repeat (first | refine aos_nil ?_ | ((refine aos_cons rfl ?_); (first | refine gla rfl rfl rfl (by repeat first | exact .z | apply At.s) (by rfl) ?_ | refine gc rfl rfl rfl rfl rfl _ (by assumption) ?_ | refine gsa rfl rfl rfl rfl (by repeat first | exact .z | apply At.s) rfl (by rfl) rfl ?_); show AOs _ _ _ _ ((_, _) :: _) _ _) | refine aw_seq ?_ | refine aw_region ?_ | refine aw_exit ?_ | refine aw_ret ?_ | refine aw_cond false rfl ?_))
    exact fpost (.inr rfl) (.a st.2.V) (.refl _ _) (res_cell (i := 1) rfl rfl rfl) (.cons _ (.cons _ (.cons _ (.refl _)))) ⟨sv, fv, by rw [he], by rw [he]⟩
end Go.Proofs.Ytlagablcopmhkaa
/- nfa: the maker at Alt. -/
namespace Go.Proofs.Ytlagablcopmhkaa
open Go.RowKit

set_option exponentiation.threshold 1000 in
set_option maxRecDepth 100000 in
theorem zpart : zV [.int .u64 0, .int .u64 0, .int .u64 0, .int .u64 0, .int .u64 0, .int .u64 0, .int .u64 0, .int .u64 0, .int .u64 0, .int .u64 0, .int .u64 0, .int .u64 0, .int .u64 0, .int .u64 0, .bool false] = Pt.V ⟨0, 0, false⟩ := rfl
set_option exponentiation.threshold 1000 in
set_option maxRecDepth 100000 in
set_option maxHeartbeats 2000000 in
theorem kinds5_a {bm : Nat} {sv fv : Value} {M : MS} {k : Nat} {s : BitVec 256} {mn mx : Int} {subs : List Node} (hS : ∀ x ∈ subs, MakeC x) (hM : M.fol.length = M.sets.length) (hn : (mkAlt subs (M, ⟨0, 0, false⟩)).1.sets.length ≤ 448) (hl : subs.length ≤ 1000000) :
    AC Try.prog 140 [.a (nodeV (.mk k s mn mx subs)), .e [ptrM bm] 0] (mk3 bm sv fv M) fun r L' => ∃ sv' fv', r = .a (mkAlt subs (M, ⟨0, 0, false⟩)).2.V ∧ L' = mk3 bm sv' fv' (mkAlt subs (M, ⟨0, 0, false⟩)).1 := by
  refine ac_body _ Try.func140 rfl Try.ntmps140 Try.results140 rfl ?_
  refine aw_seq (aw_region ?_)
  refine aos_cons rfl (aop_box_a rfl rfl rfl rfl ?_)
  intro b2
  refine aos_cons rfl (aop_alloc rfl rfl ?_)
  intro b3
  (repeat (first | refine aos_nil ?_ | refine aw_seq ?_ | refine aw_region ?_))
  refine aos_cons rfl (aop_alloc rfl rfl ?_)
  intro b4
  show AOs _ _ _ _ ((_, _) :: _) (_ :: _) _
  (repeat (first | refine aos_nil ?_ | ((refine aos_cons rfl ?_); (first | refine qd rfl rfl ?_ | refine gl rfl rfl rfl (by repeat first | exact .z | apply At.s) (by rfl) ?_ | refine aop_fieldAddr rfl rfl rfl ?_ | refine gn0 rfl rfl rfl ?_); show AOs _ _ _ _ ((_, _) :: _) _ _) | refine aw_seq ?_ | refine aw_region ?_ | refine aw_block ?_))
  refine aw_for (ι := Nat × Value × Value × (MS × Pt)) (fun i => [(1, V.e [ptrM bm] 0), (3, V.ptr b3 0), (4, V.ptr b4 0), (9, V.d (.s subs.length 8 (nodesD subs))), (10, V.i subs.length), (11, V.i i.1)])
    (fun i => [.box b4 102 i.2.2.2.2.V, .box b3 102 (Pt.V ⟨0, 0, false⟩)] ++ (.box b2 41 (nodeV (.mk k s mn mx subs)) :: mk3 bm i.2.1 i.2.2.1 i.2.2.2.1))
    (fun i => i.1 ≤ subs.length ∧ mkAlt subs (M, ⟨0, 0, false⟩) = mkAlt (subs.drop i.1) i.2.2.2 ∧ MOk i.2.2.2) (fun i => subs.length - i.1) (0, sv, fv, (M, ⟨0, 0, false⟩)) ⟨Nat.zero_le _, rfl, .zero hM _⟩ (.eqs' rfl (by rw [zpart]; rfl)) ?_
  rintro ⟨i, sv, fv, M0, ⟨of, ol, oe⟩⟩ ⟨hi, he, hok⟩
  show AW _ _ _ _ [(1, V.e [ptrM bm] 0), (3, V.ptr b3 0), (4, V.ptr b4 0), (9, V.d (.s subs.length 8 (nodesD subs))), (10, V.i subs.length), (11, V.i i)] [.box b4 102 (partV of ol oe), .box b3 102 (Pt.V ⟨0, 0, false⟩), .box b2 41 (nodeV (.mk k s mn mx subs)), .row fv 100 7 M0.fol.length (folV M0.fol), .row sv 38 4 M0.sets.length (setsV M0.sets), .box bm 98 [.v sv, .v fv]] _
  have hi : i ≤ subs.length := hi
  have he : mkAlt subs (M, ⟨0, 0, false⟩) = mkAlt (subs.drop i) (M0, ⟨of, ol, oe⟩) := he
  by_cases hlt : i < subs.length
  · have hd : decide ((i : Int) < (subs.length : Int)) = true := by simp; omega
    obtain ⟨x, hx⟩ := some_at hlt
    have hx8 : (nodeV x).length = 8 := by cases x; rfl
    have hdr : subs.drop i = x :: subs.drop (i + 1) := drop_cons hx
    rw [hdr, mkAlt] at he
    obtain ⟨g1, g2⟩ := mkN_ok x M0 hok.len
    have hmk0 := hS x (List.mem_of_getElem? hx) bm sv fv M0 hok.len
    have hok2 : MOk ((mkN x M0).1, (⟨of, ol, oe⟩ : Pt).orP (mkN x M0).2) := ⟨g2.len, fun t h => by
      rw [Pt.orP, Nat.testBit_or, Bool.or_eq_true] at h
      exact h.elim (fun h => Nat.lt_of_lt_of_le (hok.f t h) g1) (g2.f t), fun t h => by
      rw [Pt.orP, Nat.testBit_or, Bool.or_eq_true] at h
      exact h.elim (fun h => Nat.lt_of_lt_of_le (hok.l t h) g1) (g2.l t)⟩
    have hle := (mkAlt_ok (subs.drop (i + 1)) _ hok2).1
    have he2 : mkAlt subs (M, ⟨0, 0, false⟩) = mkAlt (subs.drop (i + 1)) ((mkN x M0).1, (⟨of, ol, oe⟩ : Pt).orP (mkN x M0).2) := he
    rw [← he2] at hle
    have hmk := hmk0 (Nat.le_trans hle hn)
    clear hmk0 hle he
    generalize mkN x M0 = r at hmk hok2 he2
    obtain ⟨M1, ⟨rf, rl, re⟩⟩ := r
    (repeat (first | refine aos_nil ?_ | ((refine aos_cons rfl ?_); (first | refine gc rfl rfl rfl rfl rfl _ (by assumption) ?_ | refine aop_index rfl rfl rfl rfl _ rfl (by omega) ?_); show AOs _ _ _ _ ((_, _) :: _) _ _) | refine aw_seq ?_ | refine aw_region ?_ | refine aw_block ?_ | refine aw_skip ?_ | refine aw_cond true rfl ?_))
    (refine aos_cons rfl ?_); refine aop_load_node (k := i) (y := x) rfl rfl rfl hx ?_; show AOs _ _ _ _ ((_, _) :: _) _ _
    refine aos_cons rfl (aop_alloc rfl rfl ?_)
    intro b6
    show AOs _ _ _ _ ((_, _) :: _) (_ :: _) _
    refine aos_cons rfl (aop_store_all (i := 0) rfl rfl rfl rfl rfl (by cases x; rfl) rfl (by cases x; rfl) ?_)
    show AOs _ _ _ _ ((_, _) :: _) (_ :: _) _
    refine aos_nil (aw_seq (aw_region ?_))
    (refine aos_cons rfl ?_); refine aop_load_e rfl rfl rfl rfl ?_; show AOs _ _ _ _ ((_, _) :: _) _ _
    (refine aos_cons rfl ?_); refine aop_load_all (i := 0) rfl rfl rfl rfl ⟨rfl, rfl⟩ hx8 ?_; show AOs _ _ _ _ ((_, _) :: _) _ _
    refine aos_cons rfl (aop_call rfl rfl rfl (fun _ _ => by kernel_rfl) (List.perm_append_comm (l₁ := [_, _, _, _])) hmk (.refl _) ?_)
    rintro r L' ⟨sv', fv', rfl, rfl⟩
    show AOs _ _ _ _ ((_, _) :: _) (_ :: _) _
    refine aos_cons rfl (aop_alloc rfl rfl ?_)
    intro b7
    show AOs _ _ _ _ ((_, _) :: _) (_ :: _) _
    refine aos_cons rfl (aop_store_all (i := 0) rfl rfl rfl rfl rfl rfl rfl rfl ?_)
    show AOs _ _ _ _ ((_, _) :: _) (_ :: _) _
    (repeat (first | refine aos_nil ?_ | ((refine aos_cons rfl ?_); (refine aop_fieldAddr rfl rfl rfl ?_); show AOs _ _ _ _ ((_, _) :: _) _ _) | refine aw_seq ?_ | refine aw_region ?_))
    (refine aos_cons rfl ?_); refine aop_load_bits (i := 0) (m := rf) [] (bitsV rl ++ [V.b re]) rfl rfl rfl rfl ⟨rfl, rfl⟩ rfl ?_; show AOs _ _ _ _ ((_, _) :: _) _ _
    refine aos_cons rfl (aop_call rfl rfl rfl (fun _ _ => by kernel_rfl) (perm_at (i := 5) rfl .emp).1 (or_a (ch := .box b4 102 (partV of ol oe)) [] (bitsV ol ++ [V.b oe]) 0 rfl ⟨rfl, rfl⟩) (.refl _) ?_)
    rintro r L' ⟨rfl, rfl⟩
    show AOs _ _ _ _ ((_, _) :: _) (Ch.box b4 102 (partV (of ||| rf) ol oe) :: _) _
    (repeat (first | refine aos_nil ?_ | ((refine aos_cons rfl ?_); (refine aop_fieldAddr rfl rfl rfl ?_); show AOs _ _ _ _ ((_, _) :: _) _ _) | refine aw_seq ?_ | refine aw_region ?_))
    (refine aos_cons rfl ?_); refine aop_load_bits (i := 1) (m := rl) (bitsV rf) [V.b re] rfl rfl rfl rfl ⟨rfl, rfl⟩ rfl ?_; show AOs _ _ _ _ ((_, _) :: _) _ _
    refine aos_cons rfl (aop_call rfl rfl rfl (fun _ _ => by kernel_rfl) (perm_at (i := 0) rfl .emp).1 (or_a (ch := .box b4 102 (partV (of ||| rf) ol oe)) (bitsV (of ||| rf)) [V.b oe] 7 rfl ⟨rfl, rfl⟩) (.refl _) ?_)
    rintro r L' ⟨rfl, rfl⟩
    show AOs _ _ _ _ ((_, _) :: _) (Ch.box b4 102 (partV (of ||| rf) (ol ||| rl) oe) :: _) _
    cases oe
    all_goals
      (repeat (first | refine aos_nil ?_ | refine aos_no rfl rfl rfl rfl rfl ?_ | ((first | refine aos_cons rfl ?_ | refine aos_yes rfl rfl rfl ?_); (first | refine qd rfl rfl ?_ | refine gl rfl rfl rfl (by repeat first | exact .z | apply At.s) (by rfl) ?_ | refine aop_fieldAddr rfl rfl rfl ?_ | refine ga rfl rfl rfl rfl rfl (by omega) (by omega) ?_ | refine gs rfl rfl rfl rfl (by repeat first | exact .z | apply At.s) (by rfl) rfl ?_); show AOs _ _ _ _ ((_, _) :: _) _ _) | refine aw_region ?_))
      refine ⟨(i + 1, sv', fv', (M1, _)), ⟨by show i + 1 ≤ _; omega, he2, hok2⟩, by show subs.length - (i + 1) < subs.length - i; omega, .trans (.sub (.cons_cons _ (.cons _ (.cons_cons _ (.cons_cons _ (.cons_cons _ (.cons _ (.refl _)))))))) (.trans (.perm (.cons _ (List.perm_append_comm (l₁ := [_, _, _]) (l₂ := [_, _])))) (.eqs' rfl rfl))⟩
  · have hd : decide ((i : Int) < (subs.length : Int)) = false := by simp; omega
    obtain rfl : i = subs.length := by omega
    rw [List.drop_length, mkAlt] at he
    (repeat (first | refine aos_nil ?_ | ((refine aos_cons rfl ?_); (first | refine gla rfl rfl rfl (by repeat first | exact .z | apply At.s) (by rfl) ?_ | refine gc rfl rfl rfl rfl rfl _ (by assumption) ?_ | refine gsa rfl rfl rfl rfl (by repeat first | exact .z | apply At.s) rfl (by rfl) rfl ?_); show AOs _ _ _ _ ((_, _) :: _) _ _) | refine aw_seq ?_ | refine aw_region ?_ | refine aw_exit ?_ | refine aw_ret ?_ | refine aw_cond false rfl ?_))
    exact fpost (.inr rfl) (.a (partV of ol oe)) (.refl _ _) (res_cell (i := 1) rfl rfl rfl) (.cons _ (.cons _ (.cons _ (.refl _)))) ⟨sv, fv, by rw [he]; rfl, by rw [he]⟩
end Go.Proofs.Ytlagablcopmhkaa
/- nfa: the maker at Group. -/
namespace Go.Proofs.Ytlagablcopmhkaa
open Go.RowKit

set_option maxRecDepth 100000 in
set_option maxHeartbeats 2000000 in
theorem kinds6_a {bm : Nat} {sv fv : Value} {M : MS} {k : Nat} {s : BitVec 256} {mn mx : Int} {x : Node} {l : List Node} (hS : MakeC x) (hM : M.fol.length = M.sets.length) (hn : (mkN x M).1.sets.length ≤ 448) :
    AC Try.prog 143 [.a (nodeV (.mk k s mn mx (x :: l))), .e [ptrM bm] 0] (mk3 bm sv fv M) fun r L' => ∃ sv' fv', r = .a (mkN x M).2.V ∧ L' = mk3 bm sv' fv' (mkN x M).1 := by
  have hmk := hS bm sv fv M hM hn
  refine ac_body _ Try.func143 rfl Try.ntmps143 Try.results143 rfl ?_
  refine aw_seq (aw_region ?_)
  refine aos_cons rfl (aop_box_a rfl rfl rfl rfl ?_)
  intro b2
  refine aos_cons rfl (aop_alloc rfl rfl ?_)
  intro b3
  refine aos_nil (aw_seq ?_)
  refine aw_le (sl' := [(1, V.e [ptrM bm] 0), (2, V.ptr b2 0), (3, V.ptr b3 0)]) (.eqs rfl) ?_
  refine aw_drawH 5 [4, 5, 6, 7, 8] (by kernel_rfl) (by kernel_rfl) rfl (by kernel_rfl) ?_; refine drawh_q [] rfl rfl rfl (by kernel_rfl) (aq_plain rfl (by exact aop_load_e rfl rfl rfl rfl ⟨rfl, rfl⟩)) ?_; refine drawh_q [] rfl rfl rfl (by kernel_rfl) (aq_plain rfl (by exact aop_fieldAddr rfl rfl rfl ⟨rfl, rfl⟩)) ?_; refine drawh_q [5] rfl rfl rfl (by kernel_rfl) (aq_plain rfl (by exact gl rfl rfl rfl (by repeat first | exact .z | apply At.s) (by rfl) ⟨rfl, rfl⟩)) ?_; refine drawh_q [6] rfl rfl rfl (by kernel_rfl) (aq_plain rfl (by exact aop_index rfl rfl rfl rfl 0 rfl (Nat.succ_pos _) ⟨rfl, rfl⟩)) ?_; refine drawh_q [7] rfl rfl rfl (by kernel_rfl) (aq_plain rfl (by exact aop_load_node (k := 0) (l := x :: l) rfl rfl rfl rfl ⟨rfl, rfl⟩)) ?_; refine drawh_nil (.refl _) ?_; intro β
  refine aos_cons rfl (aop_call rfl rfl rfl (fun _ _ => by kernel_rfl) (List.perm_append_comm (l₁ := [_, _])) hmk (.refl _) ?_)
  rintro r L' ⟨sv', fv', rfl, rfl⟩
  show AOs _ _ _ _ ((_, _) :: _) (_ :: _) _
  refine aos_cons rfl (aop_store_all (i := 3) rfl rfl rfl rfl rfl rfl rfl rfl ?_)
  show AOs _ _ _ _ ((_, _) :: _) (_ :: _) _
  (repeat (first | refine aos_nil ?_ | refine aw_ret ?_))
  exact fpost (.inr rfl) (.a (mkN x M).2.V) (.refl _ _) (res_cell (i := 3) rfl rfl rfl) (L2 := mk3 bm sv' fv' (mkN x M).1) (.cons_cons _ (.cons_cons _ (.cons_cons _ (List.nil_sublist _)))) ⟨sv', fv', rfl, rfl⟩
end Go.Proofs.Ytlagablcopmhkaa
/- nfa: the maker at Repeat. -/
namespace Go.Proofs.Ytlagablcopmhkaa
open Go.RowKit

theorem repUp_mono {g : MS → MS × Pt} (hg : ∀ M, MGo M (g M)) (mn mx : Int) (many : Nat) {s : MS × Pt} (hs : MOk s) : ∀ d k, (repUp g mn mx many k s).1.sets.length ≤ (repUp g mn mx many (k + d) s).1.sets.length
  | 0, k => Nat.le_refl _
  | d + 1, k => by
    have h1 := repUp_mono hg mn mx many hs d k
    obtain ⟨_, h2⟩ := repUp_ok hg mn mx many hs (k + d)
    obtain ⟨h3, h4, _⟩ := repRound_ok hg mn mx many (k + d) h2
    rw [← Nat.add_assoc, repUp, ← h4]; omega

set_option exponentiation.threshold 1000 in
set_option maxRecDepth 100000 in
set_option maxHeartbeats 4000000 in
theorem repeat_a {bm : Nat} {sv fv : Value} {M : MS} {k : Nat} {s : BitVec 256} {mn mx : Int} {x : Node} {l : List Node} (hS : MakeC x) (hM : M.fol.length = M.sets.length) (hb : mn ≤ 1000000 ∧ mx ≤ 1000000)
    (hn : (repUp (mkN x) mn mx (manyR mn mx) (manyR mn mx) (M, ⟨0, 0, true⟩)).1.sets.length ≤ 448) :
    AC Try.prog 142 [.ptr bm 0, .a (nodeV (.mk k s mn mx (x :: l)))] (mk3 bm sv fv M) fun r L' => ∃ sv' fv', r = .a (repUp (mkN x) mn mx (manyR mn mx) (manyR mn mx) (M, ⟨0, 0, true⟩)).2.V ∧ L' = mk3 bm sv' fv' (repUp (mkN x) mn mx (manyR mn mx) (manyR mn mx) (M, ⟨0, 0, true⟩)).1 := by
  refine ac_body _ Try.func142 rfl Try.ntmps142 Try.results142 rfl ?_
  refine aw_seq (aw_region ?_)
  refine aos_cons rfl (aop_box_a rfl rfl rfl rfl ?_)
  intro b3
  refine aos_cons rfl (aop_alloc rfl rfl ?_)
  intro b4
  have hq : (if decide (mx = -1) = true then max mn 1 else mx) = (if mx = -1 then max mn 1 else mx) := by simp
  have hQ : (if mx = -1 then max mn 1 else mx) ≤ 1000000 := by split <;> omega
  have hN : manyR mn mx = (if mx = -1 then max mn 1 else mx).toNat := rfl
  generalize (if mx = -1 then max mn 1 else mx) = q at hq hQ hN
  generalize manyR mn mx = N at hN hn
  have hg : ∀ M, MGo M (mkN x M) := fun M => mkN_ok x M
  have hx8 : (nodeV x).length = 8 := by cases x; rfl
  cases hm : decide (mx = -1)
  all_goals
    rw [hm] at hq
    (repeat (first | refine aos_nil ?_ | ((refine aos_cons rfl ?_); (first | refine qd rfl rfl ?_ | refine gl rfl rfl rfl (by repeat first | exact .z | apply At.s) (by rfl) ?_ | refine aop_fieldAddr rfl rfl rfl ?_ | refine gc rfl rfl rfl rfl rfl _ (by assumption) ?_ | refine aop_max rfl rfl rfl rfl ?_); show AOs _ _ _ _ ((_, _) :: _) _ _) | refine aw_seq ?_ | refine aw_region ?_ | refine aw_skip ?_ | refine aw_cond true rfl ?_ | refine aw_cond false rfl ?_))
    refine aos_le (sl' := [(0, V.ptr bm 0), (3, V.ptr b3 0), (4, V.ptr b4 0), (5, V.i q)]) (.eqs (by rw [← hq]; rfl)) ?_ rfl
    (refine aos_cons rfl ?_); refine aop_build rfl rfl (Pt.V ⟨0, 0, true⟩) rfl ?_; show AOs _ _ _ _ ((_, _) :: _) _ _
    refine aos_cons rfl (aop_alloc rfl rfl ?_)
    intro b6
    show AOs _ _ _ _ ((_, _) :: _) (_ :: _) _
    refine aos_cons rfl (aop_store_all (i := 0) rfl rfl rfl rfl rfl rfl rfl rfl ?_)
    show AOs _ _ _ _ ((_, _) :: _) (_ :: _) _
    (repeat (first | refine aos_nil ?_ | ((refine aos_cons rfl ?_); (refine qd rfl rfl ?_); show AOs _ _ _ _ ((_, _) :: _) _ _) | refine aw_seq ?_ | refine aw_region ?_ | refine aw_block ?_))
    refine aw_for (ι := Nat × Value × Value) (fun i => [(0, V.ptr bm 0), (3, V.ptr b3 0), (4, V.ptr b4 0), (5, V.i q), (6, V.ptr b6 0), (17, V.i q), (18, V.i i.1)])
      (fun i => .box b6 102 (repUp (mkN x) mn mx N i.1 (M, ⟨0, 0, true⟩)).2.V :: .box b4 102 (Pt.V ⟨0, 0, false⟩) :: .box b3 41 (nodeV (.mk k s mn mx (x :: l))) :: mk3 bm i.2.1 i.2.2 (repUp (mkN x) mn mx N i.1 (M, ⟨0, 0, true⟩)).1)
      (fun i => i.1 ≤ N) (fun i => N - i.1) (0, sv, fv) (Nat.zero_le _) (.eqs' rfl (by rw [zpart]; rfl)) ?_
    rintro ⟨i, sv, fv⟩ hi
    have hi : i ≤ N := hi
    obtain ⟨_, hok⟩ := repUp_ok hg mn mx N (.zero hM true) i
    by_cases hlt : i < N
    · have hd : decide ((i : Int) < q) = true := by simp; omega
      have hmono := repUp_mono hg mn mx N (.zero hM true) (N - (i + 1)) (i + 1)
      rw [show i + 1 + (N - (i + 1)) = N by omega] at hmono
      obtain ⟨g0, g1, g2⟩ := repRound_ok hg mn mx N i hok
      rw [repUp, ← g1] at hmono
      have hmk := hS bm sv fv (repUp (mkN x) mn mx N i (M, ⟨0, 0, true⟩)).1 hok.len (Nat.le_trans hmono hn)
      clear hmono g0 g1
      have hnext : repUp (mkN x) mn mx N (i + 1) (M, ⟨0, 0, true⟩) = repRound (mkN x) mn mx N i (repUp (mkN x) mn mx N i (M, ⟨0, 0, true⟩)) := rfl
      have hgo := hg (repUp (mkN x) mn mx N i (M, ⟨0, 0, true⟩)).1 hok.len
      generalize repUp (mkN x) mn mx N i (M, ⟨0, 0, true⟩) = st at *
      unfold repRound at hnext g2
      generalize mkN x st.1 = r at *
      obtain ⟨M1, ⟨rf, rl, re⟩⟩ := r
      show AW _ _ _ _ [(0, V.ptr bm 0), (3, V.ptr b3 0), (4, V.ptr b4 0), (5, V.i q), (6, V.ptr b6 0), (17, V.i q), (18, V.i i)] (.box b6 102 st.2.V :: .box b4 102 (Pt.V ⟨0, 0, false⟩) :: .box b3 41 (nodeV (.mk k s mn mx (x :: l))) :: mk3 bm sv fv st.1) _
      (repeat (first | refine aos_nil ?_ | ((refine aos_cons rfl ?_); (first | refine qd rfl rfl ?_ | refine gl rfl rfl rfl (by repeat first | exact .z | apply At.s) (by rfl) ?_ | refine aop_fieldAddr rfl rfl rfl ?_ | refine gc rfl rfl rfl rfl rfl _ (by assumption) ?_); show AOs _ _ _ _ ((_, _) :: _) _ _) | refine aw_seq ?_ | refine aw_region ?_ | refine aw_block ?_ | refine aw_skip ?_ | refine aw_cond true rfl ?_))
      (refine aos_cons rfl ?_); refine aop_index rfl rfl rfl rfl 0 rfl (Nat.succ_pos _) ?_; show AOs _ _ _ _ ((_, _) :: _) _ _
      (refine aos_cons rfl ?_); refine aop_load_node (k := 0) (l := x :: l) rfl rfl rfl rfl ?_; show AOs _ _ _ _ ((_, _) :: _) _ _
      refine aos_cons rfl (aop_call rfl rfl rfl (fun _ _ => by kernel_rfl) (List.perm_append_comm (l₁ := [_, _, _])) hmk (.refl _) ?_)
      rintro r L' ⟨sv', fv', rfl, rfl⟩
      refine aos_le (.perm (List.perm_append_comm (l₁ := [_, _, _]) (l₂ := [_, _, _]))) ?_ rfl
      show AOs _ _ _ _ ((_, _) :: _) (_ :: _) _
      refine aos_cons rfl (aop_alloc rfl rfl ?_)
      intro b8
      show AOs _ _ _ _ ((_, _) :: _) (_ :: _) _
      refine aos_cons rfl (aop_store_all (i := 0) rfl rfl rfl rfl rfl rfl rfl rfl ?_)
      show AOs _ _ _ _ ((_, _) :: _) (_ :: _) _
      have hsets := hgo.1
      have hb5 := hgo.2
      have hstl : ∀ t, st.2.l.testBit t = true → t < M1.sets.length := fun t h => Nat.lt_of_lt_of_le (hok.l t h) hsets
      dsimp only at hnext
      have hm' := hm
      simp at hm'
      by_cases hif : mx = -1 ∧ i + 1 = N
      all_goals try (exact absurd hif.1 hm')
      all_goals
        try have hlast : decide ((i : Int) = q - 1) = true := by simp; omega
        try have hlast : decide ((i : Int) = q - 1) = false := by simp; omega
        first | rw [if_pos hif] at hnext | rw [if_neg hif] at hnext
        cases hge : decide (mn ≤ (i : Int))
        all_goals
          rw [hge] at hnext
          cases re
          all_goals
            (repeat (first | refine aos_nil ?_ | refine aos_no rfl rfl rfl rfl rfl ?_ | ((first | refine aos_cons rfl ?_ | refine aos_yes rfl rfl rfl ?_); (first | refine qd rfl rfl ?_ | refine gl rfl rfl rfl (by repeat first | exact .z | apply At.s) (by rfl) ?_ | refine aop_fieldAddr rfl rfl rfl ?_ | refine gc rfl rfl rfl rfl rfl _ (by assumption) ?_ | refine ga rfl rfl rfl rfl rfl (by omega) (by omega) ?_ | refine gs rfl rfl rfl rfl (by repeat first | exact .z | apply At.s) (by rfl) rfl ?_); show AOs _ _ _ _ ((_, _) :: _) _ _) | refine aw_seq ?_ | refine aw_region ?_ | refine aw_skip ?_ | refine aw_cond true rfl ?_ | refine aw_cond false rfl ?_))
            try (
              (refine aos_cons rfl ?_); refine aop_load_bits (i := 0) (m := rl) (bitsV rf) [V.b _] rfl rfl rfl rfl ⟨rfl, rfl⟩ rfl ?_; show AOs _ _ _ _ ((_, _) :: _) _ _
              (repeat (((refine aos_cons rfl ?_); (refine aop_fieldAddr rfl rfl rfl ?_); show AOs _ _ _ _ ((_, _) :: _) _ _)))
              (refine aos_cons rfl ?_); refine aop_load_bits (i := 0) (m := rf) [] (bitsV rl ++ [V.b _]) rfl rfl rfl rfl ⟨rfl, rfl⟩ rfl ?_; show AOs _ _ _ _ ((_, _) :: _) _ _
              refine aos_cons rfl (aop_call rfl rfl rfl (fun _ _ => by kernel_rfl) (List.perm_append_comm (l₁ := [_, _, _, _])) (loop3 ⟨rf, rl, _⟩ hb5.len hb5.l) (.refl _) ?_)
              rintro r L' ⟨rfl, rfl⟩
              refine aos_nil (aw_le (.perm (List.perm_append_comm (l₁ := [_, _, _]) (l₂ := [_, _, _, _]))) ?_)
              (repeat (first | refine aos_nil ?_ | refine aos_no rfl rfl rfl rfl rfl ?_ | ((first | refine aos_cons rfl ?_ | refine aos_yes rfl rfl rfl ?_); (first | refine qd rfl rfl ?_ | refine gl rfl rfl rfl (by repeat first | exact .z | apply At.s) (by rfl) ?_ | refine aop_fieldAddr rfl rfl rfl ?_ | refine gc rfl rfl rfl rfl rfl _ (by assumption) ?_ | refine gs rfl rfl rfl rfl (by repeat first | exact .z | apply At.s) (by rfl) rfl ?_); show AOs _ _ _ _ ((_, _) :: _) _ _) | refine aw_seq ?_ | refine aw_region ?_))
            )
            refine aos_le (.eqs' (sl' := [(51, V.ptr bm 0), (0, V.ptr bm 0), (3, V.ptr b3 0), (4, V.ptr b4 0), (5, V.i q), (6, V.ptr b6 0), (8, V.ptr b8 0), (17, V.i q), (18, V.i i)]) (L' := .box b8 102 (partV rf rl _) :: .box b6 102 st.2.V :: .box b4 102 (Pt.V ⟨0, 0, false⟩) :: .box b3 41 (nodeV (.mk k s mn mx (x :: l))) :: mk3 bm sv' fv' _) rfl rfl) ?_ rfl
            (refine aos_cons rfl ?_); refine aop_load_all (i := 1) rfl rfl rfl rfl ⟨rfl, rfl⟩ rfl ?_; show AOs _ _ _ _ ((_, _) :: _) _ _
            (refine aos_cons rfl ?_); refine aop_load_all (i := 0) rfl rfl rfl rfl ⟨rfl, rfl⟩ rfl ?_; show AOs _ _ _ _ ((_, _) :: _) _ _
            refine aos_cons rfl (aop_call rfl rfl rfl (fun _ _ => by kernel_rfl) (List.perm_append_comm (l₁ := [_, _, _, _])) (then3 st.2 ⟨rf, rl, _⟩ (by first | exact hb5.len | exact (thenS_len _ _ _).trans hb5.len) (fun t h => hstl t h)) (.refl _) ?_)
            rintro r L' ⟨rfl, rfl⟩
            show AOs _ _ _ _ ((_, _) :: _) (_ :: _) _
            refine aos_cons rfl (aop_store_all (i := 4) rfl rfl rfl rfl rfl rfl rfl rfl ?_)
            show AOs _ _ _ _ ((_, _) :: _) (_ :: _) _
            (repeat (first | refine aos_nil ?_ | ((refine aos_cons rfl ?_); (first | refine qd rfl rfl ?_ | refine ga rfl rfl rfl rfl rfl (by omega) (by omega) ?_); show AOs _ _ _ _ ((_, _) :: _) _ _) | refine aw_region ?_))
            exact ⟨(i + 1, sv', fv'), by show i + 1 ≤ N; omega, by show N - (i + 1) < N - i; omega, .trans (.perm (List.perm_append_comm (l₁ := [_, _, _]))) (.trans (.sub (List.sublist_cons_self _ _)) (.eqs' rfl (by rw [hnext]; rfl)))⟩
    · have hd : decide ((i : Int) < q) = false := by simp; omega
      obtain rfl : i = N := by omega
      show AW _ _ _ _ [(0, V.ptr bm 0), (3, V.ptr b3 0), (4, V.ptr b4 0), (5, V.i q), (6, V.ptr b6 0), (17, V.i q), (18, V.i i)] (.box b6 102 (repUp (mkN x) mn mx i i (M, ⟨0, 0, true⟩)).2.V :: .box b4 102 (Pt.V ⟨0, 0, false⟩) :: .box b3 41 (nodeV (.mk k s mn mx (x :: l))) :: mk3 bm sv fv (repUp (mkN x) mn mx i i (M, ⟨0, 0, true⟩)).1) _
      (repeat (first | refine aos_nil ?_ | ((refine aos_cons rfl ?_); (first | refine gla rfl rfl rfl (by repeat first | exact .z | apply At.s) (by rfl) ?_ | refine gc rfl rfl rfl rfl rfl _ (by assumption) ?_ | refine gsa rfl rfl rfl rfl (by repeat first | exact .z | apply At.s) rfl (by rfl) rfl ?_); show AOs _ _ _ _ ((_, _) :: _) _ _) | refine aw_seq ?_ | refine aw_region ?_ | refine aw_exit ?_ | refine aw_ret ?_ | refine aw_cond false rfl ?_))
      exact fpost (.inr rfl) (.a (repUp (mkN x) mn mx i i (M, ⟨0, 0, true⟩)).2.V) (.refl _ _) (res_cell (i := 1) rfl rfl rfl) (.cons _ (.cons _ (.cons _ (.refl _)))) ⟨sv, fv, rfl, rfl⟩
end Go.Proofs.Ytlagablcopmhkaa
namespace Go.Proofs.Ytlagablcopmhkaa
open Go.RowKit
attribute [local go_sem] max2_im min2_im max_im min_im max_im3

/-- how often a Repeat's Sub is written out, at most 10001 -/
def timesN (mn mx : Int) : Int := if mx = -1 then max (max mn 0) 1 else max (max mn 0) mx
mutual
def posN : Node → Int | .mk k _ mn mx l => min ((((if k = 2 then 1 else 0) + posL l) * (if k = 5 then min (timesN mn mx) 10001 else 1))) 10001
def posL : List Node → Int
  | [] => 0
  | x :: l => posN x + posL l
end
theorem timesN_nonneg (mn mx : Int) : 0 ≤ timesN mn mx := by unfold timesN; split <;> omega
mutual
theorem posN_bd : ∀ x, 0 ≤ posN x ∧ posN x ≤ 10001
  | .mk k s mn mx l => by
    have h := posL_bd l
    have ht := timesN_nonneg mn mx
    simp only [posN]
    refine ⟨?_, by omega⟩
    have : 0 ≤ ((if k = 2 then 1 else 0) + posL l) * (if k = 5 then min (timesN mn mx) 10001 else 1) := Int.mul_nonneg (by split <;> omega) (by split <;> omega)
    omega
theorem posL_bd : ∀ l, 0 ≤ posL l ∧ posL l ≤ 10001 * l.length
  | [] => by simp [posL]
  | x :: l => by have h := posN_bd x; have h2 := posL_bd l; simp [posL]; omega
end
theorem posL_append (l l' : List Node) : posL (l ++ l') = posL l + posL l' := by
  induction l with
  | nil => simp [posL]
  | cons x l ih => simp [posL, ih]; omega
theorem posN_eq (k : Nat) (st : BitVec 256) (mn mx : Int) (l : List Node) : Hid (posN (.mk k st mn mx l) = min ((((if k = 2 then 1 else 0) + posL l) * (if k = 5 then min (timesN mn mx) 10001 else 1))) 10001) := by rw [Hid, posN]
theorem timesN_im (mn mx : Int) : timesN mn mx = if mx = -1 then imax (imax mn 0) 1 else imax (imax mn 0) mx := by simp only [timesN, imax_eq]
theorem mul_bd (m t : Int) (h0 : 0 ≤ m) (h1 : m ≤ 200000000) (h2 : 0 ≤ t) (h3 : t ≤ 10001) : 0 ≤ m * t ∧ m * t ≤ 2000200000000 := by
  have a := Int.mul_nonneg h0 h2
  have b := Int.mul_le_mul h1 h3 h2 (by omega)
  omega

set_option maxHeartbeats 2000000 in
theorem positions_any (n : Nat) : ∀ {S : Nat → Prop} (x : Node) (sv : Value) (w : World), cnt x ≤ n → n ≤ 10000 → RepL w S x.subs sv →
    Calls Try.prog 93 #[.agg (nodeC x sv)] w fun e w' => e = .returned (.int .i64 (posN x)) ∧ Below w.heap.size w w' := by
  induction n with
  | zero => intro S x sv w h; have := cnt_pos x; omega
  | succ n ih =>
  intro S x sv w hcnt hn hR
  obtain ⟨k, st, mn, mx, subs⟩ := x
  simp only [Node.subs] at hR
  obtain ⟨p, cap, rfl, hm, hcap, hcm, hc⟩ := hR.at
  have hlen : subs.length ≤ 10000 := by have := cntL_length subs; simp [cnt] at hcnt; omega
  have hcs : ∀ (i : Nat) x, subs[i]? = some x → cnt x ≤ n := fun i x hx => by have := cnt_at hx; simp [cnt] at hcnt; omega
  clear hcnt hm hR
  simp only [nodeC, Node.kind, Node.set, Node.min, Node.max]
  have t1 : 0 ≤ imin (imax (imax mn 0) 1) 10001 ∧ imin (imax (imax mn 0) 1) 10001 ≤ 10001 := by simp only [imax_eq, imin_eq]; omega
  have t2 : 0 ≤ imin (imax (imax mn 0) mx) 10001 ∧ imin (imax (imax mn 0) mx) 10001 ≤ 10001 := by simp only [imax_eq, imin_eq]; omega
  have HP := posN_eq k st mn mx subs
  rcases eqb k 2 with ⟨hk, hK⟩ | ⟨hk, hK⟩
  all_goals
    have HK := Lib.hid hK; clear hK
    go_enter Try.func93, Try.ntmps93
    go_wp2
    go_loopw [3, 14] (fun sum i W => ∃ (j : Nat) (m : Int), j ≤ subs.length ∧ i = .int .i64 j ∧ sum = .int .i64 m ∧ Hid (m = (if k = 2 then 1 else 0) + posL (subs.take j)) ∧ 0 ≤ m ∧ m ≤ 1 + 10001 * j ∧ BoxN W w.heap.size (.mk k st mn mx subs) (.slice p subs.length cap) ∧ Below w.heap.size w W) (fun _ i _ => subs.length - (intOf i).toNat)
    case atStart =>
      have e : (k = 2 ∨ k ≠ 2) := by omega
      first
        | exact ⟨0, 1, by omega, rfl, rfl, by have := HK.out; rw [Hid, if_pos (by omega)]; simp [posL], by omega, by omega, BoxN.new w (.mk k st mn mx subs) _ _, (Below.refl _ _).alloc (Nat.le_refl _) _⟩
        | exact ⟨0, 0, by omega, rfl, rfl, by have := HK.out; rw [Hid, if_neg (by omega)]; simp [posL], by omega, by omega, BoxN.new w (.mk k st mn mx subs) _ _, (Below.refl _ _).alloc (Nat.le_refl _) _⟩
    case round =>
      obtain ⟨j, m, hj, rfl, rfl, hm, h0, h1, hbx, hb⟩ := hrel
      by_cases hlt : j < subs.length
      · obtain ⟨x, hx⟩ := some_at hlt
        obtain ⟨b, off, rfl, hS, hbl, sv', hR', hN⟩ := hc j x hx
        have hcx := hcs j x hx
        obtain ⟨p', cap', rfl⟩ := hR'.shape
        obtain ⟨c0, c1, c2, c3, c4, c5, c6, c7⟩ := hN.move (hb.block b hbl)
        have HX := Lib.hid hx; clear hx hc hcs hN HP t1 t2
        have pb := posN_bd x
        go_wp2_with (go_at_call 93; refine (ih x _ _ hcx (by omega) (hR'.grow (hb.alloc hb.size _))).mono ?_; rintro e w' ⟨rfl, hb'⟩)
        have hb2 := (hb.alloc hb.size _).trans (hb'.mono (by simp; have := hb.size; omega))
        have hbx2 := (hbx.below ((Below.refl _ _).alloc (Nat.le_refl _) _)).below hb'
        go_roundw
        case rel => exact ⟨j + 1, _, by omega, by go_num, rfl, by rw [Hid, hm.out, take_succ_of HX.out, posL_append]; simp [posL]; omega, by omega, by omega, hbx2, hb2⟩
        case measure => simp [intOf]; omega
      · obtain rfl : j = subs.length := by omega
        rw [List.take_length] at hm
        obtain ⟨c0, c1, c2, c3, c4, c5, c6, c7⟩ := hbx
        simp only [Node.kind, Node.set, Node.min, Node.max] at c0 c1 c2 c3 c4 c5 c6 c7
        have p1 := mul_bd m _ h0 (by omega) t1.1 t1.2
        have p2 := mul_bd m _ h0 (by omega) t2.1 t2.2
        clear hc hcs hj
        rcases eqb k 5 with ⟨h5, h5'⟩ | ⟨h5, h5'⟩
        all_goals rcases eqb mx (-1) with ⟨h6, h6'⟩ | ⟨h6, h6'⟩
        all_goals
          have H5 := Lib.hid h5'; clear h5'
          have H6 := Lib.hid h6'; clear h6'
          go_wp2
          go_ret
          refine ⟨ret_int ?_, hb⟩
          have := HK.out; have := H5.out; have := H6.out
          rw [HP.out, ← hm.out, timesN_im]
          first
            | (exfalso; omega)
            | (rw [if_pos (by omega), if_pos (by omega)]; simp [imin_eq])
            | (rw [if_pos (by omega), if_neg (by omega)]; simp [imin_eq])
            | (rw [if_neg (by omega)]; simp [imin_eq])
end Go.Proofs.Ytlagablcopmhkaa
/- rx: Clean, Positions, Check. -/
namespace Go.Proofs.Ytlagablcopmhkaa
open Go.RowKit
attribute [local go_sem] Oper.semAt_some wide_fn wide_depth

def allRight (x : Node) : Bool := (pre x).all rightB
def cleanB (x : Node) : Bool := lightB x && allRight x

set_option maxRecDepth 100000 in
set_option maxHeartbeats 2000000 in
theorem clean_any {S : Nat → Prop} (x : Node) (sv : Value) (w : World) (hR : RepL w S x.subs sv) :
    Calls Try.prog 59 #[.agg (nodeC x sv)] w fun e w' => e = .returned (.bool (cleanB x)) ∧ Below w.heap.size w w' := by
  obtain ⟨p, cap, rfl⟩ := hR.shape
  refine (callsIn_wide (n := 0)).1 (callsIn_of_wp_marks Try.func59 rfl trivial ?_)
  simp only [Try.ntmps59, List.size_toArray, List.length_cons, List.length_nil, Nat.reduceAdd, Nat.reduceSub, Array.replicate_succ, Array.replicate_zero, List.push_toArray, List.append_toArray, List.nil_append, List.cons_append]
  have hR2 : RepL ((w.alloc (.cells (nodeC x (.slice p x.subs.length cap)) 41)).alloc (.cells #[.bool false] 4)) S x.subs (.slice p x.subs.length cap) := hR.grow (((Below.refl _ w).alloc (Nat.le_refl _) _).alloc (by simp) _)
  cases hl : lightB x
  · gi_wp2_with (gi_at_call 92; refine (callsIn_wide.2 (light_any x _ _ hR2)).mono ?_; rintro e W1 ⟨rfl, hb1⟩; have hw1 := (hb1.block (w.heap.size + 1) (by simp)).trans (heap_alloc2_new w _ _); have hcc := cell_of_row _ _ 0 _ _ _ hw1; have hff := frozen_of_row _ _ 0 _ _ hw1)
    refine ⟨_, results_cell1 rfl _ _ (w.heap.size + 1) (.bool false) rfl ?_ (fun w => by kernel_rfl), ?_⟩
    · rw [World.cell?_setCell_same _ _ _ hcc]
    · exact ⟨ret_bool (by simp [cleanB, hl]), ((((Below.refl _ w).alloc (Nat.le_refl _) _).alloc (by simp) _).trans (hb1.mono (by simp; omega))).setCell (p := ⟨w.heap.size + 1, 0, none⟩) (by simp) _⟩
  · gi_wp2_with (first
      | (gi_at_call 92; refine (callsIn_wide.2 (light_any x _ _ hR2)).mono ?_; rintro e W1 ⟨rfl, hb1⟩; obtain ⟨c0, c1, c2, c3, c4, c5, c6, c7⟩ := ((BoxN.new w x _ _).below ((Below.refl _ _).alloc (Nat.le_refl _) (.cells #[.bool false] 4))).below hb1; have hw0 := box_lt hb1)
      | (gi_at_call 107; refine (callsIn_wide.2 (nodes_any x _ _ _ _)).mono ?_; rintro e Wa ⟨rfl, hba, hca⟩))
    have hw1 := (hb1.block (w.heap.size + 1) (by simp)).trans (heap_alloc2_new w _ _)
    have hb0 : Below w.heap.size w Wa := ((((Below.refl _ w).alloc (Nat.le_refl _) _).alloc (by simp) _).trans (hb1.mono (by simp; omega))).trans (hba.mono (by simp at hw0; omega))
    have hlt1 := (Array.getElem?_eq_some_iff.1 hw1).1
    have hcb := (hba.block _ hlt1).trans hw1
    clear hba hb1 c0 c1 c2 c3 c4 c5 c6 c7 hR2
    refine range_nodes (w := w) (n0 := w.heap.size) (x := x) (c0 := w.heap.size + 1) (S := fun b => b < w.heap.size) (t := 4) (fun k => ((pre x).take k).all rightB = true) (fun k => .bool false) (fun c u => c = .ret ∧ u = .bool false ∧ allRight x = false) rfl hca (hR.move fun b _ h => ⟨hb0.block b h, h⟩) (fun _ h => h) (by omega) (by omega) (by omega) (Nat.le_refl _) hcb hb0 (by simp) ?_ ?_ ?_
    · rintro l k G W ⟨q, q2⟩ hll hlw hGl hk hj hq hRq ho
      replace hRq : RepL W (fun b => b < w.heap.size) q.subs q2 := hRq
      replace hq : (pre x)[k]? = some q := hq
      obtain ⟨pq, cq, rfl⟩ := hRq.shape
      have hst : ((pre x).take (k + 1)).all rightB = rightB q := by
        rw [take_succ_of hq, List.all_append, hj]; simp
      have hq2 : rightB q = false → allRight x = false := fun h => by
        rw [allRight, List.all_eq_false]; exact ⟨q, List.mem_of_getElem? hq, by simp [h]⟩
      have HS := Lib.hid hst
      have HQ := Lib.hid hq2
      clear hst hq2 hq hj hcb hw1 hb0 hca
      simp only [List.setIfInBounds_toArray, List.set_cons_succ, List.set_cons_zero]
      gi_wp2
      refine ⟨(Below.refl _ _).alloc (Nat.le_refl _) _, fun W2 e1 e2 e3 e4 e5 => ?_⟩
      have ho2 := ho.mid ((Below.refl _ _).alloc (Nat.le_refl _) _) e1 e2 e3 e4 e5 hGl hll (Nat.le_refl _)
      rw [World.size_alloc] at e4
      obtain ⟨c0, c1, c2, c3, c4, c5, c6, c7⟩ := BoxN.of_row (x := q) ((e5 W.heap.size (by omega)).trans (heap_alloc_new W _))
      have hRq2 : RepL W2 (fun b => b < w.heap.size) q.subs (.slice pq q.subs.length cq) := hRq.move fun b h1 h2 => ⟨(e5 b (by omega)).trans (Below.heap_alloc W _ b h2), h1⟩
      clear e1 e2 e3 e5 hRq
      cases hrq : rightB q
      · gi_wp2_with (gi_at_call 108; refine (CallsIn.inRound l (callsIn_wide.2 (right_any q _ _ hRq2))).mono ?_; rintro e W3 ⟨rfl, hb3⟩; have ho3 := ho2.grow hb3 (Nat.le_refl _); have hc3 := cell_of_row _ _ 0 _ _ _ ho3.2.1; have hf3 := frozen_of_row _ _ 0 _ _ ho3.2.1)
        refine ⟨G, ((Own.refl _ _ _).below hb3 (fun b hb _ => by omega)).setCell _ (.inl (by rw [ho3.1])) _, _, ⟨rfl, rfl, HQ.out hrq⟩, ho3.store (by omega) _⟩
      · gi_wp2_with (gi_at_call 108; refine (CallsIn.inRound l (callsIn_wide.2 (right_any q _ _ hRq2))).mono ?_; rintro e W3 ⟨rfl, hb3⟩)
        exact ⟨G, (Own.refl _ _ _).below hb3 (fun b hb _ => by omega), by rw [HS.out, hrq], ho2.grow hb3 (Nat.le_refl _)⟩
    · intro D W hD hD2 hDc hj hc hb hk
      have hcc := cell_of_row _ _ 0 _ _ _ hc
      have hff := frozen_of_row _ _ 0 _ _ hc
      have hc2 := heap_setCell_same W (w.heap.size + 1) 0 _ _ (.bool true) hc
      have hj2 := Lib.hid hj
      clear hb0 hj
      gi_wp2
      refine leave_one_cell (c0 := w.heap.size + 1) rfl (by simpa using hD2) hD ?_ (hb.setCell (p := ⟨w.heap.size + 1, 0, none⟩) (by simp) _) hDc hc2 rfl (fun w => by kernel_rfl) fun W' hb' => ⟨ret_bool ?_, hb'⟩
      · rw [Below.heap_setCell _ _ _ _ hDc]; exact hk
      · have := hj2.out
        rw [← pre_length, List.take_length] at this
        simp [cleanB, hl, allRight, this]
    · rintro D c u W hD hD2 hDc ⟨rfl, rfl, hx⟩ hc hb hk
      clear hb0
      gi_wp2
      exact leave_one_cell (c0 := w.heap.size + 1) rfl hD2 hD hk hb hDc hc rfl (fun w => by kernel_rfl) fun W' hb' => ⟨ret_bool (by simp [cleanB, hx]), hb'⟩

def positionsN (x : Node) : Int := if cnt x ≤ 10000 then posN x else 10001

set_option maxHeartbeats 1000000 in
theorem positions2_any {S : Nat → Prop} (x : Node) (sv : Value) (w : World) (hR : RepL w S x.subs sv) :
    Calls Try.prog 37 #[.agg (nodeC x sv)] w fun e w' => e = .returned (.int .i64 (positionsN x)) ∧ Below w.heap.size w w' := by
  obtain ⟨p, cap, rfl⟩ := hR.shape
  have hs0 := StR.new hR 41
  cases hl : lightB x
  · have hl2 := Lib.hid (lightB_false hl)
    go_enter Try.func37, Try.ntmps37
    go_wp2_with (go_at_call 92; refine (light_any x _ _ hs0.1).mono ?_; rintro e W1 ⟨rfl, hb1⟩; have hs1 := hs0.next hb1)
    go_ret
    exact ⟨ret_int (by have := hl2.out; rw [positionsN, if_neg (by omega)]), StR.bel (by assumption)⟩
  · have hl2 := Lib.hid (lightB_true hl)
    go_enter Try.func37, Try.ntmps37
    go_wp2_with (first
      | (go_at_call 92; refine (light_any x _ _ hs0.1).mono ?_; rintro e W1 ⟨rfl, hb1⟩; have hs1 := hs0.next hb1; obtain ⟨c0, c1, c2, c3, c4, c5, c6, c7⟩ := hs1.2.1; clear hb1)
      | (go_at_call 93; refine (positions_any 10000 x _ _ hl2.out (by omega) (StR.rep (by assumption))).mono ?_; rintro e W2 ⟨rfl, hb2⟩; have hs2 := hs1.next hb2))
    go_ret
    exact ⟨ret_int (by have := hl2.out; rw [positionsN, if_pos this]), StR.bel (by assumption)⟩

/-- a box of a regex -/
def BoxR (w : World) (b : Nat) (x : Node) (sv : Value) : Prop :=
  w.cell? ⟨b, 2, none⟩ = some (.int .u8 x.kind) ∧ w.cell? ⟨b, 3, none⟩ = some (.int .u64 (word x.set 0)) ∧ w.cell? ⟨b, 4, none⟩ = some (.int .u64 (word x.set 1)) ∧ w.cell? ⟨b, 5, none⟩ = some (.int .u64 (word x.set 2)) ∧
  w.cell? ⟨b, 6, none⟩ = some (.int .u64 (word x.set 3)) ∧ w.cell? ⟨b, 7, none⟩ = some (.int .i64 x.min) ∧ w.cell? ⟨b, 8, none⟩ = some (.int .i64 x.max) ∧ w.cell? ⟨b, 9, none⟩ = some sv
def StC (w W : World) (S : Nat → Prop) (x : Node) (sv : Value) : Prop := RepL W S x.subs sv ∧ BoxR W w.heap.size x sv ∧ Below w.heap.size w W ∧ w.heap.size < W.heap.size
@[reducible] def regexC (bg en : Bool) (x : Node) (sv : Value) : Array Value := #[.bool bg, .bool en, .int .u8 x.kind, .int .u64 (word x.set 0), .int .u64 (word x.set 1), .int .u64 (word x.set 2), .int .u64 (word x.set 3), .int .i64 x.min, .int .i64 x.max, sv]
theorem StC.new {w : World} {S : Nat → Prop} {x : Node} {sv : Value} {bg en : Bool} (h : RepL w S x.subs sv) (t : TypeId) : StC w (w.alloc (.cells (regexC bg en x sv) t)) S x sv := by
  refine ⟨h.grow ((Below.refl _ w).alloc (Nat.le_refl _) _), ?_, (Below.refl _ w).alloc (Nat.le_refl _) _, by simp⟩
  have hh := heap_alloc_new w (.cells (regexC bg en x sv) t)
  have e : ∀ j, (w.alloc (.cells (regexC bg en x sv) t)).cell? ⟨w.heap.size, j, none⟩ = (regexC bg en x sv)[j]? := fun j => by rw [cell_of_row _ _ j _ _ _ hh]
  unfold BoxR
  simp only [e]
  exact ⟨rfl, rfl, rfl, rfl, rfl, rfl, rfl, rfl⟩
theorem StC.next {w W W' : World} {S : Nat → Prop} {x : Node} {sv : Value} (h : StC w W S x sv) (hb : Below W.heap.size W W') : StC w W' S x sv := by
  have e : ∀ j, W'.cell? ⟨w.heap.size, j, none⟩ = W.cell? ⟨w.heap.size, j, none⟩ := fun j => World.cell?_of_block (w := W) (a := ⟨w.heap.size, j, none⟩) (hb.block _ h.2.2.2)
  refine ⟨h.1.grow hb, ?_, h.2.2.1.trans (hb.mono h.2.2.1.size), Nat.lt_of_lt_of_le h.2.2.2 hb.size⟩
  have := h.2.1
  unfold BoxR at this ⊢
  simp only [e]
  exact this
theorem StC.rep {w W : World} {S : Nat → Prop} {x : Node} {sv : Value} (h : StC w W S x sv) : RepL W S x.subs sv := h.1
theorem StC.bel {w W : World} {S : Nat → Prop} {x : Node} {sv : Value} (h : StC w W S x sv) : Below w.heap.size w W := h.2.2.1

end Go.Proofs.Ytlagablcopmhkaa
