/- Packed: AlAlt, AlGroup, AlRepeat, Positions, Clean, AlFit, AlPos, AlOf -/
import Derived.Test.YtlagablcopmhkaaProg
import Derived.Test.YtlagablcopmhkaaKRowSteps8
set_option linter.unusedVariables false
set_option linter.unusedSimpArgs false
/- nfa: the maker at Alt. -/
namespace Go.Proofs.Ytlagablcopmhkaa
open Go.RowKit

set_option exponentiation.threshold 1000 in
set_option maxRecDepth 100000 in
theorem zpart : zV [.int .u64 0, .int .u64 0, .int .u64 0, .int .u64 0, .int .u64 0, .int .u64 0, .int .u64 0, .int .u64 0, .int .u64 0, .int .u64 0, .int .u64 0, .int .u64 0, .int .u64 0, .int .u64 0, .bool false] = Pt.V ⟨0, 0, false⟩ := rfl
set_option exponentiation.threshold 1000 in
set_option maxRecDepth 100000 in
set_option maxHeartbeats 2000000 in
theorem kinds5_a {bm : Nat} {sv fv : Value} {M : MS} {k : Nat} {s : BitVec 256} {mn mx : Int} {subs : List Node} (hS : ∀ x ∈ subs, MakeC x) (hM : M.fol.length = M.sets.length) (hn : (mkAlt subs (M, ⟨0, 0, false⟩)).1.sets.length ≤ 448) (hl : subs.length ≤ 1000000) :
    AC Try.prog 140 [.a (nodeV (.mk k s mn mx subs)), .e [ptrM bm] 0] (mk3 bm sv fv M) fun r L' => ∃ sv' fv', r = .a (mkAlt subs (M, ⟨0, 0, false⟩)).2.V ∧ L' = mk3 bm sv' fv' (mkAlt subs (M, ⟨0, 0, false⟩)).1 := by
  refine ac_body _ Try.func140 rfl Try.ntmps140 Try.results140 rfl ?_
  refine aw_seq (aw_region ?_)
  refine aos_cons rfl (aop_box_a rfl rfl rfl rfl ?_)
  intro b2
  refine aos_cons rfl (aop_alloc rfl rfl ?_)
  intro b3
  (repeat (first | refine aos_nil ?_ | refine aos_no rfl rfl rfl rfl rfl ?_ | refine aos_un rfl rfl rfl rfl ?_ | ((first | refine aos_cons rfl ?_ | refine aos_yes rfl rfl rfl ?_); (first | refine qd rfl rfl ?_ | refine qa rfl rfl ?_ | refine qt rfl rfl ?_ | refine qf rfl rfl ?_ | refine qe rfl rfl ?_ | refine qj rfl rfl ?_ | refine gl rfl rfl rfl (by repeat first | exact .z | apply At.s) (by rfl) ?_ | refine gla rfl rfl rfl (by repeat first | exact .z | apply At.s) (by rfl) ?_ | refine glg rfl rfl rfl (by repeat first | exact .z | apply At.s) (by decide) ?_ | refine aop_fieldAddr rfl rfl rfl ?_ | refine gc rfl rfl rfl rfl rfl _ (by first | assumption | rfl) ?_ | refine gcb rfl rfl rfl rfl rfl _ (by first | assumption | rfl) ?_ | refine ga rfl rfl rfl rfl rfl (by omega) (by omega) ?_ | refine gn0 rfl rfl rfl ?_ | refine gn rfl rfl rfl (by repeat first | exact .z | apply At.s) ?_ | refine aop_max rfl rfl rfl rfl ?_ | refine aop_min rfl rfl rfl rfl ?_ | refine gsa rfl rfl rfl rfl (by repeat first | exact .z | apply At.s) rfl (by rfl) rfl ?_ | refine gs rfl rfl rfl rfl (by repeat first | exact .z | apply At.s) (by rfl) rfl ?_ | refine aop_index rfl rfl rfl rfl _ rfl (by omega) ?_ | refine aop_index_arr rfl rfl rfl rfl _ rfl (by omega) ?_ | refine aop_build rfl rfl _ rfl ?_ | refine aop_buildSlice rfl rfl _ rfl rfl (by decide) (by decide) ?_); show AOs _ _ _ _ ((_, _) :: _) _ _) | refine aw_seq ?_ | refine aw_region ?_ | refine aw_block ?_ | refine aw_skip ?_ | refine aw_exit ?_ | refine aw_ret ?_ | refine aw_cond true rfl ?_ | refine aw_cond false rfl ?_))
  refine aos_cons rfl (aop_alloc rfl rfl ?_)
  intro b4
  show AOs _ _ _ _ ((_, _) :: _) (_ :: _) _
  (repeat (first | refine aos_nil ?_ | refine aos_no rfl rfl rfl rfl rfl ?_ | refine aos_un rfl rfl rfl rfl ?_ | ((first | refine aos_cons rfl ?_ | refine aos_yes rfl rfl rfl ?_); (first | refine qd rfl rfl ?_ | refine qa rfl rfl ?_ | refine qt rfl rfl ?_ | refine qf rfl rfl ?_ | refine qe rfl rfl ?_ | refine qj rfl rfl ?_ | refine gl rfl rfl rfl (by repeat first | exact .z | apply At.s) (by rfl) ?_ | refine gla rfl rfl rfl (by repeat first | exact .z | apply At.s) (by rfl) ?_ | refine glg rfl rfl rfl (by repeat first | exact .z | apply At.s) (by decide) ?_ | refine aop_fieldAddr rfl rfl rfl ?_ | refine gc rfl rfl rfl rfl rfl _ (by first | assumption | rfl) ?_ | refine gcb rfl rfl rfl rfl rfl _ (by first | assumption | rfl) ?_ | refine ga rfl rfl rfl rfl rfl (by omega) (by omega) ?_ | refine gn0 rfl rfl rfl ?_ | refine gn rfl rfl rfl (by repeat first | exact .z | apply At.s) ?_ | refine aop_max rfl rfl rfl rfl ?_ | refine aop_min rfl rfl rfl rfl ?_ | refine gsa rfl rfl rfl rfl (by repeat first | exact .z | apply At.s) rfl (by rfl) rfl ?_ | refine gs rfl rfl rfl rfl (by repeat first | exact .z | apply At.s) (by rfl) rfl ?_ | refine aop_index rfl rfl rfl rfl _ rfl (by omega) ?_ | refine aop_index_arr rfl rfl rfl rfl _ rfl (by omega) ?_ | refine aop_build rfl rfl _ rfl ?_ | refine aop_buildSlice rfl rfl _ rfl rfl (by decide) (by decide) ?_); show AOs _ _ _ _ ((_, _) :: _) _ _) | refine aw_seq ?_ | refine aw_region ?_ | refine aw_block ?_ | refine aw_skip ?_ | refine aw_exit ?_ | refine aw_ret ?_ | refine aw_cond true rfl ?_ | refine aw_cond false rfl ?_))
  refine aw_for (ι := Nat × Value × Value × (MS × Pt)) (fun i => [(1, V.e [ptrM bm] 0), (3, V.ptr b3 0), (4, V.ptr b4 0), (9, V.d (.s subs.length 8 (nodesD subs))), (10, V.i subs.length), (11, V.i i.1)])
    (fun i => [.box b4 102 i.2.2.2.2.V, .box b3 102 (Pt.V ⟨0, 0, false⟩)] ++ (.box b2 41 (nodeV (.mk k s mn mx subs)) :: mk3 bm i.2.1 i.2.2.1 i.2.2.2.1))
    (fun i => i.1 ≤ subs.length ∧ mkAlt subs (M, ⟨0, 0, false⟩) = mkAlt (subs.drop i.1) i.2.2.2 ∧ MOk i.2.2.2) (fun i => subs.length - i.1) (0, sv, fv, (M, ⟨0, 0, false⟩)) ⟨Nat.zero_le _, rfl, .zero hM _⟩ (.eqs' rfl (by rw [zpart]; rfl)) ?_
  rintro ⟨i, sv, fv, M0, ⟨of, ol, oe⟩⟩ ⟨hi, he, hok⟩
  show AW _ _ _ _ [(1, V.e [ptrM bm] 0), (3, V.ptr b3 0), (4, V.ptr b4 0), (9, V.d (.s subs.length 8 (nodesD subs))), (10, V.i subs.length), (11, V.i i)] [.box b4 102 (partV of ol oe), .box b3 102 (Pt.V ⟨0, 0, false⟩), .box b2 41 (nodeV (.mk k s mn mx subs)), .row fv 100 7 M0.fol.length (folV M0.fol), .row sv 38 4 M0.sets.length (setsV M0.sets), .box bm 98 [.v sv, .v fv]] _
  have hi : i ≤ subs.length := hi
  have he : mkAlt subs (M, ⟨0, 0, false⟩) = mkAlt (subs.drop i) (M0, ⟨of, ol, oe⟩) := he
  by_cases hlt : i < subs.length
  · have hd : decide ((i : Int) < (subs.length : Int)) = true := by simp; omega
    obtain ⟨x, hx⟩ := some_at hlt
    have hx8 : (nodeV x).length = 8 := by cases x; rfl
    have hdr : subs.drop i = x :: subs.drop (i + 1) := drop_cons hx
    rw [hdr, mkAlt] at he
    obtain ⟨g1, g2⟩ := mkN_ok x M0 hok.len
    have hmk0 := hS x (List.mem_of_getElem? hx) bm sv fv M0 hok.len
    have hok2 : MOk ((mkN x M0).1, (⟨of, ol, oe⟩ : Pt).orP (mkN x M0).2) := ⟨g2.len, fun t h => by
      rw [Pt.orP, Nat.testBit_or, Bool.or_eq_true] at h
      exact h.elim (fun h => Nat.lt_of_lt_of_le (hok.f t h) g1) (g2.f t), fun t h => by
      rw [Pt.orP, Nat.testBit_or, Bool.or_eq_true] at h
      exact h.elim (fun h => Nat.lt_of_lt_of_le (hok.l t h) g1) (g2.l t)⟩
    have hle := (mkAlt_ok (subs.drop (i + 1)) _ hok2).1
    have he2 : mkAlt subs (M, ⟨0, 0, false⟩) = mkAlt (subs.drop (i + 1)) ((mkN x M0).1, (⟨of, ol, oe⟩ : Pt).orP (mkN x M0).2) := he
    rw [← he2] at hle
    have hmk := hmk0 (Nat.le_trans hle hn)
    clear hmk0 hle he
    generalize mkN x M0 = r at hmk hok2 he2
    obtain ⟨M1, ⟨rf, rl, re⟩⟩ := r
    (repeat (first | refine aos_nil ?_ | refine aos_no rfl rfl rfl rfl rfl ?_ | refine aos_un rfl rfl rfl rfl ?_ | ((first | refine aos_cons rfl ?_ | refine aos_yes rfl rfl rfl ?_); (first | refine qd rfl rfl ?_ | refine qa rfl rfl ?_ | refine qt rfl rfl ?_ | refine qf rfl rfl ?_ | refine qe rfl rfl ?_ | refine qj rfl rfl ?_ | refine gl rfl rfl rfl (by repeat first | exact .z | apply At.s) (by rfl) ?_ | refine gla rfl rfl rfl (by repeat first | exact .z | apply At.s) (by rfl) ?_ | refine glg rfl rfl rfl (by repeat first | exact .z | apply At.s) (by decide) ?_ | refine aop_fieldAddr rfl rfl rfl ?_ | refine gc rfl rfl rfl rfl rfl _ (by first | assumption | rfl) ?_ | refine gcb rfl rfl rfl rfl rfl _ (by first | assumption | rfl) ?_ | refine ga rfl rfl rfl rfl rfl (by omega) (by omega) ?_ | refine gn0 rfl rfl rfl ?_ | refine gn rfl rfl rfl (by repeat first | exact .z | apply At.s) ?_ | refine aop_max rfl rfl rfl rfl ?_ | refine aop_min rfl rfl rfl rfl ?_ | refine gsa rfl rfl rfl rfl (by repeat first | exact .z | apply At.s) rfl (by rfl) rfl ?_ | refine gs rfl rfl rfl rfl (by repeat first | exact .z | apply At.s) (by rfl) rfl ?_ | refine aop_index rfl rfl rfl rfl _ rfl (by omega) ?_ | refine aop_index_arr rfl rfl rfl rfl _ rfl (by omega) ?_ | refine aop_build rfl rfl _ rfl ?_ | refine aop_buildSlice rfl rfl _ rfl rfl (by decide) (by decide) ?_); show AOs _ _ _ _ ((_, _) :: _) _ _) | refine aw_seq ?_ | refine aw_region ?_ | refine aw_block ?_ | refine aw_skip ?_ | refine aw_exit ?_ | refine aw_ret ?_ | refine aw_cond true rfl ?_ | refine aw_cond false rfl ?_))
    (first | refine aos_cons rfl ?_ | refine aos_yes rfl rfl rfl ?_); refine aop_load_node (k := i) (y := x) rfl rfl rfl hx ?_; show AOs _ _ _ _ ((_, _) :: _) _ _
    refine aos_cons rfl (aop_alloc rfl rfl ?_)
    intro b6
    show AOs _ _ _ _ ((_, _) :: _) (_ :: _) _
    refine aos_cons rfl (aop_store_all (i := 0) rfl rfl rfl rfl rfl (by cases x; rfl) rfl (by cases x; rfl) ?_)
    show AOs _ _ _ _ ((_, _) :: _) (_ :: _) _
    refine aos_nil (aw_seq (aw_region ?_))
    (first | refine aos_cons rfl ?_ | refine aos_yes rfl rfl rfl ?_); refine aop_load_e rfl rfl rfl rfl ?_; show AOs _ _ _ _ ((_, _) :: _) _ _
    (first | refine aos_cons rfl ?_ | refine aos_yes rfl rfl rfl ?_); refine aop_load_all (i := 0) rfl rfl rfl rfl ⟨rfl, rfl⟩ hx8 ?_; show AOs _ _ _ _ ((_, _) :: _) _ _
    refine aos_cons rfl (aop_call rfl rfl rfl (fun _ _ => by kernel_rfl) (List.perm_append_comm (l₁ := [_, _, _, _])) hmk (.refl _) ?_)
    rintro r L' ⟨sv', fv', rfl, rfl⟩
    show AOs _ _ _ _ ((_, _) :: _) (_ :: _) _
    refine aos_cons rfl (aop_alloc rfl rfl ?_)
    intro b7
    show AOs _ _ _ _ ((_, _) :: _) (_ :: _) _
    refine aos_cons rfl (aop_store_all (i := 0) rfl rfl rfl rfl rfl rfl rfl rfl ?_)
    show AOs _ _ _ _ ((_, _) :: _) (_ :: _) _
    (repeat (first | refine aos_nil ?_ | refine aos_no rfl rfl rfl rfl rfl ?_ | refine aos_un rfl rfl rfl rfl ?_ | ((first | refine aos_cons rfl ?_ | refine aos_yes rfl rfl rfl ?_); (first | refine qd rfl rfl ?_ | refine qa rfl rfl ?_ | refine qt rfl rfl ?_ | refine qf rfl rfl ?_ | refine qe rfl rfl ?_ | refine qj rfl rfl ?_ | refine gl rfl rfl rfl (by repeat first | exact .z | apply At.s) (by rfl) ?_ | refine aop_fieldAddr rfl rfl rfl ?_ | refine gc rfl rfl rfl rfl rfl _ (by first | assumption | rfl) ?_ | refine gcb rfl rfl rfl rfl rfl _ (by first | assumption | rfl) ?_ | refine ga rfl rfl rfl rfl rfl (by omega) (by omega) ?_ | refine gn0 rfl rfl rfl ?_ | refine gn rfl rfl rfl (by repeat first | exact .z | apply At.s) ?_ | refine aop_max rfl rfl rfl rfl ?_ | refine aop_min rfl rfl rfl rfl ?_ | refine gsa rfl rfl rfl rfl (by repeat first | exact .z | apply At.s) rfl (by rfl) rfl ?_ | refine gs rfl rfl rfl rfl (by repeat first | exact .z | apply At.s) (by rfl) rfl ?_ | refine aop_index rfl rfl rfl rfl _ rfl (by omega) ?_ | refine aop_index_arr rfl rfl rfl rfl _ rfl (by omega) ?_ | refine aop_buildSlice rfl rfl _ rfl rfl (by decide) (by decide) ?_); show AOs _ _ _ _ ((_, _) :: _) _ _) | refine aw_seq ?_ | refine aw_region ?_ | refine aw_block ?_ | refine aw_skip ?_ | refine aw_exit ?_ | refine aw_ret ?_ | refine aw_cond true rfl ?_ | refine aw_cond false rfl ?_))
    (first | refine aos_cons rfl ?_ | refine aos_yes rfl rfl rfl ?_); refine aop_load_bits (i := 0) (m := rf) [] (bitsV rl ++ [V.b re]) rfl rfl rfl rfl ⟨rfl, rfl⟩ rfl ?_; show AOs _ _ _ _ ((_, _) :: _) _ _
    refine aos_cons rfl (aop_call rfl rfl rfl (fun _ _ => by kernel_rfl) (perm_at (i := 5) rfl .emp).1 (or_a (ch := .box b4 102 (partV of ol oe)) [] (bitsV ol ++ [V.b oe]) 0 rfl ⟨rfl, rfl⟩) (.refl _) ?_)
    rintro r L' ⟨rfl, rfl⟩
    show AOs _ _ _ _ ((_, _) :: _) (Ch.box b4 102 (partV (of ||| rf) ol oe) :: _) _
    (repeat (first | refine aos_nil ?_ | refine aos_no rfl rfl rfl rfl rfl ?_ | refine aos_un rfl rfl rfl rfl ?_ | ((first | refine aos_cons rfl ?_ | refine aos_yes rfl rfl rfl ?_); (first | refine qd rfl rfl ?_ | refine qa rfl rfl ?_ | refine qt rfl rfl ?_ | refine qf rfl rfl ?_ | refine qe rfl rfl ?_ | refine qj rfl rfl ?_ | refine gl rfl rfl rfl (by repeat first | exact .z | apply At.s) (by rfl) ?_ | refine aop_fieldAddr rfl rfl rfl ?_ | refine gc rfl rfl rfl rfl rfl _ (by first | assumption | rfl) ?_ | refine gcb rfl rfl rfl rfl rfl _ (by first | assumption | rfl) ?_ | refine ga rfl rfl rfl rfl rfl (by omega) (by omega) ?_ | refine gn0 rfl rfl rfl ?_ | refine gn rfl rfl rfl (by repeat first | exact .z | apply At.s) ?_ | refine aop_max rfl rfl rfl rfl ?_ | refine aop_min rfl rfl rfl rfl ?_ | refine gsa rfl rfl rfl rfl (by repeat first | exact .z | apply At.s) rfl (by rfl) rfl ?_ | refine gs rfl rfl rfl rfl (by repeat first | exact .z | apply At.s) (by rfl) rfl ?_ | refine aop_index rfl rfl rfl rfl _ rfl (by omega) ?_ | refine aop_index_arr rfl rfl rfl rfl _ rfl (by omega) ?_ | refine aop_buildSlice rfl rfl _ rfl rfl (by decide) (by decide) ?_); show AOs _ _ _ _ ((_, _) :: _) _ _) | refine aw_seq ?_ | refine aw_region ?_ | refine aw_block ?_ | refine aw_skip ?_ | refine aw_exit ?_ | refine aw_ret ?_ | refine aw_cond true rfl ?_ | refine aw_cond false rfl ?_))
    (first | refine aos_cons rfl ?_ | refine aos_yes rfl rfl rfl ?_); refine aop_load_bits (i := 1) (m := rl) (bitsV rf) [V.b re] rfl rfl rfl rfl ⟨rfl, rfl⟩ rfl ?_; show AOs _ _ _ _ ((_, _) :: _) _ _
    refine aos_cons rfl (aop_call rfl rfl rfl (fun _ _ => by kernel_rfl) (perm_at (i := 0) rfl .emp).1 (or_a (ch := .box b4 102 (partV (of ||| rf) ol oe)) (bitsV (of ||| rf)) [V.b oe] 7 rfl ⟨rfl, rfl⟩) (.refl _) ?_)
    rintro r L' ⟨rfl, rfl⟩
    show AOs _ _ _ _ ((_, _) :: _) (Ch.box b4 102 (partV (of ||| rf) (ol ||| rl) oe) :: _) _
    cases oe
    all_goals
      (repeat (first | refine aos_nil ?_ | refine aos_no rfl rfl rfl rfl rfl ?_ | refine aos_un rfl rfl rfl rfl ?_ | ((first | refine aos_cons rfl ?_ | refine aos_yes rfl rfl rfl ?_); (first | refine qd rfl rfl ?_ | refine qa rfl rfl ?_ | refine qt rfl rfl ?_ | refine qf rfl rfl ?_ | refine qe rfl rfl ?_ | refine qj rfl rfl ?_ | refine gl rfl rfl rfl (by repeat first | exact .z | apply At.s) (by rfl) ?_ | refine gla rfl rfl rfl (by repeat first | exact .z | apply At.s) (by rfl) ?_ | refine glg rfl rfl rfl (by repeat first | exact .z | apply At.s) (by decide) ?_ | refine aop_fieldAddr rfl rfl rfl ?_ | refine gc rfl rfl rfl rfl rfl _ (by first | assumption | rfl) ?_ | refine gcb rfl rfl rfl rfl rfl _ (by first | assumption | rfl) ?_ | refine ga rfl rfl rfl rfl rfl (by omega) (by omega) ?_ | refine gn0 rfl rfl rfl ?_ | refine gn rfl rfl rfl (by repeat first | exact .z | apply At.s) ?_ | refine aop_max rfl rfl rfl rfl ?_ | refine aop_min rfl rfl rfl rfl ?_ | refine gsa rfl rfl rfl rfl (by repeat first | exact .z | apply At.s) rfl (by rfl) rfl ?_ | refine gs rfl rfl rfl rfl (by repeat first | exact .z | apply At.s) (by rfl) rfl ?_ | refine aop_index rfl rfl rfl rfl _ rfl (by omega) ?_ | refine aop_index_arr rfl rfl rfl rfl _ rfl (by omega) ?_ | refine aop_build rfl rfl _ rfl ?_ | refine aop_buildSlice rfl rfl _ rfl rfl (by decide) (by decide) ?_); show AOs _ _ _ _ ((_, _) :: _) _ _) | refine aw_seq ?_ | refine aw_region ?_ | refine aw_block ?_ | refine aw_skip ?_ | refine aw_exit ?_ | refine aw_ret ?_ | refine aw_cond true rfl ?_ | refine aw_cond false rfl ?_))
      refine ⟨(i + 1, sv', fv', (M1, _)), ⟨by show i + 1 ≤ _; omega, he2, hok2⟩, by show subs.length - (i + 1) < subs.length - i; omega, .trans (.sub (.cons_cons _ (.cons _ (.cons_cons _ (.cons_cons _ (.cons_cons _ (.cons _ (.refl _)))))))) (.trans (.perm (.cons _ (List.perm_append_comm (l₁ := [_, _, _]) (l₂ := [_, _])))) (.eqs' rfl rfl))⟩
  · have hd : decide ((i : Int) < (subs.length : Int)) = false := by simp; omega
    obtain rfl : i = subs.length := by omega
    rw [List.drop_length, mkAlt] at he
    (repeat (first | refine aos_nil ?_ | refine aos_no rfl rfl rfl rfl rfl ?_ | refine aos_un rfl rfl rfl rfl ?_ | ((first | refine aos_cons rfl ?_ | refine aos_yes rfl rfl rfl ?_); (first | refine qd rfl rfl ?_ | refine qa rfl rfl ?_ | refine qt rfl rfl ?_ | refine qf rfl rfl ?_ | refine qe rfl rfl ?_ | refine qj rfl rfl ?_ | refine gl rfl rfl rfl (by repeat first | exact .z | apply At.s) (by rfl) ?_ | refine gla rfl rfl rfl (by repeat first | exact .z | apply At.s) (by rfl) ?_ | refine glg rfl rfl rfl (by repeat first | exact .z | apply At.s) (by decide) ?_ | refine aop_fieldAddr rfl rfl rfl ?_ | refine gc rfl rfl rfl rfl rfl _ (by first | assumption | rfl) ?_ | refine gcb rfl rfl rfl rfl rfl _ (by first | assumption | rfl) ?_ | refine ga rfl rfl rfl rfl rfl (by omega) (by omega) ?_ | refine gn0 rfl rfl rfl ?_ | refine gn rfl rfl rfl (by repeat first | exact .z | apply At.s) ?_ | refine aop_max rfl rfl rfl rfl ?_ | refine aop_min rfl rfl rfl rfl ?_ | refine gsa rfl rfl rfl rfl (by repeat first | exact .z | apply At.s) rfl (by rfl) rfl ?_ | refine gs rfl rfl rfl rfl (by repeat first | exact .z | apply At.s) (by rfl) rfl ?_ | refine aop_index rfl rfl rfl rfl _ rfl (by omega) ?_ | refine aop_index_arr rfl rfl rfl rfl _ rfl (by omega) ?_ | refine aop_build rfl rfl _ rfl ?_ | refine aop_buildSlice rfl rfl _ rfl rfl (by decide) (by decide) ?_); show AOs _ _ _ _ ((_, _) :: _) _ _) | refine aw_seq ?_ | refine aw_region ?_ | refine aw_block ?_ | refine aw_skip ?_ | refine aw_exit ?_ | refine aw_ret ?_ | refine aw_cond true rfl ?_ | refine aw_cond false rfl ?_))
    exact fpost (.inr rfl) (.a (partV of ol oe)) (.refl _ _) (res_cell (i := 1) rfl rfl rfl) (.cons _ (.cons _ (.cons _ (.refl _)))) ⟨sv, fv, by rw [he]; rfl, by rw [he]⟩
end Go.Proofs.Ytlagablcopmhkaa
/- nfa: the maker at Group. -/
namespace Go.Proofs.Ytlagablcopmhkaa
open Go.RowKit

set_option maxRecDepth 100000 in
set_option maxHeartbeats 2000000 in
theorem kinds6_a {bm : Nat} {sv fv : Value} {M : MS} {k : Nat} {s : BitVec 256} {mn mx : Int} {x : Node} {l : List Node} (hS : MakeC x) (hM : M.fol.length = M.sets.length) (hn : (mkN x M).1.sets.length ≤ 448) :
    AC Try.prog 143 [.a (nodeV (.mk k s mn mx (x :: l))), .e [ptrM bm] 0] (mk3 bm sv fv M) fun r L' => ∃ sv' fv', r = .a (mkN x M).2.V ∧ L' = mk3 bm sv' fv' (mkN x M).1 := by
  have hmk := hS bm sv fv M hM hn
  refine ac_body _ Try.func143 rfl Try.ntmps143 Try.results143 rfl ?_
  refine aw_seq (aw_region ?_)
  refine aos_cons rfl (aop_box_a rfl rfl rfl rfl ?_)
  intro b2
  refine aos_cons rfl (aop_alloc rfl rfl ?_)
  intro b3
  refine aos_nil (aw_seq ?_)
  refine aw_le (sl' := [(1, V.e [ptrM bm] 0), (2, V.ptr b2 0), (3, V.ptr b3 0)]) (.eqs rfl) ?_
  refine aw_drawH 5 [4, 5, 6, 7, 8] (by kernel_rfl) (by kernel_rfl) rfl (by kernel_rfl) ?_; refine drawh_q [] rfl rfl rfl (by kernel_rfl) (aq_plain rfl (by first | exact aop_load_e rfl rfl rfl rfl ⟨rfl, rfl⟩ | exact aop_load_node (k := 0) (l := x :: l) rfl rfl rfl rfl ⟨rfl, rfl⟩ | exact gl rfl rfl rfl (by repeat first | exact .z | apply At.s) (by rfl) ⟨rfl, rfl⟩ | exact gla rfl rfl rfl (by repeat first | exact .z | apply At.s) (by rfl) ⟨rfl, rfl⟩ | exact glg rfl rfl rfl (by repeat first | exact .z | apply At.s) (by decide) ⟨rfl, rfl⟩)) ?_; refine drawh_q [] rfl rfl rfl (by kernel_rfl) (aq_plain rfl (by first | exact aop_index rfl rfl rfl rfl 0 rfl (Nat.succ_pos _) ⟨rfl, rfl⟩ | exact aop_fieldAddr rfl rfl rfl ⟨rfl, rfl⟩)) ?_; refine drawh_q [5] rfl rfl rfl (by kernel_rfl) (aq_plain rfl (by first | exact aop_load_e rfl rfl rfl rfl ⟨rfl, rfl⟩ | exact aop_load_node (k := 0) (l := x :: l) rfl rfl rfl rfl ⟨rfl, rfl⟩ | exact gl rfl rfl rfl (by repeat first | exact .z | apply At.s) (by rfl) ⟨rfl, rfl⟩ | exact gla rfl rfl rfl (by repeat first | exact .z | apply At.s) (by rfl) ⟨rfl, rfl⟩ | exact glg rfl rfl rfl (by repeat first | exact .z | apply At.s) (by decide) ⟨rfl, rfl⟩)) ?_; refine drawh_q [6] rfl rfl rfl (by kernel_rfl) (aq_plain rfl (by first | exact aop_index rfl rfl rfl rfl 0 rfl (Nat.succ_pos _) ⟨rfl, rfl⟩ | exact aop_index rfl rfl rfl rfl _ rfl (by omega) ⟨rfl, rfl⟩ | exact aop_index_arr rfl rfl rfl rfl _ rfl (by omega) ⟨rfl, rfl⟩)) ?_; refine drawh_q [7] rfl rfl rfl (by kernel_rfl) (aq_plain rfl (by first | exact aop_load_e rfl rfl rfl rfl ⟨rfl, rfl⟩ | exact aop_load_node (k := 0) (l := x :: l) rfl rfl rfl rfl ⟨rfl, rfl⟩ | exact gl rfl rfl rfl (by repeat first | exact .z | apply At.s) (by rfl) ⟨rfl, rfl⟩ | exact gla rfl rfl rfl (by repeat first | exact .z | apply At.s) (by rfl) ⟨rfl, rfl⟩ | exact glg rfl rfl rfl (by repeat first | exact .z | apply At.s) (by decide) ⟨rfl, rfl⟩)) ?_; refine drawh_nil (.refl _) ?_; intro β
  refine aos_cons rfl (aop_call rfl rfl rfl (fun _ _ => by kernel_rfl) (List.perm_append_comm (l₁ := [_, _])) hmk (.refl _) ?_)
  rintro r L' ⟨sv', fv', rfl, rfl⟩
  show AOs _ _ _ _ ((_, _) :: _) (_ :: _) _
  refine aos_cons rfl (aop_store_all (i := 3) rfl rfl rfl rfl rfl rfl rfl rfl ?_)
  show AOs _ _ _ _ ((_, _) :: _) (_ :: _) _
  (repeat (first | refine aos_nil ?_ | refine aos_no rfl rfl rfl rfl rfl ?_ | refine aos_un rfl rfl rfl rfl ?_ | ((first | refine aos_cons rfl ?_ | refine aos_yes rfl rfl rfl ?_); (first | refine qd rfl rfl ?_ | refine qa rfl rfl ?_ | refine qt rfl rfl ?_ | refine qf rfl rfl ?_ | refine qe rfl rfl ?_ | refine qj rfl rfl ?_ | refine gl rfl rfl rfl (by repeat first | exact .z | apply At.s) (by rfl) ?_ | refine gla rfl rfl rfl (by repeat first | exact .z | apply At.s) (by rfl) ?_ | refine glg rfl rfl rfl (by repeat first | exact .z | apply At.s) (by decide) ?_ | refine aop_fieldAddr rfl rfl rfl ?_ | refine gc rfl rfl rfl rfl rfl _ (by first | assumption | rfl) ?_ | refine gcb rfl rfl rfl rfl rfl _ (by first | assumption | rfl) ?_ | refine ga rfl rfl rfl rfl rfl (by omega) (by omega) ?_ | refine gn0 rfl rfl rfl ?_ | refine gn rfl rfl rfl (by repeat first | exact .z | apply At.s) ?_ | refine aop_max rfl rfl rfl rfl ?_ | refine aop_min rfl rfl rfl rfl ?_ | refine gsa rfl rfl rfl rfl (by repeat first | exact .z | apply At.s) rfl (by rfl) rfl ?_ | refine gs rfl rfl rfl rfl (by repeat first | exact .z | apply At.s) (by rfl) rfl ?_ | refine aop_index rfl rfl rfl rfl _ rfl (by omega) ?_ | refine aop_index_arr rfl rfl rfl rfl _ rfl (by omega) ?_ | refine aop_build rfl rfl _ rfl ?_ | refine aop_buildSlice rfl rfl _ rfl rfl (by decide) (by decide) ?_); show AOs _ _ _ _ ((_, _) :: _) _ _) | refine aw_seq ?_ | refine aw_region ?_ | refine aw_block ?_ | refine aw_skip ?_ | refine aw_exit ?_ | refine aw_ret ?_ | refine aw_cond true rfl ?_ | refine aw_cond false rfl ?_))
  exact fpost (.inr rfl) (.a (mkN x M).2.V) (.refl _ _) (res_cell (i := 3) rfl rfl rfl) (L2 := mk3 bm sv' fv' (mkN x M).1) (.cons_cons _ (.cons_cons _ (.cons_cons _ (List.nil_sublist _)))) ⟨sv', fv', rfl, rfl⟩
end Go.Proofs.Ytlagablcopmhkaa
/- nfa: the maker at Repeat. -/
namespace Go.Proofs.Ytlagablcopmhkaa
open Go.RowKit

theorem repUp_mono {g : MS → MS × Pt} (hg : ∀ M, MGo M (g M)) (mn mx : Int) (many : Nat) {s : MS × Pt} (hs : MOk s) : ∀ d k, (repUp g mn mx many k s).1.sets.length ≤ (repUp g mn mx many (k + d) s).1.sets.length
  | 0, k => Nat.le_refl _
  | d + 1, k => by
    have h1 := repUp_mono hg mn mx many hs d k
    obtain ⟨_, h2⟩ := repUp_ok hg mn mx many hs (k + d)
    obtain ⟨h3, h4, _⟩ := repRound_ok hg mn mx many (k + d) h2
    rw [← Nat.add_assoc, repUp, ← h4]; omega

set_option exponentiation.threshold 1000 in
set_option maxRecDepth 100000 in
set_option maxHeartbeats 4000000 in
theorem repeat_a {bm : Nat} {sv fv : Value} {M : MS} {k : Nat} {s : BitVec 256} {mn mx : Int} {x : Node} {l : List Node} (hS : MakeC x) (hM : M.fol.length = M.sets.length) (hb : mn ≤ 1000000 ∧ mx ≤ 1000000)
    (hn : (repUp (mkN x) mn mx (manyR mn mx) (manyR mn mx) (M, ⟨0, 0, true⟩)).1.sets.length ≤ 448) :
    AC Try.prog 142 [.ptr bm 0, .a (nodeV (.mk k s mn mx (x :: l)))] (mk3 bm sv fv M) fun r L' => ∃ sv' fv', r = .a (repUp (mkN x) mn mx (manyR mn mx) (manyR mn mx) (M, ⟨0, 0, true⟩)).2.V ∧ L' = mk3 bm sv' fv' (repUp (mkN x) mn mx (manyR mn mx) (manyR mn mx) (M, ⟨0, 0, true⟩)).1 := by
  refine ac_body _ Try.func142 rfl Try.ntmps142 Try.results142 rfl ?_
  refine aw_seq (aw_region ?_)
  refine aos_cons rfl (aop_box_a rfl rfl rfl rfl ?_)
  intro b3
  refine aos_cons rfl (aop_alloc rfl rfl ?_)
  intro b4
  have hq : (if decide (mx = -1) = true then max mn 1 else mx) = (if mx = -1 then max mn 1 else mx) := by simp
  have hQ : (if mx = -1 then max mn 1 else mx) ≤ 1000000 := by split <;> omega
  have hN : manyR mn mx = (if mx = -1 then max mn 1 else mx).toNat := rfl
  generalize (if mx = -1 then max mn 1 else mx) = q at hq hQ hN
  generalize manyR mn mx = N at hN hn
  have hg : ∀ M, MGo M (mkN x M) := fun M => mkN_ok x M
  have hx8 : (nodeV x).length = 8 := by cases x; rfl
  cases hm : decide (mx = -1)
  all_goals
    rw [hm] at hq
    (repeat (first | refine aos_nil ?_ | refine aos_no rfl rfl rfl rfl rfl ?_ | refine aos_un rfl rfl rfl rfl ?_ | ((first | refine aos_cons rfl ?_ | refine aos_yes rfl rfl rfl ?_); (first | refine qd rfl rfl ?_ | refine qa rfl rfl ?_ | refine qt rfl rfl ?_ | refine qf rfl rfl ?_ | refine qe rfl rfl ?_ | refine qj rfl rfl ?_ | refine gl rfl rfl rfl (by repeat first | exact .z | apply At.s) (by rfl) ?_ | refine gla rfl rfl rfl (by repeat first | exact .z | apply At.s) (by rfl) ?_ | refine glg rfl rfl rfl (by repeat first | exact .z | apply At.s) (by decide) ?_ | refine aop_fieldAddr rfl rfl rfl ?_ | refine gc rfl rfl rfl rfl rfl _ (by first | assumption | rfl) ?_ | refine gcb rfl rfl rfl rfl rfl _ (by first | assumption | rfl) ?_ | refine ga rfl rfl rfl rfl rfl (by omega) (by omega) ?_ | refine gn0 rfl rfl rfl ?_ | refine gn rfl rfl rfl (by repeat first | exact .z | apply At.s) ?_ | refine aop_max rfl rfl rfl rfl ?_ | refine aop_min rfl rfl rfl rfl ?_ | refine gsa rfl rfl rfl rfl (by repeat first | exact .z | apply At.s) rfl (by rfl) rfl ?_ | refine gs rfl rfl rfl rfl (by repeat first | exact .z | apply At.s) (by rfl) rfl ?_ | refine aop_index rfl rfl rfl rfl _ rfl (by omega) ?_ | refine aop_index_arr rfl rfl rfl rfl _ rfl (by omega) ?_ | refine aop_buildSlice rfl rfl _ rfl rfl (by decide) (by decide) ?_); show AOs _ _ _ _ ((_, _) :: _) _ _) | refine aw_seq ?_ | refine aw_region ?_ | refine aw_block ?_ | refine aw_skip ?_ | refine aw_exit ?_ | refine aw_ret ?_ | refine aw_cond true rfl ?_ | refine aw_cond false rfl ?_))
    refine aos_le (sl' := [(0, V.ptr bm 0), (3, V.ptr b3 0), (4, V.ptr b4 0), (5, V.i q)]) (.eqs (by rw [← hq]; rfl)) ?_ rfl
    (first | refine aos_cons rfl ?_ | refine aos_yes rfl rfl rfl ?_); refine aop_build rfl rfl (Pt.V ⟨0, 0, true⟩) rfl ?_; show AOs _ _ _ _ ((_, _) :: _) _ _
    refine aos_cons rfl (aop_alloc rfl rfl ?_)
    intro b6
    show AOs _ _ _ _ ((_, _) :: _) (_ :: _) _
    refine aos_cons rfl (aop_store_all (i := 0) rfl rfl rfl rfl rfl rfl rfl rfl ?_)
    show AOs _ _ _ _ ((_, _) :: _) (_ :: _) _
    (repeat (first | refine aos_nil ?_ | refine aos_no rfl rfl rfl rfl rfl ?_ | refine aos_un rfl rfl rfl rfl ?_ | ((first | refine aos_cons rfl ?_ | refine aos_yes rfl rfl rfl ?_); (first | refine qd rfl rfl ?_ | refine qa rfl rfl ?_ | refine qt rfl rfl ?_ | refine qf rfl rfl ?_ | refine qe rfl rfl ?_ | refine qj rfl rfl ?_ | refine gl rfl rfl rfl (by repeat first | exact .z | apply At.s) (by rfl) ?_ | refine gla rfl rfl rfl (by repeat first | exact .z | apply At.s) (by rfl) ?_ | refine glg rfl rfl rfl (by repeat first | exact .z | apply At.s) (by decide) ?_ | refine aop_fieldAddr rfl rfl rfl ?_ | refine gc rfl rfl rfl rfl rfl _ (by first | assumption | rfl) ?_ | refine gcb rfl rfl rfl rfl rfl _ (by first | assumption | rfl) ?_ | refine ga rfl rfl rfl rfl rfl (by omega) (by omega) ?_ | refine gn0 rfl rfl rfl ?_ | refine gn rfl rfl rfl (by repeat first | exact .z | apply At.s) ?_ | refine aop_max rfl rfl rfl rfl ?_ | refine aop_min rfl rfl rfl rfl ?_ | refine gsa rfl rfl rfl rfl (by repeat first | exact .z | apply At.s) rfl (by rfl) rfl ?_ | refine gs rfl rfl rfl rfl (by repeat first | exact .z | apply At.s) (by rfl) rfl ?_ | refine aop_index rfl rfl rfl rfl _ rfl (by omega) ?_ | refine aop_index_arr rfl rfl rfl rfl _ rfl (by omega) ?_ | refine aop_build rfl rfl _ rfl ?_ | refine aop_buildSlice rfl rfl _ rfl rfl (by decide) (by decide) ?_); show AOs _ _ _ _ ((_, _) :: _) _ _) | refine aw_seq ?_ | refine aw_region ?_ | refine aw_block ?_ | refine aw_skip ?_ | refine aw_exit ?_ | refine aw_ret ?_ | refine aw_cond true rfl ?_ | refine aw_cond false rfl ?_))
    refine aw_for (ι := Nat × Value × Value) (fun i => [(0, V.ptr bm 0), (3, V.ptr b3 0), (4, V.ptr b4 0), (5, V.i q), (6, V.ptr b6 0), (17, V.i q), (18, V.i i.1)])
      (fun i => .box b6 102 (repUp (mkN x) mn mx N i.1 (M, ⟨0, 0, true⟩)).2.V :: .box b4 102 (Pt.V ⟨0, 0, false⟩) :: .box b3 41 (nodeV (.mk k s mn mx (x :: l))) :: mk3 bm i.2.1 i.2.2 (repUp (mkN x) mn mx N i.1 (M, ⟨0, 0, true⟩)).1)
      (fun i => i.1 ≤ N) (fun i => N - i.1) (0, sv, fv) (Nat.zero_le _) (.eqs' rfl (by rw [zpart]; rfl)) ?_
    rintro ⟨i, sv, fv⟩ hi
    have hi : i ≤ N := hi
    obtain ⟨_, hok⟩ := repUp_ok hg mn mx N (.zero hM true) i
    by_cases hlt : i < N
    · have hd : decide ((i : Int) < q) = true := by simp; omega
      have hmono := repUp_mono hg mn mx N (.zero hM true) (N - (i + 1)) (i + 1)
      rw [show i + 1 + (N - (i + 1)) = N by omega] at hmono
      obtain ⟨g0, g1, g2⟩ := repRound_ok hg mn mx N i hok
      rw [repUp, ← g1] at hmono
      have hmk := hS bm sv fv (repUp (mkN x) mn mx N i (M, ⟨0, 0, true⟩)).1 hok.len (Nat.le_trans hmono hn)
      clear hmono g0 g1
      have hnext : repUp (mkN x) mn mx N (i + 1) (M, ⟨0, 0, true⟩) = repRound (mkN x) mn mx N i (repUp (mkN x) mn mx N i (M, ⟨0, 0, true⟩)) := rfl
      have hgo := hg (repUp (mkN x) mn mx N i (M, ⟨0, 0, true⟩)).1 hok.len
      generalize repUp (mkN x) mn mx N i (M, ⟨0, 0, true⟩) = st at *
      unfold repRound at hnext g2
      generalize mkN x st.1 = r at *
      obtain ⟨M1, ⟨rf, rl, re⟩⟩ := r
      show AW _ _ _ _ [(0, V.ptr bm 0), (3, V.ptr b3 0), (4, V.ptr b4 0), (5, V.i q), (6, V.ptr b6 0), (17, V.i q), (18, V.i i)] (.box b6 102 st.2.V :: .box b4 102 (Pt.V ⟨0, 0, false⟩) :: .box b3 41 (nodeV (.mk k s mn mx (x :: l))) :: mk3 bm sv fv st.1) _
      (repeat (first | refine aos_nil ?_ | refine aos_no rfl rfl rfl rfl rfl ?_ | refine aos_un rfl rfl rfl rfl ?_ | ((first | refine aos_cons rfl ?_ | refine aos_yes rfl rfl rfl ?_); (first | refine qd rfl rfl ?_ | refine qa rfl rfl ?_ | refine qt rfl rfl ?_ | refine qf rfl rfl ?_ | refine qe rfl rfl ?_ | refine qj rfl rfl ?_ | refine gl rfl rfl rfl (by repeat first | exact .z | apply At.s) (by rfl) ?_ | refine gla rfl rfl rfl (by repeat first | exact .z | apply At.s) (by rfl) ?_ | refine glg rfl rfl rfl (by repeat first | exact .z | apply At.s) (by decide) ?_ | refine aop_fieldAddr rfl rfl rfl ?_ | refine gc rfl rfl rfl rfl rfl _ (by first | assumption | rfl) ?_ | refine gcb rfl rfl rfl rfl rfl _ (by first | assumption | rfl) ?_ | refine ga rfl rfl rfl rfl rfl (by omega) (by omega) ?_ | refine gn0 rfl rfl rfl ?_ | refine gn rfl rfl rfl (by repeat first | exact .z | apply At.s) ?_ | refine aop_max rfl rfl rfl rfl ?_ | refine aop_min rfl rfl rfl rfl ?_ | refine gsa rfl rfl rfl rfl (by repeat first | exact .z | apply At.s) rfl (by rfl) rfl ?_ | refine gs rfl rfl rfl rfl (by repeat first | exact .z | apply At.s) (by rfl) rfl ?_ | refine aop_index rfl rfl rfl rfl _ rfl (by omega) ?_ | refine aop_index_arr rfl rfl rfl rfl _ rfl (by omega) ?_ | refine aop_build rfl rfl _ rfl ?_ | refine aop_buildSlice rfl rfl _ rfl rfl (by decide) (by decide) ?_); show AOs _ _ _ _ ((_, _) :: _) _ _) | refine aw_seq ?_ | refine aw_region ?_ | refine aw_block ?_ | refine aw_skip ?_ | refine aw_exit ?_ | refine aw_ret ?_ | refine aw_cond true rfl ?_ | refine aw_cond false rfl ?_))
      (first | refine aos_cons rfl ?_ | refine aos_yes rfl rfl rfl ?_); refine aop_index rfl rfl rfl rfl 0 rfl (Nat.succ_pos _) ?_; show AOs _ _ _ _ ((_, _) :: _) _ _
      (first | refine aos_cons rfl ?_ | refine aos_yes rfl rfl rfl ?_); refine aop_load_node (k := 0) (l := x :: l) rfl rfl rfl rfl ?_; show AOs _ _ _ _ ((_, _) :: _) _ _
      refine aos_cons rfl (aop_call rfl rfl rfl (fun _ _ => by kernel_rfl) (List.perm_append_comm (l₁ := [_, _, _])) hmk (.refl _) ?_)
      rintro r L' ⟨sv', fv', rfl, rfl⟩
      refine aos_le (.perm (List.perm_append_comm (l₁ := [_, _, _]) (l₂ := [_, _, _]))) ?_ rfl
      show AOs _ _ _ _ ((_, _) :: _) (_ :: _) _
      refine aos_cons rfl (aop_alloc rfl rfl ?_)
      intro b8
      show AOs _ _ _ _ ((_, _) :: _) (_ :: _) _
      refine aos_cons rfl (aop_store_all (i := 0) rfl rfl rfl rfl rfl rfl rfl rfl ?_)
      show AOs _ _ _ _ ((_, _) :: _) (_ :: _) _
      have hsets := hgo.1
      have hb5 := hgo.2
      have hstl : ∀ t, st.2.l.testBit t = true → t < M1.sets.length := fun t h => Nat.lt_of_lt_of_le (hok.l t h) hsets
      dsimp only at hnext
      have hm' := hm
      simp at hm'
      by_cases hif : mx = -1 ∧ i + 1 = N
      all_goals try (exact absurd hif.1 hm')
      all_goals
        try have hlast : decide ((i : Int) = q - 1) = true := by simp; omega
        try have hlast : decide ((i : Int) = q - 1) = false := by simp; omega
        first | rw [if_pos hif] at hnext | rw [if_neg hif] at hnext
        cases hge : decide (mn ≤ (i : Int))
        all_goals
          rw [hge] at hnext
          cases re
          all_goals
            (repeat (first | refine aos_nil ?_ | refine aos_no rfl rfl rfl rfl rfl ?_ | refine aos_un rfl rfl rfl rfl ?_ | ((first | refine aos_cons rfl ?_ | refine aos_yes rfl rfl rfl ?_); (first | refine qd rfl rfl ?_ | refine qa rfl rfl ?_ | refine qt rfl rfl ?_ | refine qf rfl rfl ?_ | refine qe rfl rfl ?_ | refine qj rfl rfl ?_ | refine gl rfl rfl rfl (by repeat first | exact .z | apply At.s) (by rfl) ?_ | refine aop_fieldAddr rfl rfl rfl ?_ | refine gc rfl rfl rfl rfl rfl _ (by first | assumption | rfl) ?_ | refine gcb rfl rfl rfl rfl rfl _ (by first | assumption | rfl) ?_ | refine ga rfl rfl rfl rfl rfl (by omega) (by omega) ?_ | refine gn0 rfl rfl rfl ?_ | refine gn rfl rfl rfl (by repeat first | exact .z | apply At.s) ?_ | refine aop_max rfl rfl rfl rfl ?_ | refine aop_min rfl rfl rfl rfl ?_ | refine gsa rfl rfl rfl rfl (by repeat first | exact .z | apply At.s) rfl (by rfl) rfl ?_ | refine gs rfl rfl rfl rfl (by repeat first | exact .z | apply At.s) (by rfl) rfl ?_ | refine aop_index rfl rfl rfl rfl _ rfl (by omega) ?_ | refine aop_index_arr rfl rfl rfl rfl _ rfl (by omega) ?_ | refine aop_buildSlice rfl rfl _ rfl rfl (by decide) (by decide) ?_); show AOs _ _ _ _ ((_, _) :: _) _ _) | refine aw_seq ?_ | refine aw_region ?_ | refine aw_block ?_ | refine aw_skip ?_ | refine aw_exit ?_ | refine aw_ret ?_ | refine aw_cond true rfl ?_ | refine aw_cond false rfl ?_))
            try (
              (first | refine aos_cons rfl ?_ | refine aos_yes rfl rfl rfl ?_); refine aop_load_bits (i := 0) (m := rl) (bitsV rf) [V.b _] rfl rfl rfl rfl ⟨rfl, rfl⟩ rfl ?_; show AOs _ _ _ _ ((_, _) :: _) _ _
              (repeat (first | refine aos_nil ?_ | refine aos_no rfl rfl rfl rfl rfl ?_ | refine aos_un rfl rfl rfl rfl ?_ | ((first | refine aos_cons rfl ?_ | refine aos_yes rfl rfl rfl ?_); (first | refine qd rfl rfl ?_ | refine qa rfl rfl ?_ | refine qt rfl rfl ?_ | refine qf rfl rfl ?_ | refine qe rfl rfl ?_ | refine qj rfl rfl ?_ | refine gl rfl rfl rfl (by repeat first | exact .z | apply At.s) (by rfl) ?_ | refine aop_fieldAddr rfl rfl rfl ?_ | refine gc rfl rfl rfl rfl rfl _ (by first | assumption | rfl) ?_ | refine gcb rfl rfl rfl rfl rfl _ (by first | assumption | rfl) ?_ | refine ga rfl rfl rfl rfl rfl (by omega) (by omega) ?_ | refine gn0 rfl rfl rfl ?_ | refine gn rfl rfl rfl (by repeat first | exact .z | apply At.s) ?_ | refine aop_max rfl rfl rfl rfl ?_ | refine aop_min rfl rfl rfl rfl ?_ | refine gsa rfl rfl rfl rfl (by repeat first | exact .z | apply At.s) rfl (by rfl) rfl ?_ | refine gs rfl rfl rfl rfl (by repeat first | exact .z | apply At.s) (by rfl) rfl ?_ | refine aop_index rfl rfl rfl rfl _ rfl (by omega) ?_ | refine aop_index_arr rfl rfl rfl rfl _ rfl (by omega) ?_ | refine aop_buildSlice rfl rfl _ rfl rfl (by decide) (by decide) ?_); show AOs _ _ _ _ ((_, _) :: _) _ _) | refine aw_seq ?_ | refine aw_region ?_ | refine aw_block ?_ | refine aw_skip ?_ | refine aw_exit ?_ | refine aw_ret ?_ | refine aw_cond true rfl ?_ | refine aw_cond false rfl ?_))
              (first | refine aos_cons rfl ?_ | refine aos_yes rfl rfl rfl ?_); refine aop_load_bits (i := 0) (m := rf) [] (bitsV rl ++ [V.b _]) rfl rfl rfl rfl ⟨rfl, rfl⟩ rfl ?_; show AOs _ _ _ _ ((_, _) :: _) _ _
              refine aos_cons rfl (aop_call rfl rfl rfl (fun _ _ => by kernel_rfl) (List.perm_append_comm (l₁ := [_, _, _, _])) (loop3 ⟨rf, rl, _⟩ hb5.len hb5.l) (.refl _) ?_)
              rintro r L' ⟨rfl, rfl⟩
              refine aos_nil (aw_le (.perm (List.perm_append_comm (l₁ := [_, _, _]) (l₂ := [_, _, _, _]))) ?_)
              (repeat (first | refine aos_nil ?_ | refine aos_no rfl rfl rfl rfl rfl ?_ | refine aos_un rfl rfl rfl rfl ?_ | ((first | refine aos_cons rfl ?_ | refine aos_yes rfl rfl rfl ?_); (first | refine qd rfl rfl ?_ | refine qa rfl rfl ?_ | refine qt rfl rfl ?_ | refine qf rfl rfl ?_ | refine qe rfl rfl ?_ | refine qj rfl rfl ?_ | refine gl rfl rfl rfl (by repeat first | exact .z | apply At.s) (by rfl) ?_ | refine aop_fieldAddr rfl rfl rfl ?_ | refine gc rfl rfl rfl rfl rfl _ (by first | assumption | rfl) ?_ | refine gcb rfl rfl rfl rfl rfl _ (by first | assumption | rfl) ?_ | refine ga rfl rfl rfl rfl rfl (by omega) (by omega) ?_ | refine gn0 rfl rfl rfl ?_ | refine gn rfl rfl rfl (by repeat first | exact .z | apply At.s) ?_ | refine aop_max rfl rfl rfl rfl ?_ | refine aop_min rfl rfl rfl rfl ?_ | refine gsa rfl rfl rfl rfl (by repeat first | exact .z | apply At.s) rfl (by rfl) rfl ?_ | refine gs rfl rfl rfl rfl (by repeat first | exact .z | apply At.s) (by rfl) rfl ?_ | refine aop_index rfl rfl rfl rfl _ rfl (by omega) ?_ | refine aop_index_arr rfl rfl rfl rfl _ rfl (by omega) ?_ | refine aop_buildSlice rfl rfl _ rfl rfl (by decide) (by decide) ?_); show AOs _ _ _ _ ((_, _) :: _) _ _) | refine aw_seq ?_ | refine aw_region ?_ | refine aw_block ?_ | refine aw_skip ?_ | refine aw_exit ?_ | refine aw_ret ?_ | refine aw_cond true rfl ?_ | refine aw_cond false rfl ?_))
            )
            refine aos_le (.eqs' (sl' := [(51, V.ptr bm 0), (0, V.ptr bm 0), (3, V.ptr b3 0), (4, V.ptr b4 0), (5, V.i q), (6, V.ptr b6 0), (8, V.ptr b8 0), (17, V.i q), (18, V.i i)]) (L' := .box b8 102 (partV rf rl _) :: .box b6 102 st.2.V :: .box b4 102 (Pt.V ⟨0, 0, false⟩) :: .box b3 41 (nodeV (.mk k s mn mx (x :: l))) :: mk3 bm sv' fv' _) rfl rfl) ?_ rfl
            (first | refine aos_cons rfl ?_ | refine aos_yes rfl rfl rfl ?_); refine aop_load_all (i := 1) rfl rfl rfl rfl ⟨rfl, rfl⟩ rfl ?_; show AOs _ _ _ _ ((_, _) :: _) _ _
            (first | refine aos_cons rfl ?_ | refine aos_yes rfl rfl rfl ?_); refine aop_load_all (i := 0) rfl rfl rfl rfl ⟨rfl, rfl⟩ rfl ?_; show AOs _ _ _ _ ((_, _) :: _) _ _
            refine aos_cons rfl (aop_call rfl rfl rfl (fun _ _ => by kernel_rfl) (List.perm_append_comm (l₁ := [_, _, _, _])) (then3 st.2 ⟨rf, rl, _⟩ (by first | exact hb5.len | exact (thenS_len _ _ _).trans hb5.len) (fun t h => hstl t h)) (.refl _) ?_)
            rintro r L' ⟨rfl, rfl⟩
            show AOs _ _ _ _ ((_, _) :: _) (_ :: _) _
            refine aos_cons rfl (aop_store_all (i := 4) rfl rfl rfl rfl rfl rfl rfl rfl ?_)
            show AOs _ _ _ _ ((_, _) :: _) (_ :: _) _
            (repeat (first | refine aos_nil ?_ | refine aos_no rfl rfl rfl rfl rfl ?_ | refine aos_un rfl rfl rfl rfl ?_ | ((first | refine aos_cons rfl ?_ | refine aos_yes rfl rfl rfl ?_); (first | refine qd rfl rfl ?_ | refine qa rfl rfl ?_ | refine qt rfl rfl ?_ | refine qf rfl rfl ?_ | refine qe rfl rfl ?_ | refine qj rfl rfl ?_ | refine gl rfl rfl rfl (by repeat first | exact .z | apply At.s) (by rfl) ?_ | refine gla rfl rfl rfl (by repeat first | exact .z | apply At.s) (by rfl) ?_ | refine glg rfl rfl rfl (by repeat first | exact .z | apply At.s) (by decide) ?_ | refine aop_fieldAddr rfl rfl rfl ?_ | refine gc rfl rfl rfl rfl rfl _ (by first | assumption | rfl) ?_ | refine gcb rfl rfl rfl rfl rfl _ (by first | assumption | rfl) ?_ | refine ga rfl rfl rfl rfl rfl (by omega) (by omega) ?_ | refine gn0 rfl rfl rfl ?_ | refine gn rfl rfl rfl (by repeat first | exact .z | apply At.s) ?_ | refine aop_max rfl rfl rfl rfl ?_ | refine aop_min rfl rfl rfl rfl ?_ | refine gsa rfl rfl rfl rfl (by repeat first | exact .z | apply At.s) rfl (by rfl) rfl ?_ | refine gs rfl rfl rfl rfl (by repeat first | exact .z | apply At.s) (by rfl) rfl ?_ | refine aop_index rfl rfl rfl rfl _ rfl (by omega) ?_ | refine aop_index_arr rfl rfl rfl rfl _ rfl (by omega) ?_ | refine aop_build rfl rfl _ rfl ?_ | refine aop_buildSlice rfl rfl _ rfl rfl (by decide) (by decide) ?_); show AOs _ _ _ _ ((_, _) :: _) _ _) | refine aw_seq ?_ | refine aw_region ?_ | refine aw_block ?_ | refine aw_skip ?_ | refine aw_exit ?_ | refine aw_ret ?_ | refine aw_cond true rfl ?_ | refine aw_cond false rfl ?_))
            exact ⟨(i + 1, sv', fv'), by show i + 1 ≤ N; omega, by show N - (i + 1) < N - i; omega, .trans (.perm (List.perm_append_comm (l₁ := [_, _, _]))) (.trans (.sub (List.sublist_cons_self _ _)) (.eqs' rfl (by rw [hnext]; rfl)))⟩
    · have hd : decide ((i : Int) < q) = false := by simp; omega
      obtain rfl : i = N := by omega
      show AW _ _ _ _ [(0, V.ptr bm 0), (3, V.ptr b3 0), (4, V.ptr b4 0), (5, V.i q), (6, V.ptr b6 0), (17, V.i q), (18, V.i i)] (.box b6 102 (repUp (mkN x) mn mx i i (M, ⟨0, 0, true⟩)).2.V :: .box b4 102 (Pt.V ⟨0, 0, false⟩) :: .box b3 41 (nodeV (.mk k s mn mx (x :: l))) :: mk3 bm sv fv (repUp (mkN x) mn mx i i (M, ⟨0, 0, true⟩)).1) _
      (repeat (first | refine aos_nil ?_ | refine aos_no rfl rfl rfl rfl rfl ?_ | refine aos_un rfl rfl rfl rfl ?_ | ((first | refine aos_cons rfl ?_ | refine aos_yes rfl rfl rfl ?_); (first | refine qd rfl rfl ?_ | refine qa rfl rfl ?_ | refine qt rfl rfl ?_ | refine qf rfl rfl ?_ | refine qe rfl rfl ?_ | refine qj rfl rfl ?_ | refine gl rfl rfl rfl (by repeat first | exact .z | apply At.s) (by rfl) ?_ | refine gla rfl rfl rfl (by repeat first | exact .z | apply At.s) (by rfl) ?_ | refine glg rfl rfl rfl (by repeat first | exact .z | apply At.s) (by decide) ?_ | refine aop_fieldAddr rfl rfl rfl ?_ | refine gc rfl rfl rfl rfl rfl _ (by first | assumption | rfl) ?_ | refine gcb rfl rfl rfl rfl rfl _ (by first | assumption | rfl) ?_ | refine ga rfl rfl rfl rfl rfl (by omega) (by omega) ?_ | refine gn0 rfl rfl rfl ?_ | refine gn rfl rfl rfl (by repeat first | exact .z | apply At.s) ?_ | refine aop_max rfl rfl rfl rfl ?_ | refine aop_min rfl rfl rfl rfl ?_ | refine gsa rfl rfl rfl rfl (by repeat first | exact .z | apply At.s) rfl (by rfl) rfl ?_ | refine gs rfl rfl rfl rfl (by repeat first | exact .z | apply At.s) (by rfl) rfl ?_ | refine aop_index rfl rfl rfl rfl _ rfl (by omega) ?_ | refine aop_index_arr rfl rfl rfl rfl _ rfl (by omega) ?_ | refine aop_build rfl rfl _ rfl ?_ | refine aop_buildSlice rfl rfl _ rfl rfl (by decide) (by decide) ?_); show AOs _ _ _ _ ((_, _) :: _) _ _) | refine aw_seq ?_ | refine aw_region ?_ | refine aw_block ?_ | refine aw_skip ?_ | refine aw_exit ?_ | refine aw_ret ?_ | refine aw_cond true rfl ?_ | refine aw_cond false rfl ?_))
      exact fpost (.inr rfl) (.a (repUp (mkN x) mn mx i i (M, ⟨0, 0, true⟩)).2.V) (.refl _ _) (res_cell (i := 1) rfl rfl rfl) (.cons _ (.cons _ (.cons _ (.refl _)))) ⟨sv, fv, rfl, rfl⟩
end Go.Proofs.Ytlagablcopmhkaa
namespace Go.Proofs.Ytlagablcopmhkaa
open Go.RowKit
attribute [local go_sem] max2_im min2_im max_im min_im max_im3

/-- how often a Repeat's Sub is written out, at most 10001 -/
def timesN (mn mx : Int) : Int := if mx = -1 then max (max mn 0) 1 else max (max mn 0) mx
mutual
def posN : Node → Int | .mk k _ mn mx l => min ((((if k = 2 then 1 else 0) + posL l) * (if k = 5 then min (timesN mn mx) 10001 else 1))) 10001
def posL : List Node → Int
  | [] => 0
  | x :: l => posN x + posL l
end
theorem timesN_nonneg (mn mx : Int) : 0 ≤ timesN mn mx := by unfold timesN; split <;> omega
mutual
theorem posN_bd : ∀ x, 0 ≤ posN x ∧ posN x ≤ 10001
  | .mk k s mn mx l => by
    have h := posL_bd l
    have ht := timesN_nonneg mn mx
    simp only [posN]
    refine ⟨?_, by omega⟩
    have : 0 ≤ ((if k = 2 then 1 else 0) + posL l) * (if k = 5 then min (timesN mn mx) 10001 else 1) := Int.mul_nonneg (by split <;> omega) (by split <;> omega)
    omega
theorem posL_bd : ∀ l, 0 ≤ posL l ∧ posL l ≤ 10001 * l.length
  | [] => by simp [posL]
  | x :: l => by have h := posN_bd x; have h2 := posL_bd l; simp [posL]; omega
end
theorem posL_append (l l' : List Node) : posL (l ++ l') = posL l + posL l' := by
  induction l with
  | nil => simp [posL]
  | cons x l ih => simp [posL, ih]; omega
theorem posN_eq (k : Nat) (st : BitVec 256) (mn mx : Int) (l : List Node) : Hid (posN (.mk k st mn mx l) = min ((((if k = 2 then 1 else 0) + posL l) * (if k = 5 then min (timesN mn mx) 10001 else 1))) 10001) := by rw [Hid, posN]
theorem timesN_im (mn mx : Int) : timesN mn mx = if mx = -1 then imax (imax mn 0) 1 else imax (imax mn 0) mx := by simp only [timesN, imax_eq]
theorem mul_bd (m t : Int) (h0 : 0 ≤ m) (h1 : m ≤ 200000000) (h2 : 0 ≤ t) (h3 : t ≤ 10001) : 0 ≤ m * t ∧ m * t ≤ 2000200000000 := by
  have a := Int.mul_nonneg h0 h2
  have b := Int.mul_le_mul h1 h3 h2 (by omega)
  omega

set_option maxHeartbeats 2000000 in
theorem positions_any (n : Nat) : ∀ {S : Nat → Prop} (x : Node) (sv : Value) (w : World), cnt x ≤ n → n ≤ 10000 → RepL w S x.subs sv →
    Calls Try.prog 93 #[.agg (nodeC x sv)] w fun e w' => e = .returned (.int .i64 (posN x)) ∧ Below w.heap.size w w' := by
  induction n with
  | zero => intro S x sv w h; have := cnt_pos x; omega
  | succ n ih =>
  intro S x sv w hcnt hn hR
  obtain ⟨k, st, mn, mx, subs⟩ := x
  simp only [Node.subs] at hR
  obtain ⟨p, cap, rfl, hm, hcap, hcm, hc⟩ := hR.at
  have hlen : subs.length ≤ 10000 := by have := cntL_length subs; simp [cnt] at hcnt; omega
  have hcs : ∀ (i : Nat) x, subs[i]? = some x → cnt x ≤ n := fun i x hx => by have := cnt_at hx; simp [cnt] at hcnt; omega
  clear hcnt hm hR
  simp only [nodeC, Node.kind, Node.set, Node.min, Node.max]
  have t1 : 0 ≤ imin (imax (imax mn 0) 1) 10001 ∧ imin (imax (imax mn 0) 1) 10001 ≤ 10001 := by simp only [imax_eq, imin_eq]; omega
  have t2 : 0 ≤ imin (imax (imax mn 0) mx) 10001 ∧ imin (imax (imax mn 0) mx) 10001 ≤ 10001 := by simp only [imax_eq, imin_eq]; omega
  have HP := posN_eq k st mn mx subs
  rcases eqb k 2 with ⟨hk, hK⟩ | ⟨hk, hK⟩
  all_goals
    have HK := Lib.hid hK; clear hK
    go_enter Try.func93, Try.ntmps93
    go_wp2
    go_loopw [3, 14] (fun sum i W => ∃ (j : Nat) (m : Int), j ≤ subs.length ∧ i = .int .i64 j ∧ sum = .int .i64 m ∧ Hid (m = (if k = 2 then 1 else 0) + posL (subs.take j)) ∧ 0 ≤ m ∧ m ≤ 1 + 10001 * j ∧ BoxN W w.heap.size (.mk k st mn mx subs) (.slice p subs.length cap) ∧ Below w.heap.size w W) (fun _ i _ => subs.length - (intOf i).toNat)
    case atStart =>
      have e : (k = 2 ∨ k ≠ 2) := by omega
      first
        | exact ⟨0, 1, by omega, rfl, rfl, by have := HK.out; rw [Hid, if_pos (by omega)]; simp [posL], by omega, by omega, BoxN.new w (.mk k st mn mx subs) _ _, (Below.refl _ _).alloc (Nat.le_refl _) _⟩
        | exact ⟨0, 0, by omega, rfl, rfl, by have := HK.out; rw [Hid, if_neg (by omega)]; simp [posL], by omega, by omega, BoxN.new w (.mk k st mn mx subs) _ _, (Below.refl _ _).alloc (Nat.le_refl _) _⟩
    case round =>
      obtain ⟨j, m, hj, rfl, rfl, hm, h0, h1, hbx, hb⟩ := hrel
      by_cases hlt : j < subs.length
      · obtain ⟨x, hx⟩ := some_at hlt
        obtain ⟨b, off, rfl, hS, hbl, sv', hR', hN⟩ := hc j x hx
        have hcx := hcs j x hx
        obtain ⟨p', cap', rfl⟩ := hR'.shape
        obtain ⟨c0, c1, c2, c3, c4, c5, c6, c7⟩ := hN.move (hb.block b hbl)
        have HX := Lib.hid hx; clear hx hc hcs hN HP t1 t2
        have pb := posN_bd x
        go_wp2_with (go_at_call 93; refine (ih x _ _ hcx (by omega) (hR'.grow (hb.alloc hb.size _))).mono ?_; rintro e w' ⟨rfl, hb'⟩)
        have hb2 := (hb.alloc hb.size _).trans (hb'.mono (by simp; have := hb.size; omega))
        have hbx2 := (hbx.below ((Below.refl _ _).alloc (Nat.le_refl _) _)).below hb'
        go_roundw
        case rel => exact ⟨j + 1, _, by omega, by go_num, rfl, by rw [Hid, hm.out, take_succ_of HX.out, posL_append]; simp [posL]; omega, by omega, by omega, hbx2, hb2⟩
        case measure => simp [intOf]; omega
      · obtain rfl : j = subs.length := by omega
        rw [List.take_length] at hm
        obtain ⟨c0, c1, c2, c3, c4, c5, c6, c7⟩ := hbx
        simp only [Node.kind, Node.set, Node.min, Node.max] at c0 c1 c2 c3 c4 c5 c6 c7
        have p1 := mul_bd m _ h0 (by omega) t1.1 t1.2
        have p2 := mul_bd m _ h0 (by omega) t2.1 t2.2
        clear hc hcs hj
        rcases eqb k 5 with ⟨h5, h5'⟩ | ⟨h5, h5'⟩
        all_goals rcases eqb mx (-1) with ⟨h6, h6'⟩ | ⟨h6, h6'⟩
        all_goals
          have H5 := Lib.hid h5'; clear h5'
          have H6 := Lib.hid h6'; clear h6'
          go_wp2
          go_ret
          refine ⟨ret_int ?_, hb⟩
          have := HK.out; have := H5.out; have := H6.out
          rw [HP.out, ← hm.out, timesN_im]
          first
            | (exfalso; omega)
            | (rw [if_pos (by omega), if_pos (by omega)]; simp [imin_eq])
            | (rw [if_pos (by omega), if_neg (by omega)]; simp [imin_eq])
            | (rw [if_neg (by omega)]; simp [imin_eq])
end Go.Proofs.Ytlagablcopmhkaa
/- rx: Clean, Positions, Check. -/
namespace Go.Proofs.Ytlagablcopmhkaa
open Go.RowKit
attribute [local go_sem] Oper.semAt_some wide_fn wide_depth

def allRight (x : Node) : Bool := (pre x).all rightB
def cleanB (x : Node) : Bool := lightB x && allRight x

set_option maxRecDepth 100000 in
set_option maxHeartbeats 2000000 in
theorem clean_any {S : Nat → Prop} (x : Node) (sv : Value) (w : World) (hR : RepL w S x.subs sv) :
    Calls Try.prog 59 #[.agg (nodeC x sv)] w fun e w' => e = .returned (.bool (cleanB x)) ∧ Below w.heap.size w w' := by
  obtain ⟨p, cap, rfl⟩ := hR.shape
  refine (callsIn_wide (n := 0)).1 (callsIn_of_wp_marks Try.func59 rfl trivial ?_)
  simp only [Try.ntmps59, List.size_toArray, List.length_cons, List.length_nil, Nat.reduceAdd, Nat.reduceSub, Array.replicate_succ, Array.replicate_zero, List.push_toArray, List.append_toArray, List.nil_append, List.cons_append]
  have hR2 : RepL ((w.alloc (.cells (nodeC x (.slice p x.subs.length cap)) 41)).alloc (.cells #[.bool false] 4)) S x.subs (.slice p x.subs.length cap) := hR.grow (((Below.refl _ w).alloc (Nat.le_refl _) _).alloc (by simp) _)
  cases hl : lightB x
  · gi_wp2_with (gi_at_call 92; refine (callsIn_wide.2 (light_any x _ _ hR2)).mono ?_; rintro e W1 ⟨rfl, hb1⟩; have hw1 := (hb1.block (w.heap.size + 1) (by simp)).trans (heap_alloc2_new w _ _); have hcc := cell_of_row _ _ 0 _ _ _ hw1; have hff := frozen_of_row _ _ 0 _ _ hw1)
    refine ⟨_, results_cell1 rfl _ _ (w.heap.size + 1) (.bool false) rfl ?_ (fun w => by kernel_rfl), ?_⟩
    · rw [World.cell?_setCell_same _ _ _ hcc]
    · exact ⟨ret_bool (by simp [cleanB, hl]), ((((Below.refl _ w).alloc (Nat.le_refl _) _).alloc (by simp) _).trans (hb1.mono (by simp; omega))).setCell (p := ⟨w.heap.size + 1, 0, none⟩) (by simp) _⟩
  · gi_wp2_with (first
      | (gi_at_call 92; refine (callsIn_wide.2 (light_any x _ _ hR2)).mono ?_; rintro e W1 ⟨rfl, hb1⟩; obtain ⟨c0, c1, c2, c3, c4, c5, c6, c7⟩ := ((BoxN.new w x _ _).below ((Below.refl _ _).alloc (Nat.le_refl _) (.cells #[.bool false] 4))).below hb1; have hw0 := box_lt hb1)
      | (gi_at_call 107; refine (callsIn_wide.2 (nodes_any x _ _ _ _)).mono ?_; rintro e Wa ⟨rfl, hba, hca⟩))
    have hw1 := (hb1.block (w.heap.size + 1) (by simp)).trans (heap_alloc2_new w _ _)
    have hb0 : Below w.heap.size w Wa := ((((Below.refl _ w).alloc (Nat.le_refl _) _).alloc (by simp) _).trans (hb1.mono (by simp; omega))).trans (hba.mono (by simp at hw0; omega))
    have hlt1 := (Array.getElem?_eq_some_iff.1 hw1).1
    have hcb := (hba.block _ hlt1).trans hw1
    clear hba hb1 c0 c1 c2 c3 c4 c5 c6 c7 hR2
    refine range_nodes (w := w) (n0 := w.heap.size) (x := x) (c0 := w.heap.size + 1) (S := fun b => b < w.heap.size) (t := 4) (fun k => ((pre x).take k).all rightB = true) (fun k => .bool false) (fun c u => c = .ret ∧ u = .bool false ∧ allRight x = false) rfl hca (hR.move fun b _ h => ⟨hb0.block b h, h⟩) (fun _ h => h) (by omega) (by omega) (by omega) (Nat.le_refl _) hcb hb0 (by simp) ?_ ?_ ?_
    · rintro l k G W ⟨q, q2⟩ hll hlw hGl hk hj hq hRq ho
      replace hRq : RepL W (fun b => b < w.heap.size) q.subs q2 := hRq
      replace hq : (pre x)[k]? = some q := hq
      obtain ⟨pq, cq, rfl⟩ := hRq.shape
      have hst : ((pre x).take (k + 1)).all rightB = rightB q := by
        rw [take_succ_of hq, List.all_append, hj]; simp
      have hq2 : rightB q = false → allRight x = false := fun h => by
        rw [allRight, List.all_eq_false]; exact ⟨q, List.mem_of_getElem? hq, by simp [h]⟩
      have HS := Lib.hid hst
      have HQ := Lib.hid hq2
      clear hst hq2 hq hj hcb hw1 hb0 hca
      simp only [List.setIfInBounds_toArray, List.set_cons_succ, List.set_cons_zero]
      gi_wp2
      refine ⟨(Below.refl _ _).alloc (Nat.le_refl _) _, fun W2 e1 e2 e3 e4 e5 => ?_⟩
      have ho2 := ho.mid ((Below.refl _ _).alloc (Nat.le_refl _) _) e1 e2 e3 e4 e5 hGl hll (Nat.le_refl _)
      rw [World.size_alloc] at e4
      obtain ⟨c0, c1, c2, c3, c4, c5, c6, c7⟩ := BoxN.of_row (x := q) ((e5 W.heap.size (by omega)).trans (heap_alloc_new W _))
      have hRq2 : RepL W2 (fun b => b < w.heap.size) q.subs (.slice pq q.subs.length cq) := hRq.move fun b h1 h2 => ⟨(e5 b (by omega)).trans (Below.heap_alloc W _ b h2), h1⟩
      clear e1 e2 e3 e5 hRq
      cases hrq : rightB q
      · gi_wp2_with (gi_at_call 108; refine (CallsIn.inRound l (callsIn_wide.2 (right_any q _ _ hRq2))).mono ?_; rintro e W3 ⟨rfl, hb3⟩; have ho3 := ho2.grow hb3 (Nat.le_refl _); have hc3 := cell_of_row _ _ 0 _ _ _ ho3.2.1; have hf3 := frozen_of_row _ _ 0 _ _ ho3.2.1)
        refine ⟨G, ((Own.refl _ _ _).below hb3 (fun b hb _ => by omega)).setCell _ (.inl (by rw [ho3.1])) _, _, ⟨rfl, rfl, HQ.out hrq⟩, ho3.store (by omega) _⟩
      · gi_wp2_with (gi_at_call 108; refine (CallsIn.inRound l (callsIn_wide.2 (right_any q _ _ hRq2))).mono ?_; rintro e W3 ⟨rfl, hb3⟩)
        exact ⟨G, (Own.refl _ _ _).below hb3 (fun b hb _ => by omega), by rw [HS.out, hrq], ho2.grow hb3 (Nat.le_refl _)⟩
    · intro D W hD hD2 hDc hj hc hb hk
      have hcc := cell_of_row _ _ 0 _ _ _ hc
      have hff := frozen_of_row _ _ 0 _ _ hc
      have hc2 := heap_setCell_same W (w.heap.size + 1) 0 _ _ (.bool true) hc
      have hj2 := Lib.hid hj
      clear hb0 hj
      gi_wp2
      refine leave_one_cell (c0 := w.heap.size + 1) rfl (by simpa using hD2) hD ?_ (hb.setCell (p := ⟨w.heap.size + 1, 0, none⟩) (by simp) _) hDc hc2 rfl (fun w => by kernel_rfl) fun W' hb' => ⟨ret_bool ?_, hb'⟩
      · rw [Below.heap_setCell _ _ _ _ hDc]; exact hk
      · have := hj2.out
        rw [← pre_length, List.take_length] at this
        simp [cleanB, hl, allRight, this]
    · rintro D c u W hD hD2 hDc ⟨rfl, rfl, hx⟩ hc hb hk
      clear hb0
      gi_wp2
      exact leave_one_cell (c0 := w.heap.size + 1) rfl hD2 hD hk hb hDc hc rfl (fun w => by kernel_rfl) fun W' hb' => ⟨ret_bool (by simp [cleanB, hx]), hb'⟩

def positionsN (x : Node) : Int := if cnt x ≤ 10000 then posN x else 10001

set_option maxHeartbeats 1000000 in
theorem positions2_any {S : Nat → Prop} (x : Node) (sv : Value) (w : World) (hR : RepL w S x.subs sv) :
    Calls Try.prog 37 #[.agg (nodeC x sv)] w fun e w' => e = .returned (.int .i64 (positionsN x)) ∧ Below w.heap.size w w' := by
  obtain ⟨p, cap, rfl⟩ := hR.shape
  have hs0 := StR.new hR 41
  cases hl : lightB x
  · have hl2 := Lib.hid (lightB_false hl)
    go_enter Try.func37, Try.ntmps37
    go_wp2_with (go_at_call 92; refine (light_any x _ _ hs0.1).mono ?_; rintro e W1 ⟨rfl, hb1⟩; have hs1 := hs0.next hb1)
    go_ret
    exact ⟨ret_int (by have := hl2.out; rw [positionsN, if_neg (by omega)]), StR.bel (by assumption)⟩
  · have hl2 := Lib.hid (lightB_true hl)
    go_enter Try.func37, Try.ntmps37
    go_wp2_with (first
      | (go_at_call 92; refine (light_any x _ _ hs0.1).mono ?_; rintro e W1 ⟨rfl, hb1⟩; have hs1 := hs0.next hb1; obtain ⟨c0, c1, c2, c3, c4, c5, c6, c7⟩ := hs1.2.1; clear hb1)
      | (go_at_call 93; refine (positions_any 10000 x _ _ hl2.out (by omega) (StR.rep (by assumption))).mono ?_; rintro e W2 ⟨rfl, hb2⟩; have hs2 := hs1.next hb2))
    go_ret
    exact ⟨ret_int (by have := hl2.out; rw [positionsN, if_pos this]), StR.bel (by assumption)⟩

def checkN (x : Node) : Int := if cleanB x = false then 80 else if 120 < sizeN x then 81 else if 400 < positionsN x then 82 else if 9 < groupsN x then 83 else 0

/-- a box of a regex -/
def BoxR (w : World) (b : Nat) (x : Node) (sv : Value) : Prop :=
  w.cell? ⟨b, 2, none⟩ = some (.int .u8 x.kind) ∧ w.cell? ⟨b, 3, none⟩ = some (.int .u64 (word x.set 0)) ∧ w.cell? ⟨b, 4, none⟩ = some (.int .u64 (word x.set 1)) ∧ w.cell? ⟨b, 5, none⟩ = some (.int .u64 (word x.set 2)) ∧
  w.cell? ⟨b, 6, none⟩ = some (.int .u64 (word x.set 3)) ∧ w.cell? ⟨b, 7, none⟩ = some (.int .i64 x.min) ∧ w.cell? ⟨b, 8, none⟩ = some (.int .i64 x.max) ∧ w.cell? ⟨b, 9, none⟩ = some sv
def StC (w W : World) (S : Nat → Prop) (x : Node) (sv : Value) : Prop := RepL W S x.subs sv ∧ BoxR W w.heap.size x sv ∧ Below w.heap.size w W ∧ w.heap.size < W.heap.size
@[reducible] def regexC (bg en : Bool) (x : Node) (sv : Value) : Array Value := #[.bool bg, .bool en, .int .u8 x.kind, .int .u64 (word x.set 0), .int .u64 (word x.set 1), .int .u64 (word x.set 2), .int .u64 (word x.set 3), .int .i64 x.min, .int .i64 x.max, sv]
theorem StC.new {w : World} {S : Nat → Prop} {x : Node} {sv : Value} {bg en : Bool} (h : RepL w S x.subs sv) (t : TypeId) : StC w (w.alloc (.cells (regexC bg en x sv) t)) S x sv := by
  refine ⟨h.grow ((Below.refl _ w).alloc (Nat.le_refl _) _), ?_, (Below.refl _ w).alloc (Nat.le_refl _) _, by simp⟩
  have hh := heap_alloc_new w (.cells (regexC bg en x sv) t)
  have e : ∀ j, (w.alloc (.cells (regexC bg en x sv) t)).cell? ⟨w.heap.size, j, none⟩ = (regexC bg en x sv)[j]? := fun j => by rw [cell_of_row _ _ j _ _ _ hh]
  unfold BoxR
  simp only [e]
  exact ⟨rfl, rfl, rfl, rfl, rfl, rfl, rfl, rfl⟩
theorem StC.next {w W W' : World} {S : Nat → Prop} {x : Node} {sv : Value} (h : StC w W S x sv) (hb : Below W.heap.size W W') : StC w W' S x sv := by
  have e : ∀ j, W'.cell? ⟨w.heap.size, j, none⟩ = W.cell? ⟨w.heap.size, j, none⟩ := fun j => World.cell?_of_block (w := W) (a := ⟨w.heap.size, j, none⟩) (hb.block _ h.2.2.2)
  refine ⟨h.1.grow hb, ?_, h.2.2.1.trans (hb.mono h.2.2.1.size), Nat.lt_of_lt_of_le h.2.2.2 hb.size⟩
  have := h.2.1
  unfold BoxR at this ⊢
  simp only [e]
  exact this
theorem StC.rep {w W : World} {S : Nat → Prop} {x : Node} {sv : Value} (h : StC w W S x sv) : RepL W S x.subs sv := h.1
theorem StC.bel {w W : World} {S : Nat → Prop} {x : Node} {sv : Value} (h : StC w W S x sv) : Below w.heap.size w W := h.2.2.1

set_option maxRecDepth 100000 in
set_option maxHeartbeats 2000000 in
theorem check_any {S : Nat → Prop} (bg en : Bool) (x : Node) (sv : Value) (w : World) (hR : RepL w S x.subs sv) :
    Calls Try.prog 35 #[.agg (regexC bg en x sv)] w fun e w' => e = .returned (.int .i64 (checkN x)) ∧ Below w.heap.size w w' := by
  obtain ⟨p, cap, rfl⟩ := hR.shape
  have hs0 := StC.new (bg := bg) (en := en) hR 66
  have hc0 : Hid (checkN x = if cleanB x = false then 80 else if 120 < sizeN x then 81 else if 400 < positionsN x then 82 else if 9 < groupsN x then 83 else 0) := rfl
  cases h1 : cleanB x
  all_goals by_cases h2 : 120 < sizeN x
  all_goals by_cases h3 : 400 < positionsN x
  all_goals by_cases h4 : 9 < groupsN x
  all_goals
    go_enter Try.func35, Try.ntmps35
    go_wp2_with (first
      | (go_at_call 59; refine (clean_any x _ _ hs0.1).mono ?_; rintro e W1 ⟨rfl, hb1⟩; have hs1 := hs0.next hb1; obtain ⟨c0, c1, c2, c3, c4, c5, c6, c7⟩ := hs1.2.1; clear hb1)
      | (go_at_call 60; refine (size_any x _ _ hs1.1).mono ?_; rintro e W2 ⟨rfl, hb2⟩; have hs2 := hs1.next hb2; obtain ⟨d0, d1, d2, d3, d4, d5, d6, d7⟩ := hs2.2.1; clear hb2)
      | (go_at_call 37; refine (positions2_any x _ _ hs2.1).mono ?_; rintro e W3 ⟨rfl, hb3⟩; have hs3 := hs2.next hb3; obtain ⟨f0, f1, f2, f3, f4, f5, f6, f7⟩ := hs3.2.1; clear hb3)
      | (go_at_call 87; refine (groups_any x _ _ hs3.1).mono ?_; rintro e W4 ⟨rfl, hb4⟩; have hs4 := hs3.next hb4; clear hb4))
    go_ret
    exact ⟨ret_int (by rw [hc0.out, h1]; simp [h2, h3, h4]), StC.bel (by assumption)⟩
end Go.Proofs.Ytlagablcopmhkaa
/- nfa: make, at every node. -/
namespace Go.Proofs.Ytlagablcopmhkaa
open Go.RowKit

set_option maxRecDepth 100000 in
set_option maxHeartbeats 2000000 in
theorem make_of {bm : Nat} {sv fv : Value} {M M' : MS} {p : Pt} {k : Nat} {s : BitVec 256} {mn mx : Int} {subs : List Node} {f : FuncId} {first cap : List V} (hk : (kindsV bm)[k]? = some (.f (.func f) first cap)) (hk7 : k < 7)
    (eg : ∀ (args : Array Value) (w : World), (callFunc f args).run Try.prog w = .ok (.enter f args) w)
    (hc : AC Try.prog f (first ++ ([.a (nodeV (.mk k s mn mx subs))] ++ cap)) (mk3 bm sv fv M) fun r L' => ∃ sv' fv', r = .a p.V ∧ L' = mk3 bm sv' fv' M') :
    AC Try.prog 61 [.ptr bm 0, .a (nodeV (.mk k s mn mx subs))] (mk3 bm sv fv M) fun r L' => ∃ sv' fv', r = .a p.V ∧ L' = mk3 bm sv' fv' M' := by
  refine ac_body _ Try.func61 rfl Try.ntmps61 Try.results61 rfl ?_
  refine aw_seq (aw_region ?_)
  refine aos_cons rfl (aop_box_a rfl rfl rfl rfl ?_)
  intro b3
  refine aos_cons rfl (aop_alloc rfl rfl ?_)
  intro b4
  refine aos_nil (aw_seq ?_)
  refine aw_le (sl' := [(0, V.ptr bm 0), (3, V.ptr b3 0), (4, V.ptr b4 0)]) (.eqs rfl) ?_
  refine aw_drawH 6 [5, 6, 7, 8, 9, 10] (by kernel_rfl) (by kernel_rfl) rfl (by kernel_rfl) ?_; refine drawh_q [] rfl rfl rfl (by kernel_rfl) (aq_plain rfl (by first | exact aop_indexAgg rfl rfl rfl rfl k rfl hk7 hk ⟨rfl, rfl⟩ | exact qd rfl rfl ⟨rfl, rfl⟩ | exact qa rfl rfl ⟨rfl, rfl⟩ | exact qt rfl rfl ⟨rfl, rfl⟩ | exact qf rfl rfl ⟨rfl, rfl⟩ | exact qe rfl rfl ⟨rfl, rfl⟩ | exact qj rfl rfl ⟨rfl, rfl⟩)) ?_; refine drawh_q [5] rfl rfl rfl (by kernel_rfl) (aq_plain rfl (aop_call0 rfl rfl rfl (fun _ _ => by kernel_rfl) (kinds_a bm) (.refl _) ⟨rfl, rfl⟩)) ?_; refine drawh_q [] rfl rfl rfl (by kernel_rfl) (aq_plain rfl (by first | exact aop_indexAgg rfl rfl rfl rfl k rfl hk7 hk ⟨rfl, rfl⟩ | exact aop_fieldAddr rfl rfl rfl ⟨rfl, rfl⟩)) ?_; refine drawh_q [7] rfl rfl rfl (by kernel_rfl) (aq_plain rfl (by first | exact aop_load_all (i := 1) rfl rfl rfl rfl ⟨rfl, rfl⟩ rfl ⟨rfl, rfl⟩ | exact gl rfl rfl rfl (by repeat first | exact .z | apply At.s) (by rfl) ⟨rfl, rfl⟩ | exact gla rfl rfl rfl (by repeat first | exact .z | apply At.s) (by rfl) ⟨rfl, rfl⟩ | exact glg rfl rfl rfl (by repeat first | exact .z | apply At.s) (by decide) ⟨rfl, rfl⟩)) ?_; refine drawh_q [6, 8] rfl rfl rfl (by kernel_rfl) (aq_plain rfl (aop_indexAgg rfl rfl rfl rfl k rfl hk7 hk ⟨rfl, rfl⟩)) ?_; refine drawh_q [] rfl rfl rfl (by kernel_rfl) (aq_plain rfl (by first | exact aop_load_all (i := 1) rfl rfl rfl rfl ⟨rfl, rfl⟩ rfl ⟨rfl, rfl⟩ | exact gl rfl rfl rfl (by repeat first | exact .z | apply At.s) (by rfl) ⟨rfl, rfl⟩ | exact gla rfl rfl rfl (by repeat first | exact .z | apply At.s) (by rfl) ⟨rfl, rfl⟩ | exact glg rfl rfl rfl (by repeat first | exact .z | apply At.s) (by decide) ⟨rfl, rfl⟩)) ?_; refine drawh_nil (.refl _) ?_; intro β
  refine aos_cons rfl (aop_call rfl rfl rfl eg (List.perm_append_comm (l₁ := [_, _])) hc (.refl _) ?_)
  rintro r L' ⟨sv', fv', rfl, rfl⟩
  show AOs _ _ _ _ ((_, _) :: _) (_ :: _) _
  refine aos_cons rfl (aop_store_all (i := 3) rfl rfl rfl rfl rfl rfl rfl rfl ?_)
  show AOs _ _ _ _ ((_, _) :: _) (_ :: _) _
  (repeat (first | refine aos_nil ?_ | refine aos_no rfl rfl rfl rfl rfl ?_ | refine aos_un rfl rfl rfl rfl ?_ | ((first | refine aos_cons rfl ?_ | refine aos_yes rfl rfl rfl ?_); (first | refine qd rfl rfl ?_ | refine qa rfl rfl ?_ | refine qt rfl rfl ?_ | refine qf rfl rfl ?_ | refine qe rfl rfl ?_ | refine qj rfl rfl ?_ | refine gl rfl rfl rfl (by repeat first | exact .z | apply At.s) (by rfl) ?_ | refine gla rfl rfl rfl (by repeat first | exact .z | apply At.s) (by rfl) ?_ | refine glg rfl rfl rfl (by repeat first | exact .z | apply At.s) (by decide) ?_ | refine aop_fieldAddr rfl rfl rfl ?_ | refine gc rfl rfl rfl rfl rfl _ (by first | assumption | rfl) ?_ | refine gcb rfl rfl rfl rfl rfl _ (by first | assumption | rfl) ?_ | refine ga rfl rfl rfl rfl rfl (by omega) (by omega) ?_ | refine gn0 rfl rfl rfl ?_ | refine gn rfl rfl rfl (by repeat first | exact .z | apply At.s) ?_ | refine aop_max rfl rfl rfl rfl ?_ | refine aop_min rfl rfl rfl rfl ?_ | refine gsa rfl rfl rfl rfl (by repeat first | exact .z | apply At.s) rfl (by rfl) rfl ?_ | refine gs rfl rfl rfl rfl (by repeat first | exact .z | apply At.s) (by rfl) rfl ?_ | refine aop_index rfl rfl rfl rfl _ rfl (by omega) ?_ | refine aop_index_arr rfl rfl rfl rfl _ rfl (by omega) ?_ | refine aop_build rfl rfl _ rfl ?_ | refine aop_buildSlice rfl rfl _ rfl rfl (by decide) (by decide) ?_); show AOs _ _ _ _ ((_, _) :: _) _ _) | refine aw_seq ?_ | refine aw_region ?_ | refine aw_block ?_ | refine aw_skip ?_ | refine aw_exit ?_ | refine aw_ret ?_ | refine aw_cond true rfl ?_ | refine aw_cond false rfl ?_))
  exact fpost (.inr rfl) (.a p.V) (.refl _ _) (res_cell (i := 3) rfl rfl rfl) (L2 := mk3 bm sv' fv' M') (.cons_cons _ (.cons_cons _ (.cons_cons _ (List.nil_sublist _)))) ⟨sv', fv', rfl, rfl⟩

theorem mem_pre : ∀ {x y : Node}, y ∈ x.subs → ∀ z ∈ pre y, z ∈ pre x
  | .mk k s mn mx l, y, hy, z, hz => by
    rw [pre]
    refine List.mem_cons_of_mem _ ?_
    have : ∀ l : List Node, y ∈ l → z ∈ preL l := by
      intro l
      induction l with
      | nil => intro h; cases h
      | cons a l ih =>
        intro h
        rw [preL]
        rcases List.mem_cons.1 h with rfl | h
        · exact List.mem_append_left _ hz
        · exact List.mem_append_right _ (ih h)
    exact this l hy
theorem allRight_sub {x y : Node} (h : allRight x = true) (hy : y ∈ x.subs) : allRight y = true := by
  rw [allRight, List.all_eq_true] at *
  exact fun z hz => h z (mem_pre hy z hz)
theorem allRight_own {x : Node} (h : allRight x = true) : rightB x = true := by
  rw [allRight, List.all_eq_true] at h
  refine h x ?_
  cases x
  rw [pre]
  exact List.mem_cons_self
theorem cnt_sub {x y : Node} (hy : y ∈ x.subs) : cnt y < cnt x := by
  obtain ⟨i, hi⟩ := List.mem_iff_getElem?.1 hy
  have := cnt_at hi
  rw [cnt_eq x]; omega
theorem boundsB_le {mn mx : Int} (h : boundsB mn mx = true) : 0 ≤ mn ∧ mn ≤ 16 ∧ -1 ≤ mx ∧ mx ≤ 16 := by
  unfold boundsB at h
  split at h
  · cases h
  · simp at h; omega

theorem make_a : ∀ (n : Nat) (x : Node), cnt x ≤ n → n ≤ 10000 → allRight x = true → MakeC x
  | 0, x, h, _, _ => by have := cnt_pos x; omega
  | n + 1, x, hc, hn, hr => by
    have ih : ∀ y ∈ x.subs, MakeC y := fun y hy => make_a n y (by have := cnt_sub hy; omega) (by omega) (allRight_sub hr hy)
    have ho := allRight_own hr
    have hlen : x.subs.length ≤ 1000000 := by have := cntL_length x.subs; rw [cnt_eq] at hc; omega
    obtain ⟨k, s, mn, mx, subs⟩ := x
    simp only [Node.subs] at ih hlen
    intro bm sv fv M hM hle
    have ho : (if (k ≠ 2 ∧ s ≠ 0) ∨ (k ≠ 5 ∧ (mn ≠ 0 ∨ mx ≠ 0)) ∨ (k < 3 ∧ 0 < subs.length) then false
      else if k = 1 then true
      else if k = 2 then !zeroB s
      else if k = 3 then decide (1 < subs.length) && !hasK 1 subs && !hasK 3 subs
      else if k = 4 then decide (1 < subs.length) && !hasK 4 subs
      else if k = 5 then decide (subs.length = 1) && boundsB mn mx && !hasK 1 subs
      else decide (k = 6) && decide (subs.length = 1)) = true := ho
    by_cases hbad : (k ≠ 2 ∧ s ≠ 0) ∨ (k ≠ 5 ∧ (mn ≠ 0 ∨ mx ≠ 0)) ∨ (k < 3 ∧ 0 < subs.length)
    · rw [if_pos hbad] at ho; cases ho
    rw [if_neg hbad] at ho
    by_cases e : k = 1
    · subst e
      rw [mkN] at hle ⊢
      exact make_of (p := ⟨0, 0, true⟩) (M' := M) rfl (by decide) (fun _ _ => by kernel_rfl) ((kinds2_a _).fr (F := mk3 bm sv fv M) (.refl _) fun r L1' h => by
        obtain ⟨rfl, rfl⟩ := h
        exact ⟨_, .refl _, sv, fv, rfl, rfl⟩)
    rw [if_neg e] at ho
    by_cases e : k = 2
    · subst e
      rw [mkN] at hle ⊢
      have hle2 : M.sets.length < 448 := by simp at hle; omega
      exact make_of rfl (by decide) (fun _ _ => by kernel_rfl) (kinds3_a hle2 hM)
    rw [if_neg e] at ho
    by_cases e : k = 3
    · subst e
      rw [mkN] at hle ⊢
      exact make_of rfl (by decide) (fun _ _ => by kernel_rfl) (kinds4_a ih hM hle hlen)
    rw [if_neg e] at ho
    by_cases e : k = 4
    · subst e
      rw [mkN] at hle ⊢
      exact make_of rfl (by decide) (fun _ _ => by kernel_rfl) (kinds5_a ih hM hle hlen)
    rw [if_neg e] at ho
    by_cases e : k = 5
    · subst e
      rw [if_pos rfl] at ho
      simp only [Bool.and_eq_true, decide_eq_true_eq] at ho
      obtain ⟨⟨h1, h2⟩, _⟩ := ho
      obtain ⟨y, rfl⟩ : ∃ y, subs = [y] := List.length_eq_one_iff.1 h1
      have hb := boundsB_le h2
      rw [mkN] at hle ⊢
      exact make_of rfl (by decide) (fun _ _ => by kernel_rfl) (repeat_a (ih y List.mem_cons_self) hM (by omega) hle)
    · rw [if_neg e] at ho
      simp only [Bool.and_eq_true, decide_eq_true_eq] at ho
      obtain ⟨h1, h2⟩ := ho
      subst h1
      obtain ⟨y, rfl⟩ : ∃ y, subs = [y] := List.length_eq_one_iff.1 h2
      rw [mkN] at hle ⊢
      exact make_of rfl (by decide) (fun _ _ => by kernel_rfl) (kinds6_a (ih y List.mem_cons_self) hM hle)
end Go.Proofs.Ytlagablcopmhkaa
/- nfa: how many positions the maker makes. -/
namespace Go.Proofs.Ytlagablcopmhkaa
open Go.RowKit

theorem boundsB_more {mn mx : Int} (h : boundsB mn mx = true) : 0 ≤ mn ∧ mn ≤ 16 ∧ (mx = -1 ∨ (1 ≤ mx ∧ mx ≤ 16 ∧ mn ≤ mx)) := by
  unfold boundsB at h
  split at h
  · cases h
  · simp at h; omega
theorem manyR_eq {mn mx : Int} (h : boundsB mn mx = true) : ((manyR mn mx : Nat) : Int) = timesN mn mx ∧ 1 ≤ timesN mn mx ∧ timesN mn mx ≤ 16 := by
  have := boundsB_more h
  unfold manyR timesN
  split <;> omega
theorem repUp_pos {g : MS → MS × Pt} {p : Nat} (hg : ∀ M, (g M).1.sets.length = M.sets.length + p) (mn mx : Int) (many : Nat) (s : MS × Pt) : ∀ k, (repUp g mn mx many k s).1.sets.length = s.1.sets.length + k * p
  | 0 => by simp [repUp]
  | k + 1 => by
    have ih := repUp_pos hg mn mx many s k
    have h : (repUp g mn mx many (k + 1) s).1.sets.length = (g (repUp g mn mx many k s).1).1.sets.length := by
      rw [repUp]
      unfold repRound MS.thenS
      simp only
      split <;> rfl
    rw [h, hg, ih, Nat.succ_mul, Nat.add_assoc]
theorem rightB_cases {k : Nat} {s : BitVec 256} {mn mx : Int} {subs : List Node} (h : rightB (.mk k s mn mx subs) = true) :
    (k = 1 ∧ subs = []) ∨ (k = 2 ∧ subs = [] ∧ s ≠ 0) ∨ k = 3 ∨ k = 4 ∨ (k = 5 ∧ (∃ y, subs = [y]) ∧ boundsB mn mx = true) ∨ (k = 6 ∧ ∃ y, subs = [y]) := by
  have ho : (if (k ≠ 2 ∧ s ≠ 0) ∨ (k ≠ 5 ∧ (mn ≠ 0 ∨ mx ≠ 0)) ∨ (k < 3 ∧ 0 < subs.length) then false
      else if k = 1 then true
      else if k = 2 then !zeroB s
      else if k = 3 then decide (1 < subs.length) && !hasK 1 subs && !hasK 3 subs
      else if k = 4 then decide (1 < subs.length) && !hasK 4 subs
      else if k = 5 then decide (subs.length = 1) && boundsB mn mx && !hasK 1 subs
      else decide (k = 6) && decide (subs.length = 1)) = true := h
  by_cases hbad : (k ≠ 2 ∧ s ≠ 0) ∨ (k ≠ 5 ∧ (mn ≠ 0 ∨ mx ≠ 0)) ∨ (k < 3 ∧ 0 < subs.length)
  · rw [if_pos hbad] at ho; cases ho
  rw [if_neg hbad] at ho
  have hnil : k < 3 → subs = [] := fun hk => List.length_eq_zero_iff.1 (by
    by_cases h0 : 0 < subs.length
    · exact absurd (.inr (.inr ⟨hk, h0⟩)) hbad
    · omega)
  by_cases e : k = 1
  · exact .inl ⟨e, hnil (by omega)⟩
  rw [if_neg e] at ho
  by_cases e : k = 2
  · rw [if_pos e] at ho
    exact .inr (.inl ⟨e, hnil (by omega), zeroB_false (by simpa using ho)⟩)
  rw [if_neg e] at ho
  by_cases e : k = 3
  · exact .inr (.inr (.inl e))
  rw [if_neg e] at ho
  by_cases e : k = 4
  · exact .inr (.inr (.inr (.inl e)))
  rw [if_neg e] at ho
  by_cases e : k = 5
  · rw [if_pos e] at ho
    simp only [Bool.and_eq_true, decide_eq_true_eq] at ho
    exact .inr (.inr (.inr (.inr (.inl ⟨e, List.length_eq_one_iff.1 ho.1.1, ho.1.2⟩))))
  · rw [if_neg e] at ho
    simp only [Bool.and_eq_true, decide_eq_true_eq] at ho
    exact .inr (.inr (.inr (.inr (.inr ⟨ho.1, List.length_eq_one_iff.1 ho.2⟩))))
theorem posN_le_posL {l : List Node} {y : Node} (h : y ∈ l) : posN y ≤ posL l := by
  induction l with
  | nil => cases h
  | cons x l ih =>
    have h1 := posN_bd x
    have h2 := posL_bd l
    rw [posL]
    rcases List.mem_cons.1 h with rfl | h
    · omega
    · have := ih h; omega

theorem mkN_pos : ∀ (n : Nat) (x : Node), cnt x ≤ n → allRight x = true → posN x ≤ 10000 → ∀ M, ((mkN x M).1.sets.length : Int) = M.sets.length + posN x
  | 0, x, h, _, _ => by have := cnt_pos x; omega
  | n + 1, x, hc, hr, hp => by
    have hP := posN_eq
    have ih : ∀ y ∈ x.subs, posN y ≤ 10000 → ∀ M, ((mkN y M).1.sets.length : Int) = M.sets.length + posN y := fun y hy => mkN_pos n y (by have := cnt_sub hy; omega) (allRight_sub hr hy)
    have ho := allRight_own hr
    obtain ⟨k, s, mn, mx, subs⟩ := x
    simp only [Node.subs] at ih
    have hpos := posN_eq k s mn mx subs
    rw [Hid] at hpos
    have hbd := posL_bd subs
    have hcat : ∀ l : List Node, (∀ y ∈ l, ∀ M, ((mkN y M).1.sets.length : Int) = M.sets.length + posN y) → ∀ st, ((mkCat l st).1.sets.length : Int) = st.1.sets.length + posL l := by
      intro l
      induction l with
      | nil => intro _ st; simp [mkCat, posL]
      | cons y l ihl =>
        intro h st
        rw [mkCat, ihl (fun z hz => h z (List.mem_cons_of_mem _ hz)), posL]
        have := h y List.mem_cons_self st.1
        show ((mkN y st.1).1.sets.length : Int) + posL l = _
        omega
    have halt : ∀ l : List Node, (∀ y ∈ l, ∀ M, ((mkN y M).1.sets.length : Int) = M.sets.length + posN y) → ∀ st, ((mkAlt l st).1.sets.length : Int) = st.1.sets.length + posL l := by
      intro l
      induction l with
      | nil => intro _ st; simp [mkAlt, posL]
      | cons y l ihl =>
        intro h st
        rw [mkAlt, ihl (fun z hz => h z (List.mem_cons_of_mem _ hz)), posL]
        have := h y List.mem_cons_self st.1
        show ((mkN y st.1).1.sets.length : Int) + posL l = _
        omega
    intro M
    rcases rightB_cases ho with ⟨rfl, rfl⟩ | ⟨rfl, rfl, _⟩ | rfl | rfl | ⟨rfl, ⟨y, rfl⟩, hb⟩ | ⟨rfl, y, rfl⟩
    · simp [posL] at hpos
      rw [mkN, hpos]; simp; omega
    · simp [posL] at hpos
      rw [mkN, hpos]; simp; omega
    · simp at hpos
      have e : posN (.mk 3 s mn mx subs) = posL subs := by omega
      have hs : ∀ y ∈ subs, ∀ M, ((mkN y M).1.sets.length : Int) = M.sets.length + posN y := fun y hy => ih y hy (by have := posN_le_posL hy; omega)
      rw [e, mkN]
      simp only [Nat.reduceEqDiff, if_false, if_true]
      exact hcat subs hs _
    · simp at hpos
      have e : posN (.mk 4 s mn mx subs) = posL subs := by omega
      have hs : ∀ y ∈ subs, ∀ M, ((mkN y M).1.sets.length : Int) = M.sets.length + posN y := fun y hy => ih y hy (by have := posN_le_posL hy; omega)
      rw [e, mkN]
      simp only [Nat.reduceEqDiff, if_false, if_true]
      exact halt subs hs _
    · obtain ⟨h1, h2, h3⟩ := manyR_eq hb
      have hy := posN_bd y
      simp only [posL, Nat.reduceEqDiff, if_false, if_true, Int.zero_add, Int.add_zero] at hpos
      rw [show min (timesN mn mx) 10001 = timesN mn mx by omega] at hpos
      have hmul := Int.mul_le_mul_of_nonneg_left h2 hy.1
      have e : posN (.mk 5 s mn mx [y]) = posN y * timesN mn mx := by omega
      obtain ⟨p, hpn⟩ := Int.eq_ofNat_of_zero_le hy.1
      have hs := ih y List.mem_cons_self (by omega)
      rw [e, mkN]
      simp only [Nat.reduceEqDiff, if_false, if_true]
      have h5 := repUp_pos (g := fun M => mkHd [y] M) (p := p) (fun M => by have := hs M; show (mkN y M).1.sets.length = _; omega) mn mx (manyR mn mx) (M, ⟨0, 0, true⟩) (manyR mn mx)
      rw [h5, ← h1, hpn]
      push_cast
      rw [Int.mul_comm]
    · simp [posL] at hpos
      have hy := posN_bd y
      have e : posN (.mk 6 s mn mx [y]) = posN y := by omega
      rw [e, mkN]
      simp only [Nat.reduceEqDiff, if_false, if_true]
      exact ih y List.mem_cons_self (by omega) M
end Go.Proofs.Ytlagablcopmhkaa
/- nfa: Of. -/
namespace Go.Proofs.Ytlagablcopmhkaa
open Go.RowKit

section
variable {P : Program} {n : Nat} {o : Oper} {sl : Sl} {L : List Ch} {K : Sl → List Ch → Prop}
/-- a call that looks at a chunk, and leaves all as it is -/
theorem aop_callL {f : FuncId} {g : Operand} {ag : Array Operand} {ts : Array TypeId} {first cap args : List V} {c : V} {ch : Ch} (i : Nat) (ho : o.op = .call { callee := .value g, args := ag, argTypes := ts }) (hd : dstOk n o.dst = true) (hg : ev sl g = .f (.func f) first cap)
    (eg : ∀ (args : Array Value) (w : World), (callFunc f args).run P w = .ok (.enter f args) w) (hi : L[i]? = some ch) (hc : AC P f args [ch] fun r L' => r = c ∧ L' = [ch]) (ha : ArgsLe (first ++ (ag.toList.map (ev sl) ++ cap)) args)
    (hK : K (put sl o.dst c) L) : AOp P n o sl L K := by
  intro w S a hs nx Q hnx
  refine aop_call (K := fun sl' L' => sl' = put sl o.dst c ∧ L' = [ch] ++ L.eraseIdx i) ho hd hg eg (perm_at hi .emp).1 hc ha (by rintro r L' ⟨rfl, rfl⟩; exact ⟨rfl, rfl⟩) w S a hs nx Q ?_
  rintro sl' L' S' a' w' ⟨rfl, rfl⟩ hs' hf hv
  have hp : ([ch] ++ L.eraseIdx i).Perm L := (perm_at hi .emp).1.symm
  exact hnx _ _ S' a' w' hK ⟨hs'.hp.perm hp, hs'.size, hs'.sl, hs'.df.move ((Fr.refl w' S' _).perm (.refl _) hp)⟩ (hf.perm (.refl _) hp) hv
end

/-- a row is a slice -/
theorem aw_rowShape {P : Program} {n : Nat} {ro : Option Nat} {sl : Sl} {L : List Ch} {Q : Exit → Sl → List Ch → Prop} {c : Code} {v : Value} {e : TypeId} {k m : Nat} {cs : List V} (j : Nat) (hj : L[j]? = some (.row v e k m cs)) (h : ∀ p q r, v = .slice p q r → AW P n ro c sl L Q) : AW P n ro c sl L Q := fun w S a B hs hb Qr hQr => by
  obtain ⟨us, hown, _⟩ := (hs.hp.mem hj).1
  rcases hown.2 with ⟨rfl, _⟩ | ⟨g, cap, cur, rfl, _⟩
  · exact h _ _ _ rfl w S a B hs hb Qr hQr
  · exact h _ _ _ rfl w S a B hs hb Qr hQr
theorem R.node {w : World} {S : Nat → Prop} {x : Node} {v : Value} (h : R w S (.a (nodeV x)) v) : ∃ sv, v = .agg (nodeC x sv) ∧ RepL w S x.subs sv := by
  cases h with
  | a us hl hr =>
    have hh : RL w S (nodeV x) us := ⟨hl, hr⟩
    obtain ⟨k, s, mn, mx, subs⟩ := x
    obtain ⟨u0, r0, rfl, h0, t0⟩ := hh.uncons
    obtain ⟨u1, r1, rfl, h1, t1⟩ := t0.uncons
    obtain ⟨u2, r2, rfl, h2, t2⟩ := t1.uncons
    obtain ⟨u3, r3, rfl, h3, t3⟩ := t2.uncons
    obtain ⟨u4, r4, rfl, h4, t4⟩ := t3.uncons
    obtain ⟨u5, r5, rfl, h5, t5⟩ := t4.uncons
    obtain ⟨u6, r6, rfl, h6, t6⟩ := t5.uncons
    obtain ⟨u7, r7, rfl, h7, t7⟩ := t6.uncons
    obtain rfl := t7.unnil
    obtain rfl := h0.unv
    obtain rfl := h1.unv
    obtain rfl := h2.unv
    obtain rfl := h3.unv
    obtain rfl := h4.unv
    obtain rfl := h5.unv
    obtain rfl := h6.unv
    exact ⟨u7, rfl, h7.und⟩
theorem clean_a (x : Node) : AC Try.prog 59 [.a (nodeV x)] [] fun r L' => r = .b (cleanB x) ∧ L' = [] :=
  ac_real fun w S vs hr => by
    obtain ⟨v, rfl, h⟩ := hr.one
    obtain ⟨sv, rfl, hn⟩ := h.node
    exact (clean_any x sv w hn).mono fun e w' ⟨h1, h2⟩ => ⟨_, h1, .v _, h2⟩
theorem size_a (x : Node) : AC Try.prog 60 [.a (nodeV x)] [] fun r L' => r = .i (sizeN x) ∧ L' = [] :=
  ac_real fun w S vs hr => by
    obtain ⟨v, rfl, h⟩ := hr.one
    obtain ⟨sv, rfl, hn⟩ := h.node
    exact (size_any x sv w hn).mono fun e w' ⟨h1, h2⟩ => ⟨_, h1, .v _, h2⟩
theorem positions_a (x : Node) : AC Try.prog 37 [.a (nodeV x)] [] fun r L' => r = .i (positionsN x) ∧ L' = [] :=
  ac_real fun w S vs hr => by
    obtain ⟨v, rfl, h⟩ := hr.one
    obtain ⟨sv, rfl, hn⟩ := h.node
    exact (positions2_any x sv w hn).mono fun e w' ⟨h1, h2⟩ => ⟨_, h1, .v _, h2⟩

/-- what Of makes of a tree -/
def ofA (x : Node) : Auto := let r := mkN x ⟨[], []⟩; ⟨r.1.sets, r.1.fol.map fun m => ints (bitsL m), ints (bitsL r.2.f), ints (bitsL r.2.l), r.2.e⟩
theorem setsV_isD (l : List (BitVec 256)) : (setsV l).all V.isD = true := by
  rw [List.all_eq_true]
  intro c hc
  obtain ⟨s, _, hs⟩ := List.mem_flatMap.1 hc
  obtain ⟨v, _, rfl⟩ := List.mem_map.1 hs
  rfl
theorem setsV_toD (l : List (BitVec 256)) : (setsV l).map V.toD = (setsU l).map .v := by
  induction l with
  | nil => rfl
  | cons s l ih =>
    rw [setsV, List.flatMap_cons, List.map_append, show (List.flatMap setV l).map V.toD = (setsU l).map .v from ih, setsU, List.map_append]
    rfl
/-- the lists behind the positions -/
def folL (l : List Nat) : List V := l.map fun m => V.d (dI (ints (bitsL m)))
theorem folL_isD (l : List Nat) : (folL l).all V.isD = true := by simp [folL, V.isD]
theorem folL_toD (l : List Nat) : (folL l).map V.toD = (l.map fun m => ints (bitsL m)).map dI := by simp [folL, V.toD]
theorem folL_succ {l : List Nat} {i m : Nat} (h : l[i]? = some m) : folL (l.take (i + 1)) = folL (l.take i) ++ [V.d (dI (ints (bitsL m)))] := by
  rw [take_succ_of h]; simp [folL]

set_option maxRecDepth 100000 in
set_option maxHeartbeats 4000000 in
theorem of_good (x : Node) (h0 : x.kind ≠ 0) (hc : cleanB x = true) (hs : sizeN x ≤ 120) (hp : positionsN x ≤ 400) :
    AC Try.prog 14 [.a (nodeV x)] [] fun r L' => r = .t [.a (cellsA (ofA x)), .i 0] ∧ L' = [] := by
  have hcnt : cnt x ≤ 10000 := by
    unfold cleanB at hc
    simp at hc
    exact lightB_true hc.1
  have har : allRight x = true := by
    unfold cleanB at hc
    simp at hc
    exact hc.2
  have hpn : posN x ≤ 400 := by rw [positionsN, if_pos hcnt] at hp; exact hp
  have hlen := mkN_pos 10000 x hcnt har (by omega) ⟨[], []⟩
  have hle : (mkN x ⟨[], []⟩).1.sets.length ≤ 400 := by simp at hlen; omega
  obtain ⟨_, hok⟩ := mkN_ok x ⟨[], []⟩ rfl
  have hfl : (mkN x ⟨[], []⟩).1.fol.length ≤ 400 := by rw [hok.len]; exact hle
  have hmk := fun bm => make_a 10000 x hcnt (Nat.le_refl _) har bm (.slice none 0 0) (.slice none 0 0) ⟨[], []⟩ rfl (by omega)
  have ho : ofA x = ⟨(mkN x ⟨[], []⟩).1.sets, (mkN x ⟨[], []⟩).1.fol.map fun m => ints (bitsL m), ints (bitsL (mkN x ⟨[], []⟩).2.f), ints (bitsL (mkN x ⟨[], []⟩).2.l), (mkN x ⟨[], []⟩).2.e⟩ := rfl
  clear hlen hpn har hcnt hok hle
  generalize mkN x ⟨[], []⟩ = r at *
  obtain ⟨M, ⟨pf, pl, pe⟩⟩ := r
  have hk0 : decide ((x.kind : Int) = 0) = false := by simpa using h0
  have hs1 : decide ((120 : Int) < (sizeN x : Int)) = false := by simp; omega
  have hp1 : decide ((400 : Int) < positionsN x) = false := by simp; omega
  have hcl := clean_a x
  rw [hc] at hcl
  have hsz := size_a x
  have hps := positions_a x
  obtain ⟨k, s, mn, mx, subs⟩ := x
  simp only [Node.kind] at hk0
  refine ac_body _ Try.func14 rfl Try.ntmps14 Try.results14 rfl ?_
  refine aw_seq (aw_region ?_)
  refine aos_cons rfl (aop_box_a rfl rfl rfl rfl ?_)
  intro b1
  refine aos_cons rfl (aop_alloc rfl rfl ?_)
  intro b2
  show AOs _ _ _ _ ((_, _) :: _) (_ :: _) _
  (repeat (first | ((first | refine aos_cons rfl ?_ | refine aos_yes rfl rfl rfl ?_); refine aop_call0 rfl rfl rfl (fun _ _ => by kernel_rfl) (hcl) (.refl _) ?_; show AOs _ _ _ _ ((_, _) :: _) _ _) | ((first | refine aos_cons rfl ?_ | refine aos_yes rfl rfl rfl ?_); refine aop_call0 rfl rfl rfl (fun _ _ => by kernel_rfl) (hsz) (.refl _) ?_; show AOs _ _ _ _ ((_, _) :: _) _ _) | ((first | refine aos_cons rfl ?_ | refine aos_yes rfl rfl rfl ?_); refine aop_call0 rfl rfl rfl (fun _ _ => by kernel_rfl) (hps) (.refl _) ?_; show AOs _ _ _ _ ((_, _) :: _) _ _) | refine aos_nil ?_ | refine aos_no rfl rfl rfl rfl rfl ?_ | refine aos_un rfl rfl rfl rfl ?_ | ((first | refine aos_cons rfl ?_ | refine aos_yes rfl rfl rfl ?_); (first | refine qd rfl rfl ?_ | refine qa rfl rfl ?_ | refine qt rfl rfl ?_ | refine qf rfl rfl ?_ | refine qe rfl rfl ?_ | refine qj rfl rfl ?_ | refine gl rfl rfl rfl (by repeat first | exact .z | apply At.s) (by rfl) ?_ | refine gla rfl rfl rfl (by repeat first | exact .z | apply At.s) (by rfl) ?_ | refine glg rfl rfl rfl (by repeat first | exact .z | apply At.s) (by decide) ?_ | refine aop_fieldAddr rfl rfl rfl ?_ | refine gc rfl rfl rfl rfl rfl _ (by first | assumption | rfl) ?_ | refine gcb rfl rfl rfl rfl rfl _ (by first | assumption | rfl) ?_ | refine ga rfl rfl rfl rfl rfl (by omega) (by omega) ?_ | refine gn rfl rfl rfl (by repeat first | exact .z | apply At.s) ?_ | refine gn0 rfl rfl rfl ?_ | refine aop_max rfl rfl rfl rfl ?_ | refine aop_min rfl rfl rfl rfl ?_ | refine gsa rfl rfl rfl rfl (by repeat first | exact .z | apply At.s) rfl (by rfl) rfl ?_ | refine gs rfl rfl rfl rfl (by repeat first | exact .z | apply At.s) (by rfl) rfl ?_ | refine aop_index rfl rfl rfl rfl _ rfl (by omega) ?_ | refine aop_index_arr rfl rfl rfl rfl _ rfl (by omega) ?_ | refine aop_build rfl rfl _ rfl ?_ | refine aop_buildSlice rfl rfl _ rfl rfl (by decide) (by decide) ?_); show AOs _ _ _ _ ((_, _) :: _) _ _) | refine aw_seq ?_ | refine aw_region ?_ | refine aw_block ?_ | refine aw_skip ?_ | refine aw_exit ?_ | refine aw_ret ?_ | refine aw_cond true rfl ?_ | refine aw_cond false rfl ?_))
  refine aos_cons rfl (aop_box_a rfl rfl rfl rfl ?_)
  intro bm
  show AOs _ _ _ _ ((_, _) :: _) (_ :: _) _
  (repeat (first | refine aos_nil ?_ | refine aos_no rfl rfl rfl rfl rfl ?_ | refine aos_un rfl rfl rfl rfl ?_ | ((first | refine aos_cons rfl ?_ | refine aos_yes rfl rfl rfl ?_); (first | refine qd rfl rfl ?_ | refine qa rfl rfl ?_ | refine qt rfl rfl ?_ | refine qf rfl rfl ?_ | refine qe rfl rfl ?_ | refine qj rfl rfl ?_ | refine gl rfl rfl rfl (by repeat first | exact .z | apply At.s) (by rfl) ?_ | refine gla rfl rfl rfl (by repeat first | exact .z | apply At.s) (by rfl) ?_ | refine glg rfl rfl rfl (by repeat first | exact .z | apply At.s) (by decide) ?_ | refine aop_fieldAddr rfl rfl rfl ?_ | refine gc rfl rfl rfl rfl rfl _ (by first | assumption | rfl) ?_ | refine gcb rfl rfl rfl rfl rfl _ (by first | assumption | rfl) ?_ | refine ga rfl rfl rfl rfl rfl (by omega) (by omega) ?_ | refine gn rfl rfl rfl (by repeat first | exact .z | apply At.s) ?_ | refine gn0 rfl rfl rfl ?_ | refine aop_max rfl rfl rfl rfl ?_ | refine aop_min rfl rfl rfl rfl ?_ | refine gsa rfl rfl rfl rfl (by repeat first | exact .z | apply At.s) rfl (by rfl) rfl ?_ | refine gs rfl rfl rfl rfl (by repeat first | exact .z | apply At.s) (by rfl) rfl ?_ | refine aop_index rfl rfl rfl rfl _ rfl (by omega) ?_ | refine aop_index_arr rfl rfl rfl rfl _ rfl (by omega) ?_ | refine aop_build rfl rfl _ rfl ?_ | refine aop_buildSlice rfl rfl _ rfl rfl (by decide) (by decide) ?_); show AOs _ _ _ _ ((_, _) :: _) _ _) | refine aw_seq ?_ | refine aw_region ?_ | refine aw_block ?_ | refine aw_skip ?_ | refine aw_exit ?_ | refine aw_ret ?_ | refine aw_cond true rfl ?_ | refine aw_cond false rfl ?_))
  refine aos_le (.trans (.addNil 38 4) (.addNil 100 7)) ?_ rfl
  (repeat (first | refine aos_nil ?_ | refine aos_no rfl rfl rfl rfl rfl ?_ | refine aos_un rfl rfl rfl rfl ?_ | ((first | refine aos_cons rfl ?_ | refine aos_yes rfl rfl rfl ?_); (first | refine qd rfl rfl ?_ | refine qa rfl rfl ?_ | refine qt rfl rfl ?_ | refine qf rfl rfl ?_ | refine qe rfl rfl ?_ | refine qj rfl rfl ?_ | refine gl rfl rfl rfl (by repeat first | exact .z | apply At.s) (by rfl) ?_ | refine gla rfl rfl rfl (by repeat first | exact .z | apply At.s) (by rfl) ?_ | refine glg rfl rfl rfl (by repeat first | exact .z | apply At.s) (by decide) ?_ | refine aop_fieldAddr rfl rfl rfl ?_ | refine gc rfl rfl rfl rfl rfl _ (by first | assumption | rfl) ?_ | refine gcb rfl rfl rfl rfl rfl _ (by first | assumption | rfl) ?_ | refine ga rfl rfl rfl rfl rfl (by omega) (by omega) ?_ | refine gn rfl rfl rfl (by repeat first | exact .z | apply At.s) ?_ | refine gn0 rfl rfl rfl ?_ | refine aop_max rfl rfl rfl rfl ?_ | refine aop_min rfl rfl rfl rfl ?_ | refine gsa rfl rfl rfl rfl (by repeat first | exact .z | apply At.s) rfl (by rfl) rfl ?_ | refine gs rfl rfl rfl rfl (by repeat first | exact .z | apply At.s) (by rfl) rfl ?_ | refine aop_index rfl rfl rfl rfl _ rfl (by omega) ?_ | refine aop_index_arr rfl rfl rfl rfl _ rfl (by omega) ?_ | refine aop_build rfl rfl _ rfl ?_ | refine aop_buildSlice rfl rfl _ rfl rfl (by decide) (by decide) ?_); show AOs _ _ _ _ ((_, _) :: _) _ _) | refine aw_seq ?_ | refine aw_region ?_ | refine aw_block ?_ | refine aw_skip ?_ | refine aw_exit ?_ | refine aw_ret ?_ | refine aw_cond true rfl ?_ | refine aw_cond false rfl ?_))
  refine aos_cons rfl (aop_call rfl rfl rfl (fun _ _ => by kernel_rfl) (L1 := mk3 bm (.slice none 0 0) (.slice none 0 0) ⟨[], []⟩) (F := [.box b2 26 [V.nil, V.nil, V.nil, V.nil, V.b false], .box b1 41 (nodeV (.mk k s mn mx subs))]) (.refl _) (hmk bm) (.refl _) ?_)
  rintro r L' ⟨sv, fv, rfl, rfl⟩
  show AOs _ _ _ _ ((_, _) :: _) (_ :: _) _
  refine aos_cons rfl (aop_alloc rfl rfl ?_)
  intro b5
  show AOs _ _ _ _ ((_, _) :: _) (_ :: _) _
  refine aos_cons rfl (aop_store_all (i := 0) rfl rfl rfl rfl rfl rfl rfl rfl ?_)
  show AOs _ _ _ _ ((_, _) :: _) (_ :: _) _
  refine aos_nil (aw_seq ?_)
  refine aw_le (sl' := [(4, V.ptr bm 0), (5, V.ptr b5 0), (2, V.ptr b2 0)]) (.eqs rfl) ?_
  refine aw_rowShape 2 rfl fun s1 s2 s3 hsv => ?_
  refine aw_rowShape 1 rfl fun f1 f2 f3 hfv => ?_
  subst hsv hfv
  refine aw_drawH 12 [37, 38, 39, 40, 41, 42, 43, 44, 45, 46, 47, 6] (by kernel_rfl) (by kernel_rfl) rfl (by kernel_rfl) ?_; refine drawh_q [] rfl rfl rfl (by kernel_rfl) (aq_plain rfl (by first | exact aop_build rfl rfl [V.v (.slice s1 s2 s3), V.nil, V.d (dI (ints (bitsL pf))), V.d (dI (ints (bitsL pl))), V.b pe] rfl ⟨rfl, rfl⟩ | exact qd rfl rfl ⟨rfl, rfl⟩ | exact qa rfl rfl ⟨rfl, rfl⟩ | exact qt rfl rfl ⟨rfl, rfl⟩ | exact qf rfl rfl ⟨rfl, rfl⟩ | exact qe rfl rfl ⟨rfl, rfl⟩ | exact qj rfl rfl ⟨rfl, rfl⟩)) ?_; refine drawh_q [37] rfl rfl rfl (by kernel_rfl) (aq_plain rfl (by first | exact aop_build rfl rfl [V.v (.slice s1 s2 s3), V.nil, V.d (dI (ints (bitsL pf))), V.d (dI (ints (bitsL pl))), V.b pe] rfl ⟨rfl, rfl⟩ | exact qd rfl rfl ⟨rfl, rfl⟩ | exact qa rfl rfl ⟨rfl, rfl⟩ | exact qt rfl rfl ⟨rfl, rfl⟩ | exact qf rfl rfl ⟨rfl, rfl⟩ | exact qe rfl rfl ⟨rfl, rfl⟩ | exact qj rfl rfl ⟨rfl, rfl⟩)) ?_; refine drawh_q [38] rfl rfl rfl (by kernel_rfl) (aq_plain rfl (by first | exact aop_build rfl rfl [V.v (.slice s1 s2 s3), V.nil, V.d (dI (ints (bitsL pf))), V.d (dI (ints (bitsL pl))), V.b pe] rfl ⟨rfl, rfl⟩ | exact aop_fieldAddr rfl rfl rfl ⟨rfl, rfl⟩)) ?_; refine drawh_q [39] rfl rfl rfl (by kernel_rfl) (aq_plain rfl (by first | exact gl rfl rfl rfl (by repeat first | exact .z | apply At.s) (by rfl) ⟨rfl, rfl⟩ | exact gla rfl rfl rfl (by repeat first | exact .z | apply At.s) (by rfl) ⟨rfl, rfl⟩ | exact glg rfl rfl rfl (by repeat first | exact .z | apply At.s) (by decide) ⟨rfl, rfl⟩)) ?_; refine drawh_q [] rfl rfl rfl (by kernel_rfl) (aq_plain rfl (by first | exact aop_build rfl rfl [V.v (.slice s1 s2 s3), V.nil, V.d (dI (ints (bitsL pf))), V.d (dI (ints (bitsL pl))), V.b pe] rfl ⟨rfl, rfl⟩ | exact aop_fieldAddr rfl rfl rfl ⟨rfl, rfl⟩)) ?_; refine drawh_q [41] rfl rfl rfl (by kernel_rfl) (aq_plain rfl (by first | exact aop_callL 0 rfl rfl rfl (fun _ _ => by kernel_rfl) rfl (list_a (b := b5) (m := pf) (ch := .box b5 102 (partV pf pl pe)) ⟨[], bitsV pl ++ [V.b pe], rfl, rfl, rfl⟩) (.refl _) ⟨rfl, rfl⟩ | exact aop_callL 0 rfl rfl rfl (fun _ _ => by kernel_rfl) rfl (list_a (b := b5) (m := pl) (ch := .box b5 102 (partV pf pl pe)) ⟨bitsV pf, [V.b pe], rfl, rfl, rfl⟩) (.refl _) ⟨rfl, rfl⟩)) ?_; refine drawh_q [] rfl rfl rfl (by kernel_rfl) (aq_plain rfl (by first | exact aop_build rfl rfl [V.v (.slice s1 s2 s3), V.nil, V.d (dI (ints (bitsL pf))), V.d (dI (ints (bitsL pl))), V.b pe] rfl ⟨rfl, rfl⟩ | exact aop_fieldAddr rfl rfl rfl ⟨rfl, rfl⟩)) ?_; refine drawh_q [42, 43] rfl rfl rfl (by kernel_rfl) (aq_plain rfl (by first | exact aop_callL 0 rfl rfl rfl (fun _ _ => by kernel_rfl) rfl (list_a (b := b5) (m := pf) (ch := .box b5 102 (partV pf pl pe)) ⟨[], bitsV pl ++ [V.b pe], rfl, rfl, rfl⟩) (.refl _) ⟨rfl, rfl⟩ | exact aop_callL 0 rfl rfl rfl (fun _ _ => by kernel_rfl) rfl (list_a (b := b5) (m := pl) (ch := .box b5 102 (partV pf pl pe)) ⟨bitsV pf, [V.b pe], rfl, rfl, rfl⟩) (.refl _) ⟨rfl, rfl⟩)) ?_; refine drawh_q [] rfl rfl rfl (by kernel_rfl) (aq_plain rfl (by first | exact aop_build rfl rfl [V.v (.slice s1 s2 s3), V.nil, V.d (dI (ints (bitsL pf))), V.d (dI (ints (bitsL pl))), V.b pe] rfl ⟨rfl, rfl⟩ | exact aop_fieldAddr rfl rfl rfl ⟨rfl, rfl⟩)) ?_; refine drawh_q [45] rfl rfl rfl (by kernel_rfl) (aq_plain rfl (by first | exact gl rfl rfl rfl (by repeat first | exact .z | apply At.s) (by rfl) ⟨rfl, rfl⟩ | exact gla rfl rfl rfl (by repeat first | exact .z | apply At.s) (by rfl) ⟨rfl, rfl⟩ | exact glg rfl rfl rfl (by repeat first | exact .z | apply At.s) (by decide) ⟨rfl, rfl⟩)) ?_; refine drawh_q [40, 42, 44, 46] rfl rfl rfl (by kernel_rfl) (aq_plain rfl (by first | exact aop_build rfl rfl [V.v (.slice s1 s2 s3), V.nil, V.d (dI (ints (bitsL pf))), V.d (dI (ints (bitsL pl))), V.b pe] rfl ⟨rfl, rfl⟩ | exact aop_build rfl rfl _ rfl ⟨rfl, rfl⟩)) ?_; refine drawh_al rfl rfl rfl rfl ?_; refine drawh_nil (.refl _) ?_; intro β
  refine aos_cons rfl (aop_store_all (i := 0) rfl rfl rfl rfl rfl rfl rfl rfl ?_)
  show AOs _ _ _ _ ((_, _) :: _) (_ :: _) _
  (repeat (first | refine aos_nil ?_ | refine aos_no rfl rfl rfl rfl rfl ?_ | refine aos_un rfl rfl rfl rfl ?_ | ((first | refine aos_cons rfl ?_ | refine aos_yes rfl rfl rfl ?_); (first | refine qd rfl rfl ?_ | refine qa rfl rfl ?_ | refine qt rfl rfl ?_ | refine qf rfl rfl ?_ | refine qe rfl rfl ?_ | refine qj rfl rfl ?_ | refine gl rfl rfl rfl (by repeat first | exact .z | apply At.s) (by rfl) ?_ | refine gla rfl rfl rfl (by repeat first | exact .z | apply At.s) (by rfl) ?_ | refine glg rfl rfl rfl (by repeat first | exact .z | apply At.s) (by decide) ?_ | refine aop_fieldAddr rfl rfl rfl ?_ | refine gc rfl rfl rfl rfl rfl _ (by first | assumption | rfl) ?_ | refine gcb rfl rfl rfl rfl rfl _ (by first | assumption | rfl) ?_ | refine ga rfl rfl rfl rfl rfl (by omega) (by omega) ?_ | refine gn rfl rfl rfl (by repeat first | exact .z | apply At.s) ?_ | refine gn0 rfl rfl rfl ?_ | refine aop_max rfl rfl rfl rfl ?_ | refine aop_min rfl rfl rfl rfl ?_ | refine gsa rfl rfl rfl rfl (by repeat first | exact .z | apply At.s) rfl (by rfl) rfl ?_ | refine gs rfl rfl rfl rfl (by repeat first | exact .z | apply At.s) (by rfl) rfl ?_ | refine aop_index rfl rfl rfl rfl _ rfl (by omega) ?_ | refine aop_index_arr rfl rfl rfl rfl _ rfl (by omega) ?_ | refine aop_build rfl rfl _ rfl ?_ | refine aop_buildSlice rfl rfl _ rfl rfl (by decide) (by decide) ?_); show AOs _ _ _ _ ((_, _) :: _) _ _) | refine aw_seq ?_ | refine aw_region ?_ | refine aw_block ?_ | refine aw_skip ?_ | refine aw_exit ?_ | refine aw_ret ?_ | refine aw_cond true rfl ?_ | refine aw_cond false rfl ?_))
  obtain ⟨b6, hb6⟩ : ∃ b6, b6 = (β 11).1 := ⟨_, rfl⟩
  refine aw_le (.addNil 24 1) ?_
  refine aw_for (ι := Nat × Value) (fun i => [(2, V.ptr b2 0), (6, V.ptr b6 0), (51, V.v (.slice f1 f2 f3)), (52, V.i M.fol.length), (53, V.i i.1)])
    (fun i => [.row i.2 24 1 i.1 (folL (M.fol.take i.1)), .box b6 26 [V.v (.slice s1 s2 s3), V.v i.2, V.d (dI (ints (bitsL pf))), V.d (dI (ints (bitsL pl))), V.b pe], .row (.slice f1 f2 f3) 100 7 M.fol.length (folV M.fol), .row (.slice s1 s2 s3) 38 4 M.sets.length (setsV M.sets), .box b2 26 [V.nil, V.nil, V.nil, V.nil, V.b false]])
    (fun i => i.1 ≤ M.fol.length) (fun i => M.fol.length - i.1) (0, .slice none 0 0) (Nat.zero_le _) ?_ ?_
  · subst hb6
    exact .trans (.sub (.cons_cons _ (.cons_cons _ (.cons _ (.cons_cons _ (.cons_cons _ (.cons _ (.cons_cons _ (.cons _ (.refl _)))))))))) (.eqs' rfl rfl)
  clear hb6
  rintro ⟨i, vo⟩ hi
  have hfl2 : M.fol.length ≤ 400 := hfl
  have hi : i ≤ M.fol.length := hi
  show AW _ _ _ _ [(2, V.ptr b2 0), (6, V.ptr b6 0), (51, V.v (.slice f1 f2 f3)), (52, V.i M.fol.length), (53, V.i i)] [.row vo 24 1 i (folL (M.fol.take i)), .box b6 26 [V.v (.slice s1 s2 s3), V.v vo, V.d (dI (ints (bitsL pf))), V.d (dI (ints (bitsL pl))), V.b pe], .row (.slice f1 f2 f3) 100 7 M.fol.length (folV M.fol), .row (.slice s1 s2 s3) 38 4 M.sets.length (setsV M.sets), .box b2 26 [V.nil, V.nil, V.nil, V.nil, V.b false]] _
  by_cases hlt : i < M.fol.length
  · have hd : decide ((i : Int) < (M.fol.length : Int)) = true := by simp; omega
    obtain ⟨m, hm⟩ := some_at hlt
    (repeat (first | refine aos_nil ?_ | refine aos_no rfl rfl rfl rfl rfl ?_ | refine aos_un rfl rfl rfl rfl ?_ | ((first | refine aos_cons rfl ?_ | refine aos_yes rfl rfl rfl ?_); (first | refine qd rfl rfl ?_ | refine qa rfl rfl ?_ | refine qt rfl rfl ?_ | refine qf rfl rfl ?_ | refine qe rfl rfl ?_ | refine qj rfl rfl ?_ | refine gl rfl rfl rfl (by repeat first | exact .z | apply At.s) (by rfl) ?_ | refine gla rfl rfl rfl (by repeat first | exact .z | apply At.s) (by rfl) ?_ | refine glg rfl rfl rfl (by repeat first | exact .z | apply At.s) (by decide) ?_ | refine aop_fieldAddr rfl rfl rfl ?_ | refine gc rfl rfl rfl rfl rfl _ (by first | assumption | rfl) ?_ | refine gcb rfl rfl rfl rfl rfl _ (by first | assumption | rfl) ?_ | refine ga rfl rfl rfl rfl rfl (by omega) (by omega) ?_ | refine gn rfl rfl rfl (by repeat first | exact .z | apply At.s) ?_ | refine gn0 rfl rfl rfl ?_ | refine aop_max rfl rfl rfl rfl ?_ | refine aop_min rfl rfl rfl rfl ?_ | refine gsa rfl rfl rfl rfl (by repeat first | exact .z | apply At.s) rfl (by rfl) rfl ?_ | refine gs rfl rfl rfl rfl (by repeat first | exact .z | apply At.s) (by rfl) rfl ?_ | refine aop_index rfl rfl rfl rfl _ rfl (by omega) ?_ | refine aop_index_arr rfl rfl rfl rfl _ rfl (by omega) ?_ | refine aop_build rfl rfl _ rfl ?_ | refine aop_buildSlice rfl rfl _ rfl rfl (by decide) (by decide) ?_); show AOs _ _ _ _ ((_, _) :: _) _ _) | refine aw_seq ?_ | refine aw_region ?_ | refine aw_block ?_ | refine aw_skip ?_ | refine aw_exit ?_ | refine aw_ret ?_ | refine aw_cond true rfl ?_ | refine aw_cond false rfl ?_))
    refine aos_cons rfl (aop_index_row (j := 2) rfl rfl rfl rfl rfl i rfl hlt fun g hg => ?_)
    show AOs _ _ _ _ ((_, _) :: _) (_ :: _) _
    (first | refine aos_cons rfl ?_ | refine aos_yes rfl rfl rfl ?_); refine aop_load_bits (i := 2) (m := m) (folV (M.fol.take i)) (folV (M.fol.drop (i + 1))) rfl rfl rfl rfl ⟨hg, (folV_at hm).symm⟩ (by rw [folV_length, List.length_take]; omega) ?_; show AOs _ _ _ _ ((_, _) :: _) _ _
    refine aos_cons rfl (aop_alloc rfl rfl ?_)
    intro b8
    show AOs _ _ _ _ ((_, _) :: _) (_ :: _) _
    refine aos_cons rfl (aop_store_all (i := 0) rfl rfl rfl rfl rfl rfl rfl rfl ?_)
    show AOs _ _ _ _ ((_, _) :: _) (_ :: _) _
    refine aos_nil ?_
    refine aw_rowShape 1 rfl fun o1 o2 o3 hvo => ?_
    subst hvo
    refine aw_le (sl' := [(2, V.ptr b2 0), (6, V.ptr b6 0), (8, V.ptr b8 0), (51, V.v (.slice f1 f2 f3)), (52, V.i M.fol.length), (53, V.i i)]) (.eqs rfl) ?_
    refine aw_drawH 4 [57, 58, 59, 60] (by kernel_rfl) (by kernel_rfl) rfl (by kernel_rfl) ?_; refine drawh_q [] rfl rfl rfl (by kernel_rfl) (aq_plain rfl (aop_fieldAddr rfl rfl rfl ⟨rfl, rfl⟩)) ?_; refine drawh_q [57] rfl rfl rfl (by kernel_rfl) (aq_plain rfl (by first | exact gl rfl rfl rfl (by repeat first | exact .z | apply At.s) (by rfl) ⟨rfl, rfl⟩ | exact gla rfl rfl rfl (by repeat first | exact .z | apply At.s) (by rfl) ⟨rfl, rfl⟩ | exact glg rfl rfl rfl (by repeat first | exact .z | apply At.s) (by decide) ⟨rfl, rfl⟩)) ?_; refine drawh_q [] rfl rfl rfl (by kernel_rfl) (aq_plain rfl (aop_callL 0 rfl rfl rfl (fun _ _ => by kernel_rfl) rfl (list_a (b := b8) (m := m) (ch := .box b8 100 (bitsV m)) ⟨[], [], rfl, rfl, by simp⟩) (.refl _) ⟨rfl, rfl⟩)) ?_; refine drawh_q [59] rfl rfl rfl (by kernel_rfl) (aq_plain rfl (aop_buildSlice rfl rfl _ rfl rfl (by decide) (by decide) ⟨rfl, rfl⟩)) ?_; refine drawh_nil (.refl _) ?_; intro β
    refine aos_cons rfl (aop_append (j := 1) (m := i) (q := 1) (k := 1) (bytes := 24) rfl rfl rfl rfl rfl rfl (by omega) (by omega) fun v' => ?_)
    refine aos_cons rfl (aop_rowOne 1 rfl fun hone => aop_fieldAddr rfl rfl rfl ?_)
    refine aos_cons rfl (aop_store1 (i := 2) rfl rfl rfl rfl rfl rfl hone ?_)
    show AOs _ _ _ _ ((_, _) :: _) (_ :: _) _
    (repeat (first | refine aos_nil ?_ | refine aos_no rfl rfl rfl rfl rfl ?_ | refine aos_un rfl rfl rfl rfl ?_ | ((first | refine aos_cons rfl ?_ | refine aos_yes rfl rfl rfl ?_); (first | refine qd rfl rfl ?_ | refine qa rfl rfl ?_ | refine qt rfl rfl ?_ | refine qf rfl rfl ?_ | refine qe rfl rfl ?_ | refine qj rfl rfl ?_ | refine gl rfl rfl rfl (by repeat first | exact .z | apply At.s) (by rfl) ?_ | refine gla rfl rfl rfl (by repeat first | exact .z | apply At.s) (by rfl) ?_ | refine glg rfl rfl rfl (by repeat first | exact .z | apply At.s) (by decide) ?_ | refine aop_fieldAddr rfl rfl rfl ?_ | refine gc rfl rfl rfl rfl rfl _ (by first | assumption | rfl) ?_ | refine gcb rfl rfl rfl rfl rfl _ (by first | assumption | rfl) ?_ | refine ga rfl rfl rfl rfl rfl (by omega) (by omega) ?_ | refine gn rfl rfl rfl (by repeat first | exact .z | apply At.s) ?_ | refine gn0 rfl rfl rfl ?_ | refine aop_max rfl rfl rfl rfl ?_ | refine aop_min rfl rfl rfl rfl ?_ | refine gsa rfl rfl rfl rfl (by repeat first | exact .z | apply At.s) rfl (by rfl) rfl ?_ | refine gs rfl rfl rfl rfl (by repeat first | exact .z | apply At.s) (by rfl) rfl ?_ | refine aop_index rfl rfl rfl rfl _ rfl (by omega) ?_ | refine aop_index_arr rfl rfl rfl rfl _ rfl (by omega) ?_ | refine aop_build rfl rfl _ rfl ?_ | refine aop_buildSlice rfl rfl _ rfl rfl (by decide) (by decide) ?_); show AOs _ _ _ _ ((_, _) :: _) _ _) | refine aw_seq ?_ | refine aw_region ?_ | refine aw_block ?_ | refine aw_skip ?_ | refine aw_exit ?_ | refine aw_ret ?_ | refine aw_cond true rfl ?_ | refine aw_cond false rfl ?_))
    refine ⟨(i + 1, v'), by show i + 1 ≤ _; omega, by show M.fol.length - (i + 1) < M.fol.length - i; omega, .trans (.sub (.cons _ (.refl _))) (.eqs' rfl ?_)⟩
    show _ = [Ch.row v' 24 1 (i + 1) (folL (M.fol.take (i + 1))), _, _, _, _]
    rw [folL_succ hm]
    rfl
  · have hd : decide ((i : Int) < (M.fol.length : Int)) = false := by simp; omega
    obtain rfl : i = M.fol.length := by omega
    refine aw_rowShape 0 rfl fun o1 o2 o3 hvo => ?_
    subst hvo
    (repeat (first | refine aos_nil ?_ | refine aos_no rfl rfl rfl rfl rfl ?_ | refine aos_un rfl rfl rfl rfl ?_ | ((first | refine aos_cons rfl ?_ | refine aos_yes rfl rfl rfl ?_); (first | refine qd rfl rfl ?_ | refine qa rfl rfl ?_ | refine qt rfl rfl ?_ | refine qf rfl rfl ?_ | refine qe rfl rfl ?_ | refine qj rfl rfl ?_ | refine gl rfl rfl rfl (by repeat first | exact .z | apply At.s) (by rfl) ?_ | refine gla rfl rfl rfl (by repeat first | exact .z | apply At.s) (by rfl) ?_ | refine glg rfl rfl rfl (by repeat first | exact .z | apply At.s) (by decide) ?_ | refine aop_fieldAddr rfl rfl rfl ?_ | refine gc rfl rfl rfl rfl rfl _ (by first | assumption | rfl) ?_ | refine gcb rfl rfl rfl rfl rfl _ (by first | assumption | rfl) ?_ | refine ga rfl rfl rfl rfl rfl (by omega) (by omega) ?_ | refine gn rfl rfl rfl (by repeat first | exact .z | apply At.s) ?_ | refine gn0 rfl rfl rfl ?_ | refine aop_max rfl rfl rfl rfl ?_ | refine aop_min rfl rfl rfl rfl ?_ | refine gsa rfl rfl rfl rfl (by repeat first | exact .z | apply At.s) rfl (by rfl) rfl ?_ | refine gs rfl rfl rfl rfl (by repeat first | exact .z | apply At.s) (by rfl) rfl ?_ | refine aop_index rfl rfl rfl rfl _ rfl (by omega) ?_ | refine aop_index_arr rfl rfl rfl rfl _ rfl (by omega) ?_ | refine aop_build rfl rfl _ rfl ?_ | refine aop_buildSlice rfl rfl _ rfl rfl (by decide) (by decide) ?_); show AOs _ _ _ _ ((_, _) :: _) _ _) | refine aw_seq ?_ | refine aw_region ?_ | refine aw_block ?_ | refine aw_skip ?_ | refine aw_exit ?_ | refine aw_ret ?_ | refine aw_cond true rfl ?_ | refine aw_cond false rfl ?_))
    rw [List.take_length]
    have hfr : cellsA (ofA (.mk k s mn mx subs)) = [.d (.s M.sets.length 4 ((setsV M.sets).map V.toD)), .d (.s M.fol.length 1 ((folL M.fol).map V.toD)), .d (dI (ints (bitsL pf))), .d (dI (ints (bitsL pl))), .b pe] := by
      rw [ho, cellsA, setsV_toD, folL_toD, dSets, dLists, List.length_map]
    refine fpost (.inr rfl) _ (.trans (.freezeIn (j := 3) (i := 4) (o := 0) rfl rfl rfl (setsV_isD _)) (.freezeIn (j := 0) (i := 4) (o := 1) rfl rfl rfl (folL_isD _))) (res_cell_tmp (i := 4) rfl rfl rfl) (List.nil_sublist _) ⟨?_, rfl⟩
    rw [hfr]
    rfl
end Go.Proofs.Ytlagablcopmhkaa
