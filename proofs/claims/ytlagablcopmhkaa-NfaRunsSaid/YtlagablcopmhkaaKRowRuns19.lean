/- Packed: AlTurn, AlGather, AlOne, AlTrees -/
import Derived.Test.YtlagablcopmhkaaKRowRuns16
import Derived.Test.YtlagablcopmhkaaKRowRuns18
set_option linter.unusedVariables false
set_option linter.unusedSimpArgs false
/- nfa: Turn, walked. -/
namespace Go.Proofs.Ytlagablcopmhkaa
open Go.RowKit

theorem rises_len {l : List Int} : ∀ {lo hi : Int}, lo ≤ hi → risesB lo hi l = true → (l.length : Int) ≤ hi - lo := by
  induction l with
  | nil => intro lo hi h0 _; simp; omega
  | cons x l ih =>
    intro lo hi h0 h
    rw [risesB] at h
    split at h
    · cases h
    · rename_i hx
      have := ih (by omega) h
      simp
      omega
theorem good_len {hi : Int} (h0 : -1 ≤ hi) : ∀ {fs : List (List Int)} {ss : List (BitVec 256)}, fs.length = ss.length → goodFrom hi fs ss = true → ∀ f ∈ fs, (f.length : Int) ≤ hi + 1
  | [], _, _, _, f, hf => by cases hf
  | g :: fs, [], h, _, f, hf => by simp at h
  | g :: fs, s :: ss, h, hg, f, hf => by
    rw [goodFrom] at hg
    simp only [Bool.and_eq_true] at hg
    rcases List.mem_cons.1 hf with rfl | hf
    · have := rises_len (by omega) hg.1.1; omega
    · exact good_len h0 (by simpa using h) hg.2 f hf
/-- no list of a right automaton is long -/
theorem rightA_len {a : Auto} (h : rightA a = true) : a.sets.length ≤ 400 ∧ a.follow.length ≤ 400 ∧ a.first.length ≤ 400 ∧ a.last.length ≤ 400 ∧ ∀ f ∈ a.follow, f.length ≤ 400 := by
  have hP := rightP h
  unfold rightA at h
  simp only [Bool.and_eq_true, decide_eq_true_eq] at h
  obtain ⟨⟨⟨⟨h1, h2⟩, h3⟩, h4⟩, h5⟩ := h
  have b1 := rises_len (by omega) h3
  have b2 := rises_len (by omega) h4
  refine ⟨h1, by omega, by omega, by omega, fun f hf => ?_⟩
  have := good_len (by omega) h2 h5 f hf
  omega
theorem rightA_sm {a : Auto} (h : rightA a = true) : Sm a := by
  obtain ⟨h1, h2, h3, h4, h5⟩ := rightA_len h
  exact ⟨by omega, by omega, by omega, by omega, fun x hx => by have := h5 x hx; omega⟩

/-- p put behind all of these -/
def turnIn (p : Int) : List Int → List (List Int) → List (List Int)
  | [], T => T
  | q :: f, T => turnIn p f (T.set q.toNat (T.getD q.toNat [] ++ [p]))
def turnOut : List (List Int) → Nat → List (List Int) → List (List Int)
  | [], _, T => T
  | f :: r, i, T => turnOut r (i + 1) (turnIn i f T)
/-- the automaton the other way round -/
def turnA (a : Auto) : Auto := ⟨a.sets, turnOut a.follow 0 (List.replicate a.follow.length []), a.last, a.first, a.empty⟩

/-- rows, one for each -/
def rowsI (T : List (Value × List Int)) : List Ch := T.map fun x => .row x.1 3 1 x.2.length (intsR x.2)
def rowsC (T : List (Value × List Int)) : List V := T.map fun x => V.v x.1
theorem rowsI_at {T : List (Value × List Int)} {q : Nat} {x : Value × List Int} (h : T[q]? = some x) : (rowsI T)[q]? = some (.row x.1 3 1 x.2.length (intsR x.2)) := by simp [rowsI, h]
theorem rowsC_at {T : List (Value × List Int)} {q : Nat} {x : Value × List Int} (h : T[q]? = some x) : (rowsC T)[q * 1]? = some (V.v x.1) := by simp [rowsC, h]
theorem rowsI_set (T : List (Value × List Int)) (q : Nat) (x : Value × List Int) : (rowsI T).set q (.row x.1 3 1 x.2.length (intsR x.2)) = rowsI (T.set q x) := by simp [rowsI, List.map_set]
theorem rowsC_set (T : List (Value × List Int)) (q : Nat) (x : Value × List Int) : (rowsC T).set (q * 1) (V.v x.1) = rowsC (T.set q x) := by simp [rowsC, List.map_set]
theorem rows_repl : ∀ m : Nat, rowsI (List.replicate m ((.slice none 0 0 : Value), ([] : List Int))) = List.replicate m (Ch.row (.slice none 0 0) 3 1 0 []) := fun m => by simp [rowsI, intsR]
theorem Le.addNils {n : Nat} {sl : Sl} {L : List Ch} (e : TypeId) (k : Nat) : ∀ m : Nat, Le n sl L sl (List.replicate m (.row (.slice none 0 0) e k 0 []) ++ L)
  | 0 => .refl _ _
  | m + 1 => .trans (Le.addNils e k m) (.addNil e k)

set_option maxRecDepth 100000 in
set_option maxHeartbeats 4000000 in
theorem turn_walk (a : Auto) (hr : rightA a = true) :
    AC Try.prog 16 [.a (cellsA a)] [] fun r L' => ∃ A w0 p0 c0 p1 c1 p2 c2 p3 c3 fs vo T, r = .t [.a [.v (.slice p0 a.sets.length c0), .v vo, .v (.slice p3 a.last.length c3), .v (.slice p2 a.first.length c2), .b a.empty], .i 0] ∧
      VLeR A (SameOn A w0) (.a [.v (.slice p0 a.sets.length c0), .v (.slice p1 a.follow.length c1), .v (.slice p2 a.first.length c2), .v (.slice p3 a.last.length c3), .b a.empty]) (.a (cellsA a)) ∧ SpOk A (ShapeOn A 24 w0) p0 a.sets.length p1 a.follow.length c1 p2 a.first.length p3 a.last.length fs ∧
      T.map (·.2) = turnOut a.follow 0 (List.replicate a.follow.length []) ∧ L' = [.row vo 24 1 a.follow.length (rowsC T), .reg A (SameOn A w0)] ++ rowsI T := by
  have hP := rightP hr
  obtain ⟨l1, l2, l3, l4, l5⟩ := rightA_len hr
  have hS := rightA_sm hr
  have hrt := right_a a
  rw [hr] at hrt
  refine ac_body _ Try.func16 rfl Try.ntmps16 Try.results16 rfl ?_
  refine aw_seq (aw_region ?_)
  refine aos_cons rfl (aop_box_a rfl rfl rfl rfl ?_)
  intro b1
  refine aos_cons rfl (aop_alloc rfl rfl ?_)
  intro b2
  show AOs _ _ _ _ ((_, _) :: _) (_ :: _) _
  (repeat (first | ((refine aos_cons rfl ?_); refine aop_call0 rfl rfl rfl (fun _ _ => by kernel_rfl) (hrt) (.refl _) ?_; show AOs _ _ _ _ ((_, _) :: _) _ _) | refine aos_nil ?_ | ((refine aos_cons rfl ?_); (first | refine qd rfl rfl ?_ | refine gla rfl rfl rfl (by repeat first | exact .z | apply At.s) (by rfl) ?_); show AOs _ _ _ _ ((_, _) :: _) _ _) | refine aw_seq ?_ | refine aw_region ?_ | refine aw_skip ?_ | refine aw_cond false rfl ?_))
  refine aos_cons rfl (aop_call (L1 := []) rfl rfl rfl (fun _ _ => by kernel_rfl) (.refl _) (copy_a a hS.s hS.f hS.i hS.l hS.e) (.refl _) ?_)
  rintro r L' ⟨_, A, w0, ⟨p0, c0, p1, c1, p2, c2, p3, c3, fs, rfl, hview, hsp⟩, rfl⟩
  show AOs _ _ _ _ ((_, _) :: _) (_ :: _) _
  refine aos_cons rfl (aop_alloc rfl rfl ?_)
  intro b4
  show AOs _ _ _ _ ((_, _) :: _) (_ :: _) _
  (repeat (first | refine aos_nil ?_ | ((refine aos_cons rfl ?_); (first | refine gl rfl rfl rfl (by repeat first | exact .z | apply At.s) (by rfl) ?_ | refine aop_fieldAddr rfl rfl rfl ?_ | refine gn0 rfl rfl rfl ?_ | refine gsa rfl rfl rfl rfl (by repeat first | exact .z | apply At.s) rfl (by rfl) rfl ?_ | refine gs rfl rfl rfl rfl (by repeat first | exact .z | apply At.s) (by rfl) rfl ?_); show AOs _ _ _ _ ((_, _) :: _) _ _) | refine aw_seq ?_ | refine aw_region ?_))
  refine aos_cons rfl (aop_make rfl rfl rfl rfl a.follow.length rfl rfl (by omega) (by omega) fun vo hvo => ?_)
  show AOs _ _ _ _ ((_, _) :: _) (_ :: _) _
  (repeat (((refine aos_cons rfl ?_); (refine aop_fieldAddr rfl rfl rfl ?_); show AOs _ _ _ _ ((_, _) :: _) _ _)))
  refine aos_cons rfl (aop_rowOne 0 rfl fun hone => aop_store1 (i := 1) rfl rfl rfl rfl rfl rfl hone ?_)
  show AOs _ _ _ _ ((_, _) :: _) (_ :: _) _
  (repeat (first | refine aos_nil ?_ | ((refine aos_cons rfl ?_); (first | refine qd rfl rfl ?_ | refine gl rfl rfl rfl (by repeat first | exact .z | apply At.s) (by rfl) ?_ | refine aop_fieldAddr rfl rfl rfl ?_ | refine gn0 rfl rfl rfl ?_); show AOs _ _ _ _ ((_, _) :: _) _ _) | refine aw_seq ?_ | refine aw_region ?_ | refine aw_block ?_))
  have hvr : ∀ g, vo.ownBlock = some g → True := fun _ _ => trivial
  refine aw_le (.addNils 3 1 a.follow.length) ?_
  rw [← rows_repl]
  refine aw_for (ι := Nat × List (Value × List Int)) (fun i => [(2, V.ptr b2 0), (4, V.ptr b4 0), (27, V.d (dLists a.follow)), (28, V.i a.follow.length), (29, V.i i.1)])
    (fun i => [.box b4 26 [.v (.slice p0 a.sets.length c0), .v vo, .v (.slice p3 a.last.length c3), .v (.slice p2 a.first.length c2), .b a.empty], .row vo 24 1 a.follow.length (rowsC i.2), .reg A (SameOn A w0), .box b2 26 [V.nil, V.nil, V.nil, V.nil, V.b false], .box b1 26 (cellsA a)] ++ rowsI i.2)
    (fun i => i.1 ≤ a.follow.length ∧ i.2.length = a.follow.length ∧ turnOut a.follow 0 (List.replicate a.follow.length []) = turnOut (a.follow.drop i.1) i.1 (i.2.map (·.2)) ∧ ∀ x ∈ i.2, x.2.length ≤ 400 * i.1) (fun i => a.follow.length - i.1) (0, List.replicate a.follow.length (.slice none 0 0, [])) ⟨Nat.zero_le _, by simp, by simp, fun x hx => by rw [List.eq_of_mem_replicate hx]; exact Nat.zero_le _⟩ ?_ ?_
  · exact .trans (.perm List.perm_append_comm) (.trans (.perm (.append_right _ (.swap _ _ _))) (.eqs' rfl (by rw [show rowsC (List.replicate a.follow.length ((.slice none 0 0 : Value), ([] : List Int))) = List.replicate a.follow.length V.nil by simp [rowsC]]; rfl)))
  rintro ⟨i, T⟩ ⟨hi, hT, he, hb⟩
  have hi : i ≤ a.follow.length := hi
  have hT : T.length = a.follow.length := hT
  have he : turnOut a.follow 0 (List.replicate a.follow.length []) = turnOut (a.follow.drop i) i (T.map (·.2)) := he
  have hb : ∀ x ∈ T, x.2.length ≤ 400 * i := hb
  by_cases hlt : i < a.follow.length
  · have hd : decide ((i : Int) < (a.follow.length : Int)) = true := by simp; omega
    obtain ⟨f, hf⟩ := some_at hlt
    have hf5 := l5 f (List.mem_of_getElem? hf)
    have hfe := hP.each f (List.mem_of_getElem? hf)
    rw [drop_cons hf, turnOut] at he
    show AW _ _ _ _ [(2, V.ptr b2 0), (4, V.ptr b4 0), (27, V.d (dLists a.follow)), (28, V.i a.follow.length), (29, V.i i)] ([.box b4 26 [.v (.slice p0 a.sets.length c0), .v vo, .v (.slice p3 a.last.length c3), .v (.slice p2 a.first.length c2), .b a.empty], .row vo 24 1 a.follow.length (rowsC T), .reg A (SameOn A w0), .box b2 26 [V.nil, V.nil, V.nil, V.nil, V.b false], .box b1 26 (cellsA a)] ++ rowsI T) _
    (repeat (first | refine aos_nil ?_ | ((refine aos_cons rfl ?_); (first | refine qd rfl rfl ?_ | refine gc rfl rfl rfl rfl rfl _ (by assumption) ?_ | refine aop_index rfl rfl rfl rfl _ rfl (by omega) ?_); show AOs _ _ _ _ ((_, _) :: _) _ _) | refine aw_seq ?_ | refine aw_region ?_ | refine aw_block ?_ | refine aw_skip ?_ | refine aw_cond true rfl ?_))
    refine aos_cons rfl (aop_load_e rfl rfl rfl (dL_at hf) ?_)
    (repeat (first | refine aos_nil ?_ | ((refine aos_cons rfl ?_); (first | refine qd rfl rfl ?_ | refine gn0 rfl rfl rfl ?_); show AOs _ _ _ _ ((_, _) :: _) _ _) | refine aw_seq ?_ | refine aw_region ?_ | refine aw_block ?_))
    refine aw_for (ι := Nat × List (Value × List Int)) (fun j => [(2, V.ptr b2 0), (4, V.ptr b4 0), (5, V.i i), (27, V.d (dLists a.follow)), (28, V.i a.follow.length), (29, V.i i), (34, V.d (dI f)), (35, V.i f.length), (36, V.i j.1)])
      (fun j => [.box b4 26 [.v (.slice p0 a.sets.length c0), .v vo, .v (.slice p3 a.last.length c3), .v (.slice p2 a.first.length c2), .b a.empty], .row vo 24 1 a.follow.length (rowsC j.2), .reg A (SameOn A w0), .box b2 26 [V.nil, V.nil, V.nil, V.nil, V.b false], .box b1 26 (cellsA a)] ++ rowsI j.2)
      (fun j => j.1 ≤ f.length ∧ j.2.length = a.follow.length ∧ turnIn i f (T.map (·.2)) = turnIn i (f.drop j.1) (j.2.map (·.2)) ∧ ∀ x ∈ j.2, x.2.length ≤ 400 * i + j.1) (fun j => f.length - j.1) (0, T) ⟨Nat.zero_le _, hT, by simp, fun x hx => by have := hb x hx; simp only; omega⟩ (.eqs' rfl rfl) ?_
    rintro ⟨j, U⟩ ⟨hj, hU, hue, hub⟩
    have hj : j ≤ f.length := hj
    have hU : U.length = a.follow.length := hU
    have hue : turnIn i f (T.map (·.2)) = turnIn i (f.drop j) (U.map (·.2)) := hue
    have hub : ∀ x ∈ U, x.2.length ≤ 400 * i + j := hub
    show AW _ _ _ _ [(2, V.ptr b2 0), (4, V.ptr b4 0), (5, V.i i), (27, V.d (dLists a.follow)), (28, V.i a.follow.length), (29, V.i i), (34, V.d (dI f)), (35, V.i f.length), (36, V.i j)] ([.box b4 26 [.v (.slice p0 a.sets.length c0), .v vo, .v (.slice p3 a.last.length c3), .v (.slice p2 a.first.length c2), .b a.empty], .row vo 24 1 a.follow.length (rowsC U), .reg A (SameOn A w0), .box b2 26 [V.nil, V.nil, V.nil, V.nil, V.b false], .box b1 26 (cellsA a)] ++ rowsI U) _
    by_cases hjl : j < f.length
    · have hd2 : decide ((j : Int) < (f.length : Int)) = true := by simp; omega
      obtain ⟨q, hq⟩ := some_at hjl
      obtain ⟨hq0, hq1⟩ := hfe q (List.mem_of_getElem? hq)
      obtain ⟨qn, rfl⟩ := Int.eq_ofNat_of_zero_le hq0
      have hqm : qn < a.follow.length := by have := hP.fol; omega
      obtain ⟨x, hx⟩ := some_at (show qn < U.length by omega)
      have hxl := hub x (List.mem_of_getElem? hx)
      rw [drop_cons hq, turnIn] at hue
      (repeat (first | refine aos_nil ?_ | ((refine aos_cons rfl ?_); (first | refine gc rfl rfl rfl rfl rfl _ (by assumption) ?_ | refine aop_index rfl rfl rfl rfl _ rfl (by omega) ?_); show AOs _ _ _ _ ((_, _) :: _) _ _) | refine aw_seq ?_ | refine aw_region ?_ | refine aw_block ?_ | refine aw_skip ?_ | refine aw_cond true rfl ?_))
      refine aos_cons rfl (aop_load_e rfl rfl rfl (dI_at hq) ?_)
      (repeat (first | refine aos_nil ?_ | ((refine aos_cons rfl ?_); (refine qd rfl rfl ?_); show AOs _ _ _ _ ((_, _) :: _) _ _)))
      refine aw_rowBlock 1 rfl (by omega) fun g hg => ?_
      refine aw_le (sl' := [(2, V.ptr b2 0), (4, V.ptr b4 0), (5, V.i i), (8, V.i qn), (27, V.d (dLists a.follow)), (28, V.i a.follow.length), (29, V.i i), (34, V.d (dI f)), (35, V.i f.length), (36, V.i j)]) (.eqs rfl) ?_
      have hTq := rowsC_at hx
      have hTi := rowsI_at hx
      refine aw_drawGZ (show List.Perm _ ([] ++ _) from .refl _) ([.box b4 26 [.v (.slice p0 a.sets.length c0), .v vo, .v (.slice p3 a.last.length c3), .v (.slice p2 a.first.length c2), .b a.empty]]) 10 [0, 1, 2] [40, 41, 42, 43, 44, 45, 46, 47, 48, 49, 50] (by kernel_rfl) (by kernel_rfl) rfl (by kernel_rfl) (by kernel_rfl) ?_; refine drawg_q [] rfl rfl rfl (by kernel_rfl) (aq_plain rfl (by exact aop_fieldAddr rfl rfl rfl ⟨rfl, rfl⟩)) ?_; refine drawg_q [40] rfl rfl rfl (by kernel_rfl) (aq_plain rfl (by exact gl rfl rfl rfl (by repeat first | exact .z | apply At.s) (by rfl) ⟨rfl, rfl⟩)) ?_; refine drawg_q [] rfl rfl rfl (by kernel_rfl) (aq_plain rfl (by exact qd rfl rfl ⟨rfl, rfl⟩)) ?_; refine drawg_q [] rfl rfl rfl (by kernel_rfl) (aq_plain rfl (by exact aop_fieldAddr rfl rfl rfl ⟨rfl, rfl⟩)) ?_; refine drawg_q [43] rfl rfl rfl (by kernel_rfl) (aq_plain rfl (by exact gl rfl rfl rfl (by repeat first | exact .z | apply At.s) (by rfl) ⟨rfl, rfl⟩)) ?_; refine drawg_q [] rfl rfl rfl (by kernel_rfl) (aq_plain rfl (by exact qd rfl rfl ⟨rfl, rfl⟩)) ?_; refine drawg_q [44, 45] rfl rfl rfl (by kernel_rfl) (aq_plain rfl (by exact aop_index_rowg (j := 1) rfl rfl rfl rfl hg rfl qn rfl hqm ⟨rfl, rfl⟩)) ?_; refine drawg_q [46] rfl rfl rfl (by kernel_rfl) (aq_plain rfl (by exact aop_load (i := 1) rfl rfl rfl rfl ⟨hg, rfl⟩ hTq ⟨rfl, rfl⟩)) ?_; refine drawg_q [] rfl rfl rfl (by kernel_rfl) (aq_plain rfl (by exact qd rfl rfl ⟨rfl, rfl⟩)) ?_; refine drawg_q [48] rfl rfl rfl (by kernel_rfl) (aq_plain rfl (by exact aop_buildSlice (len := 1) (k := 1) rfl rfl [V.i i] rfl rfl (by decide) (by decide) ⟨rfl, rfl⟩)) ?_; refine ⟨.refl _, ?_, _, rfl, rfl, fun β => ?_⟩
      · intro z hz
        rcases List.mem_cons.1 hz with rfl | hz
        · refine ⟨_, _, 40, [], rfl, ?_, rfl, (fun _ h => by cases h), aop_fieldAddr rfl rfl rfl ⟨rfl, rfl⟩⟩
          repeat (first | exact List.mem_cons_self | refine List.mem_cons_of_mem _ ?_)
        rcases List.mem_cons.1 hz with rfl | hz
        · refine ⟨_, V.v vo, 41, [(40, V.ptr b4 (0 + 1))], rfl, ?_, rfl, ?_, aop_load (i := 0) rfl rfl rfl rfl ⟨rfl, rfl⟩ rfl ⟨rfl, rfl⟩⟩
          · repeat (first | exact List.mem_cons_self | refine List.mem_cons_of_mem _ ?_)
          · intro p hp
            obtain rfl := List.mem_singleton.1 hp
            refine ⟨0, List.elem_iff.1 (by kernel_rfl), ?_⟩
            repeat (first | exact List.mem_cons_self | refine List.mem_cons_of_mem _ ?_)
        obtain rfl := List.mem_singleton.1 hz
        refine ⟨_, _, 42, [], rfl, ?_, rfl, (fun _ h => by cases h), aop_move (V.i qn) rfl rfl rfl ⟨rfl, rfl⟩⟩
        repeat (first | exact List.mem_cons_self | refine List.mem_cons_of_mem _ ?_)
      · refine aop_append (j := qn + 5) (m := x.2.length) (q := 1) (k := 1) (bytes := 8) rfl rfl rfl hTi rfl rfl (by omega) (by omega) fun v' => ⟨_, _, rfl, .refl _, ?_⟩
        have hnew : ((rowsI U).set qn (Ch.row v' 3 1 (x.2.length + 1) (intsR x.2 ++ List.map V.d (List.map V.toD [V.i i]))))[qn]? = some (Ch.row v' 3 1 (x.2.length + 1) (intsR x.2 ++ List.map V.d (List.map V.toD [V.i i]))) := List.getElem?_set_self (by simp [rowsI]; omega)
        have hCl : qn * 1 < (rowsC U).length := by simp [rowsC]; omega
        have hrw : Ch.row v' 3 1 (x.2.length + 1) (intsR x.2 ++ List.map V.d (List.map V.toD [V.i i])) = Ch.row v' 3 1 (x.2 ++ [(i : Int)]).length (intsR (x.2 ++ [(i : Int)])) := by simp [intsR, V.toD]
        refine aos_cons rfl (aop_rowOne (qn + 5) hnew fun hone => aop_index_rowg (j := 1) rfl rfl rfl rfl hg rfl qn rfl hqm ?_)
        refine aos_cons rfl (aop_store1_row (i := 1) rfl rfl rfl rfl hg rfl hCl hone ?_)
        (repeat (first | refine aos_nil ?_ | ((refine aos_cons rfl ?_); (first | refine qd rfl rfl ?_ | refine ga rfl rfl rfl rfl rfl (by omega) (by omega) ?_); show AOs _ _ _ _ ((_, _) :: _) _ _) | refine aw_region ?_))
        have hUq : (U.map (·.2)).getD ((qn : Int)).toNat [] = x.2 := by simp [hx]
        rw [hUq] at hue
        refine ⟨(j + 1, U.set qn (v', x.2 ++ [(i : Int)])), ⟨hjl, by simp [hU], by rw [hue]; simp [List.map_set], fun y hy => ?_⟩, by show f.length - (j + 1) < f.length - j; omega, .eqs' rfl ?_⟩
        · rcases List.mem_or_eq_of_mem_set hy with hy | rfl
          · have := hub y hy; simp only; omega
          · simp; omega
        · show [Ch.box b4 _ _, Ch.row vo 24 1 a.follow.length ((rowsC U).set (qn * 1) (V.v v')), _, _, _] ++ (rowsI U).set qn (Ch.row v' 3 1 (x.2.length + 1) (intsR x.2 ++ List.map V.d (List.map V.toD [V.i i]))) = _
          rw [hrw, rowsI_set U qn (v', x.2 ++ [(i : Int)]), rowsC_set U qn (v', x.2 ++ [(i : Int)])]
    · have hd2 : decide ((j : Int) < (f.length : Int)) = false := by simp; omega
      obtain rfl : j = f.length := by omega
      rw [List.drop_length, turnIn] at hue
      (repeat (first | refine aos_nil ?_ | ((refine aos_cons rfl ?_); (first | refine qd rfl rfl ?_ | refine gc rfl rfl rfl rfl rfl _ (by assumption) ?_ | refine ga rfl rfl rfl rfl rfl (by omega) (by omega) ?_); show AOs _ _ _ _ ((_, _) :: _) _ _) | refine aw_seq ?_ | refine aw_region ?_ | refine aw_exit ?_ | refine aw_cond false rfl ?_))
      exact ⟨(i + 1, U), ⟨hlt, hU, by rw [he, hue], fun x hx => by have := hub x hx; simp only; omega⟩, by show a.follow.length - (i + 1) < a.follow.length - i; omega, .eqs' rfl rfl⟩
  · have hd : decide ((i : Int) < (a.follow.length : Int)) = false := by simp; omega
    obtain rfl : i = a.follow.length := by omega
    rw [List.drop_length, turnOut] at he
    show AW _ _ _ _ [(2, V.ptr b2 0), (4, V.ptr b4 0), (27, V.d (dLists a.follow)), (28, V.i a.follow.length), (29, V.i a.follow.length)] ([.box b4 26 [.v (.slice p0 a.sets.length c0), .v vo, .v (.slice p3 a.last.length c3), .v (.slice p2 a.first.length c2), .b a.empty], .row vo 24 1 a.follow.length (rowsC T), .reg A (SameOn A w0), .box b2 26 [V.nil, V.nil, V.nil, V.nil, V.b false], .box b1 26 (cellsA a)] ++ rowsI T) _
    refine aw_rowShape 1 rfl fun o1 o2 o3 hvo => ?_
    subst hvo
    (repeat (first | refine aos_nil ?_ | ((refine aos_cons rfl ?_); (first | refine qd rfl rfl ?_ | refine gla rfl rfl rfl (by repeat first | exact .z | apply At.s) (by rfl) ?_ | refine gc rfl rfl rfl rfl rfl _ (by assumption) ?_ | refine gsa rfl rfl rfl rfl (by repeat first | exact .z | apply At.s) rfl (by rfl) rfl ?_); show AOs _ _ _ _ ((_, _) :: _) _ _) | refine aw_seq ?_ | refine aw_region ?_ | refine aw_exit ?_ | refine aw_ret ?_ | refine aw_cond false rfl ?_))
    refine fpost (.inr rfl) (.t [.a [.v (.slice p0 a.sets.length c0), .v (.slice o1 o2 o3), .v (.slice p3 a.last.length c3), .v (.slice p2 a.first.length c2), .b a.empty], .i 0]) (.refl _ _) (res_cell_tmp (i := 3) rfl rfl rfl) (.cons _ (.cons_cons _ (.cons_cons _ (.cons _ (.cons _ (.refl _)))))) ⟨A, w0, p0, c0, p1, c1, p2, c2, p3, c3, fs, _, T, rfl, hview, hsp, he.symm, rfl⟩
end Go.Proofs.Ytlagablcopmhkaa
/- What a call has made, gathered as one region of its own; Turn. -/
namespace Go.Proofs.Ytlagablcopmhkaa
open Go.RowKit

/-- all that a call has made, as one region -/
theorem AC.gather {P : Program} {f : FuncId} {args : List V} {Q : V → List Ch → Prop} (G : V → (Nat → Prop) → World → Prop) (h : AC P f args [] Q) (hq : ∀ c L' w' S', Q c L' → Hp w' S' L' → VStab c ∧ G c (inL L') w') : AC P f args [] fun r L' => VStab r ∧ ∃ A w0, G r A w0 ∧ L' = [.reg A (SameOn A w0)] := fun w S vs hp hr => by
  refine (h w S vs hp hr).mono ?_
  rintro e w' ⟨v, c, S', L', rfl, hQ, hv, hp', hf'⟩
  obtain ⟨g1, g2⟩ := hq c L' w' S' hQ hp'
  have e1 : ∀ b, inL [Ch.reg (inL L') (SameOn (inL L') w')] b ↔ inL L' b := fun b => inL_one
  exact ⟨v, c, S', [.reg (inL L') (SameOn (inL L') w')], rfl, ⟨g1, _, w', g2, rfl⟩, hv,
    ⟨fun x hx => by obtain rfl := List.mem_singleton.1 hx; exact ⟨fun _ _ => rfl, fun b hb => hp'.blt hb, SameOn.st _ _⟩, List.pairwise_singleton _ _, fun b hb => hp'.out b ((e1 b).1 hb), hp'.lt⟩,
    ⟨hf'.os, hf'.tape, hf'.output, hf'.size, hf'.same, hf'.SS, hf'.Sn, fun b hb hlt => hf'.Ln b ((e1 b).1 hb) hlt⟩⟩

theorem VLeR.up {A B : Nat → Prop} {w0 w' : World} {c c' : V} (h : VLeR A (SameOn A w0) c c') (hAB : ∀ b, A b → B b) (hs : SameOn A w0 w') : VLeR B (SameOn B w') c c' := fun W S v hΦ hlt hR =>
  (h W S v (fun b hb => (hΦ b (hAB b hb)).trans (hs b hb)) (fun b hb => hlt b (hAB b hb)) hR).move (kept_same (fun _ _ _ => rfl) fun b hb => hb.imp id (hAB b))
theorem VLeR.part {A : Nat → Prop} {Φ : World → Prop} {xs : List Value} {cs : List V} (h : VLeR A Φ (.a (xs.map V.v)) (.a cs)) {j : Nat} {x : Value} {c : V} (hx : xs[j]? = some x) (hc : cs[j]? = some c) : VLeR A Φ (.v x) c := fun W S v hΦ hlt hR => by
  obtain rfl := hR.unv
  have h1 : R W S (.a (xs.map V.v)) (.agg xs.toArray) := .a xs (by simp) fun j c u h1 h2 => by
    rw [List.getElem?_map, h2] at h1
    cases h1
    exact .v u
  have h2 := h W S _ hΦ hlt h1
  generalize hg : Value.agg xs.toArray = g at h2
  cases h2 with
  | a us hl hr =>
    have : us = xs := by have := Value.agg.inj hg; exact (congrArg Array.toList this).symm
    subst this
    exact hr j c _ hc hx
theorem RL_vals_eq {w : World} {S : Nat → Prop} {xs us : List Value} (h : RL w S (xs.map V.v) us) : us = xs := by
  apply List.ext_getElem?
  intro j
  cases hj : us[j]? with
  | none => rw [List.getElem?_eq_none_iff] at hj; have := h.1; simp at this; rw [eq_comm, List.getElem?_eq_none_iff]; omega
  | some u =>
    obtain ⟨x, hx⟩ : ∃ x, xs[j]? = some x := ⟨xs[j]'(by have := (List.getElem?_eq_some_iff.1 hj).1; have := h.1; simp at this; omega), by simp⟩
    have := h.2 j (V.v x) u (by simp [hx]) hj
    rw [hx, this.unv]

/-- a row, seen as data -/
theorem row_view {L : List Ch} {w' : World} {S' : Nat → Prop} {v : Value} {e : TypeId} {k m : Nat} {xs : List Value} {ds : List D} (hp : Hp w' S' L) (hm : Ch.row v e k m (xs.map V.v) ∈ L) (hd : ds.length = xs.length)
    (hv : ∀ (j : Nat) (x : Value) (d : D), xs[j]? = some x → ds[j]? = some d → VLeR (inL L) (SameOn (inL L) w') (.v x) (.d d)) : VLeR (inL L) (SameOn (inL L) w') (.v v) (.d (.s m k ds)) := fun W S u hΦ hlt hR => by
  obtain rfl := hR.unv
  obtain ⟨us, hown, hr, hone, hle⟩ := hp.ok _ hm
  obtain rfl := RL_vals_eq hr
  have hel : ∀ (j : Nat) (d : D) (u : Value), ds[j]? = some d → us[j]? = some u → Rep W (fun b => S b ∨ inL L b) d u := fun j d u h1 h2 => (hv j u d h2 h1 W S u hΦ hlt (.v u)).und
  obtain ⟨hl, ⟨rfl, rfl⟩ | ⟨g, cap, cur, rfl, hb, hg, hc, hmx, hsz, ht⟩⟩ := hown
  · exact .d (.s us (by omega) (Nat.le_refl _) (by omega) (by omega) (by omega) (fun hne => absurd (List.length_eq_zero_iff.1 (by simpa using hl)) hne) hel)
  · have hgB : inL L g := ⟨_, hm, rfl⟩
    refine .d (.s us hle hc (by simpa [maxLen] using hmx) (by omega) (by omega) (fun _ => ⟨g, 0, rfl, .inr hgB, fun j u hj => ?_⟩) hel)
    rw [cell_of_row _ _ _ _ _ _ ((hΦ g hgB).trans hg), Nat.zero_add]
    rw [← ht, List.getElem?_take] at hj
    split at hj
    · simpa using hj
    · simp at hj
/-- a row that may be written over -/
theorem row_wrt {L : List Ch} {w' : World} {S' : Nat → Prop} {v : Value} {e T : TypeId} {k m : Nat} {cs : List V} (hp : Hp w' S' L) (hm : Ch.row v e k m cs ∈ L) (hT : e ≠ T) (hk : 0 < k) :
    ∃ p cap, v = .slice p m cap ∧ m ≤ 140737488355328 ∧ m ≤ cap ∧ cap ≤ 9223372036854775807 ∧ Wrt (inL L) (ShapeOn (inL L) T w') k p m := by
  obtain ⟨us, hown, hr, hone, hle⟩ := hp.ok _ hm
  obtain ⟨hl, ⟨rfl, rfl⟩ | ⟨g, cap, cur, rfl, hb, hg, hc, hmx, hsz, ht⟩⟩ := hown
  · exact ⟨_, _, rfl, hle, Nat.le_refl _, by omega, fun h => absurd h (Nat.lt_irrefl _)⟩
  · have hgB : inL L g := ⟨_, hm, rfl⟩
    refine ⟨_, _, rfl, hle, hc, by simpa [maxLen] using hmx, fun hpos => ⟨g, 0, rfl, fun W hW => ?_⟩⟩
    obtain ⟨a1, a2, a3, a4⟩ := hW g hgB
    refine ⟨hgB, fun j hj => ⟨?_, (a2 _).trans (by simp [World.frozen?, hg])⟩, fun W' hs => hW.shp hs fun _ => by rw [tyOf_row hg]; exact fun e => hT (Option.some.inj e)⟩
    rw [a3, cell_of_row _ _ _ _ _ _ hg, Nat.zero_add]
    have hmc : m * k ≤ cap * k := Nat.mul_le_mul_right k hc
    have : j < cur.size := by omega
    simp [this]
theorem Wrt.up {A B : Nat → Prop} {w0 w' : World} {T : TypeId} {k n : Nat} {p : Option Addr} (h : Wrt A (ShapeOn A T w0) k p n) (hk : 0 < k) (hAB : ∀ b, A b → B b) (hs : SameOn A w0 w') : Wrt B (ShapeOn B T w') k p n := fun hpos => by
  obtain ⟨b, off, rfl, hw⟩ := h hpos
  have hself : ShapeOn A T w0 w0 := fun b _ => ⟨rfl, fun _ => rfl, fun _ => rfl, fun _ => rfl⟩
  obtain ⟨k1, k2, k3⟩ := hw w0 hself
  have hty : tyOf w0 b ≠ some T := fun he => by
    have hsome := (k2 0 (Nat.mul_pos hpos hk)).1
    rw [Nat.add_zero] at hsome
    obtain ⟨u, hu⟩ := Option.isSome_iff_exists.1 hsome
    have key : ∀ u' : Value, u' = u := fun u' => by
      have h1 := (k3 _ (Shp.setCell w0 b off u') b k1).2.2.2 he
      have h2 := cell_same h1 off
      rw [World.cell?_setCell_same _ _ _ hu, hu] at h2
      exact Option.some.inj h2
    exact absurd ((key (.bool true)).trans (key (.bool false)).symm) (by simp)
  refine ⟨b, off, rfl, fun W hW => ?_⟩
  have hA : ShapeOn A T w0 W := fun b hb => by
    obtain ⟨a1, a2, a3, a4⟩ := hW b (hAB b hb)
    have e := hs b hb
    exact ⟨a1.trans (tyOf_same e), fun o => (a2 o).trans (frozen_same e o), fun o => by rw [a3 o, cell_same e o], fun ht => (a4 ((tyOf_same e).trans ht)).trans e⟩
  obtain ⟨a1, a2, a3⟩ := hw W hA
  exact ⟨hAB b a1, a2, fun W' hs' => hW.shp hs' fun _ => by rw [tyOf_same (hs b a1)]; exact hty⟩
theorem rows_row {L : List Ch} {w' : World} {S' : Nat → Prop} {p1 : Option Addr} {n c : Nat} {e : TypeId} {xs : List Value} (hp : Hp w' S' L) (hm : Ch.row (.slice p1 n c) e 1 n (xs.map V.v) ∈ L) (W : World) (hW : ShapeOn (inL L) e w' W) (hne : xs ≠ []) :
    ∃ b off, p1 = some ⟨b, off, none⟩ ∧ inL L b ∧ ∀ (j : Nat) (x : Value), xs[j]? = some x → W.cell? ⟨b, off + j, none⟩ = some x := by
  obtain ⟨us, hown, hr, hone, hle⟩ := hp.ok _ hm
  obtain rfl := RL_vals_eq hr
  rcases hown.2 with ⟨h1, h2⟩ | ⟨g, cap, cur, h1, hb, hg, _⟩
  · exact absurd (List.length_eq_zero_iff.1 (by have := hown.1; simp at h1; omega)) hne
  · simp at h1
    obtain ⟨rfl, rfl⟩ := h1
    have hgB : inL L g := ⟨_, hm, rfl⟩
    refine ⟨g, 0, rfl, hgB, fun j x hx => ?_⟩
    rw [cell_same ((hW g hgB).2.2.2 (tyOf_row hg))]
    have := hown.cells (g := g) rfl j _ hx
    rwa [Addr.add_mid] at this

def fsOf (T : List (Value × List Int)) : List (Option Addr × Nat × Nat) := T.map fun x => match x.1 with | .slice p n c => (p, n, c) | _ => (none, 0, 0)
theorem turnOut_len : ∀ (r : List (List Int)) (i : Nat) (T : List (List Int)), (turnOut r i T).length = T.length
  | [], _, _ => rfl
  | f :: r, i, T => by
    rw [turnOut, turnOut_len r]
    have : ∀ (f : List Int) (T : List (List Int)), (turnIn i f T).length = T.length := by
      intro f
      induction f with
      | nil => intro T; rfl
      | cons q f ih => intro T; rw [turnIn, ih]; simp
    exact this f T
theorem turn_own (a : Auto) (hr : rightA a = true) : AC Try.prog 16 [.a (cellsA a)] [] fun r L' => VStab r ∧ ∃ A w0, (∃ r', r = .t [r', .i 0] ∧ VStab r' ∧ OwnAu (turnA a) r' A w0) ∧ L' = [.reg A (SameOn A w0)] := by
  refine (turn_walk a hr).gather (fun r A w0 => ∃ r', r = .t [r', .i 0] ∧ VStab r' ∧ OwnAu (turnA a) r' A w0) ?_
  rintro r L' w' S' ⟨A, w0, p0, c0, p1, c1, p2, c2, p3, c3, fs, vo, T, rfl, hview, hsp, hT, rfl⟩ hp
  have hst : VStab (.a [.v (.slice p0 a.sets.length c0), .v vo, .v (.slice p3 a.last.length c3), .v (.slice p2 a.first.length c2), .b a.empty]) := .a fun c hc => by
    simp at hc
    rcases hc with rfl | rfl | rfl | rfl | rfl <;> exact .v _
  refine ⟨.two hst (.v _), _, rfl, hst, ?_⟩
  generalize hL : [Ch.row vo 24 1 a.follow.length (rowsC T), Ch.reg A (SameOn A w0)] ++ rowsI T = L at hp
  have mo : Ch.row vo 24 1 a.follow.length (rowsC T) ∈ L := by rw [← hL]; exact List.mem_cons_self
  have mr : Ch.reg A (SameOn A w0) ∈ L := by rw [← hL]; exact List.mem_cons_of_mem _ List.mem_cons_self
  have mi : ∀ x ∈ T, Ch.row x.1 3 1 x.2.length (intsR x.2) ∈ L := fun x hx => by rw [← hL]; exact List.mem_append_right _ (List.mem_map.2 ⟨x, hx, rfl⟩)
  have hAB : ∀ b, A b → inL L b := fun b hb => ⟨_, mr, hb⟩
  have hs : SameOn A w0 w' := (hp.ok _ mr).1
  have hTl : T.length = a.follow.length := by have := congrArg List.length hT; rw [turnOut_len] at this; simpa using this
  have hrc : rowsC T = (T.map (·.1)).map V.v := by simp [rowsC]
  rw [hrc] at mo
  have hin : ∀ x ∈ T, VLeR (inL L) (SameOn (inL L) w') (.v x.1) (.d (dI x.2)) := fun x hx => by
    have h1 := mi x hx
    rw [show intsR x.2 = (x.2.map (Value.int .i64)).map V.v by simp [intsR]] at h1
    have h2 := row_view (ds := x.2.map fun y => D.v (.int .i64 y)) hp h1 (by simp) (fun j u d h1 h2 => by
      rw [List.getElem?_map] at h1 h2
      cases hj : x.2[j]? with
      | none => rw [hj] at h1; cases h1
      | some y => rw [hj] at h1 h2; cases h1; cases h2; exact .refl _)
    exact h2
  have hout : VLeR (inL L) (SameOn (inL L) w') (.v vo) (.d (dLists (turnA a).follow)) := by
    have h2 := row_view (ds := (turnA a).follow.map dI) hp mo (by simp only [turnA, List.length_map, turnOut_len, List.length_replicate]; exact hTl.symm) (fun j u d h1 h2 => by
      rw [show (turnA a).follow = T.map (·.2) from hT.symm, List.getElem?_map, List.getElem?_map] at h2
      rw [List.getElem?_map] at h1
      cases hj : T[j]? with
      | none => rw [hj] at h1; cases h1
      | some y => rw [hj] at h1 h2; cases h1; cases h2; exact hin y (List.mem_of_getElem? hj))
    rw [dLists, show (turnA a).follow.length = a.follow.length by simp [turnA, turnOut_len]]
    exact h2
  obtain ⟨us, hown, _, _, hle⟩ := hp.ok _ mo
  obtain ⟨q1, d1, rfl⟩ := ownsRow_form hown
  have hcap : a.follow.length ≤ d1 ∧ d1 ≤ 9223372036854775807 := by
    rcases hown.2 with ⟨e1, e2⟩ | ⟨g, cap, cur, e1, _, _, e2, e3, _⟩
    · simp at e1; omega
    · simp at e1; unfold maxLen at e3; omega
  have hfl : (turnA a).follow.length = a.follow.length := by simp [turnA, turnOut_len]
  have hform : ∀ x ∈ T, ∃ p cap, x.1 = .slice p x.2.length cap ∧ x.2.length ≤ 140737488355328 ∧ Wrt (inL L) (ShapeOn (inL L) 24 w') 1 p x.2.length := fun x hx => by
    obtain ⟨p, cap, h1, h2, _, _, h3⟩ := row_wrt (T := 24) hp (mi x hx) (by decide) (by decide)
    exact ⟨p, cap, h1, h2, h3⟩
  have hview5 : VLeR A (SameOn A w0) (.a ([Value.slice p0 a.sets.length c0, .slice p1 a.follow.length c1, .slice p2 a.first.length c2, .slice p3 a.last.length c3, .bool a.empty].map V.v)) (.a (cellsA a)) := hview
  refine ⟨p0, c0, q1, d1, p3, c3, p2, c2, fsOf T, by rw [hfl]; rfl, ?_, ?_⟩
  · exact .a ⟨(hview5.part (j := 0) rfl rfl).up hAB hs, hout, (hview5.part (j := 3) rfl rfl).up hAB hs, (hview5.part (j := 2) rfl rfl).up hAB hs, .refl _, trivial⟩
  · rw [hfl]
    refine ⟨hsp.w0.up (by decide) hAB hs, hsp.w3.up (by decide) hAB hs, hsp.w2.up (by decide) hAB hs, ?_, by simp [fsOf, hTl], hcap, ?_, hsp.le0, hsp.le3, hsp.le2, ?_⟩
    · intro f hf
      obtain ⟨x, hx, rfl⟩ := List.mem_map.1 hf
      obtain ⟨p, cap, h1, h2, h3⟩ := hform x hx
      rw [h1]
      exact h3
    · intro W hW hne
      obtain ⟨b, off, h1, h2, h3⟩ := rows_row hp mo W hW (by intro h; apply hne; simp at h; simp [fsOf, h])
      refine ⟨b, off, h1, h2, fun j f hj => ?_⟩
      rw [fsOf, List.getElem?_map] at hj
      cases hx : T[j]? with
      | none => rw [hx] at hj; cases hj
      | some x =>
        rw [hx] at hj
        cases hj
        obtain ⟨p, cap, e1, _⟩ := hform x (List.mem_of_getElem? hx)
        rw [h3 j x.1 (by simp [hx])]
        simp only [e1]
    · intro f hf
      obtain ⟨x, hx, rfl⟩ := List.mem_map.1 hf
      obtain ⟨p, cap, h1, h2, h3⟩ := hform x hx
      rw [h1]
      exact h2
/-- what is one's own may be seen as data -/
theorem AC.data {P : Program} {f : FuncId} {args : List V} {a : Auto} {x : V} (h : AC P f args [] fun r L' => VStab r ∧ ∃ A w0, (∃ r', r = .t [r', x] ∧ VStab r' ∧ OwnAu a r' A w0) ∧ L' = [.reg A (SameOn A w0)]) : AC P f args [] fun r L' => r = .t [.a (cellsA a), x] ∧ L' = [] := fun w S vs hp hr => by
  refine (h w S vs hp hr).mono ?_
  rintro e w' ⟨v, c, S', L', rfl, ⟨_, A, w0, ⟨r', rfl, _, p0, c0, p1, c1, p2, c2, p3, c3, fs, rfl, hview, _⟩, rfl⟩, hv, hp', hf'⟩
  obtain ⟨hΦ, hA, _⟩ := hp'.ok _ List.mem_cons_self
  have e1 : ∀ b, inL [Ch.reg A (SameOn A w0)] b ↔ A b := fun b => inL_one
  cases hv with
  | t us hl hr2 =>
    obtain ⟨u0, u1, rfl, h0, h1⟩ := (show RL w' S' [_, _] us from ⟨hl, hr2⟩).two
    have g0 := hview w' S' u0 hΦ hA h0
    have g1 : R w' (fun b => S' b ∨ A b) x u1 := h1.move (kept_same (fun _ _ _ => rfl) fun _ h => .inl h)
    refine ⟨_, _, fun b => S' b ∨ A b, [], rfl, ⟨rfl, rfl⟩, g0.pair g1, ⟨by simp, List.Pairwise.nil, fun b hb => absurd hb inL_nil, fun b hb => hb.elim (hp'.lt b) (hA b)⟩, ⟨hf'.os, hf'.tape, hf'.output, hf'.size, hf'.same, fun b hb => .inl (hf'.SS b hb), fun b hb hlt => hb.elim (fun h => hf'.Sn b h hlt) (fun h => .inr (hf'.Ln b ((e1 b).2 h) hlt)), fun b hb => absurd hb inL_nil⟩⟩
theorem turn_a (a : Auto) (hr : rightA a = true) : AC Try.prog 16 [.a (cellsA a)] [] fun r L' => r = .t [.a (cellsA (turnA a)), .i 0] ∧ L' = [] := (turn_own a hr).data
end Go.Proofs.Ytlagablcopmhkaa
/- Law 17: one, byteOf. -/
namespace Go.Proofs.Ytlagablcopmhkaa
open Go.RowKit

theorem AC.weak {P : Program} {f : FuncId} {args : List V} {L : List Ch} {Q Q' : V → List Ch → Prop} (h : AC P f args L Q) (hq : ∀ c L', Q c L' → ∃ c', VLe c c' ∧ Q' c' L') : AC P f args L Q' := fun w S vs hp hr => (h w S vs hp hr).mono fun _ _ ⟨v, c, S', L', h1, h2, h3, h4⟩ => let ⟨c', k1, k2⟩ := hq c L' h2; ⟨v, c', S', L', h1, k2, k1 _ _ _ h3, h4⟩
theorem VLe.a {cs cs' : List V} (h : ArgsLe cs cs') : VLe (.a cs) (.a cs') := fun w S v hr => by
  cases hr with
  | a us hl hr =>
    have := ArgsLe.rl h ⟨hl, hr⟩
    exact .a us this.1 this.2

section
variable {P : Program} {n : Nat} {o : Oper} {sl : Sl} {L : List Ch} {K : Sl → List Ch → Prop}
theorem aop_quo8 {t t' : TypeId} {x y : Operand} {k : IntKind} {p q : Int} (i : Int) (ho : o.op = .binOp .quo t x y t') (hd : dstOk n o.dst = true) (hx : ev sl x = .v (.int k p)) (hy : ev sl y = .v (.int k q)) (hq : q ≠ 0) (hr : k.wrap (p.tdiv q) = i) (hK : K (put sl o.dst (.v (.int k i))) L) : AOp P n o sl L K :=
  aop_bini ho hd _ hx hy (fun w => by simp [binOp, Op.intDiv, hq, hr]) hK
theorem aop_rem8 {t t' : TypeId} {x y : Operand} {k : IntKind} {p q : Int} (i : Int) (ho : o.op = .binOp .rem t x y t') (hd : dstOk n o.dst = true) (hx : ev sl x = .v (.int k p)) (hy : ev sl y = .v (.int k q)) (hq : q ≠ 0) (hr : p.tmod q = i) (hK : K (put sl o.dst (.v (.int k i))) L) : AOp P n o sl L K :=
  aop_bini ho hd _ hx hy (fun w => by simp [binOp, Op.intDiv, hq, hr]) hK
end

/-- the set of one byte -/
def oneS (c : Nat) : BitVec 256 := BitVec.ofNat 256 (2 ^ c)
/-- the Class of one byte -/
def byteN (c : Nat) : Node := .mk 2 (oneS c) 0 0 []

set_option maxRecDepth 100000 in
theorem one_a {c : Nat} (i j : Nat) (s : BitVec 256) (hi : i < 4) (hj : j < 64) (h1 : IntKind.u8.wrap ((c : Int).tdiv 64) = (i : Int)) (h2 : (c : Int).tmod 64 = (j : Int)) (hs : (zV [.int .u64 0, .int .u64 0, .int .u64 0, .int .u64 0]).set i (V.v (.int .u64 (IntKind.u64.wrap (1 * 2 ^ j)))) = setV s) :
    AC Try.prog 52 [.v (.int .u8 c)] [] fun r L' => r = .a (setV s) ∧ L' = [] := by
  have hj6 : j ≤ IntKind.u64.bits := by show j ≤ 64; omega
  have hi4 : Nat.blt (0 + i * 1) (zV [.int .u64 0, .int .u64 0, .int .u64 0, .int .u64 0]).length = true := by simp [zV]; omega
  refine ac_body _ Try.func52 rfl Try.ntmps52 Try.results52 rfl ?_
  refine aw_seq (aw_region ?_)
  refine aos_cons rfl (aop_alloc rfl rfl ?_)
  intro b2
  show AOs _ _ _ _ ((_, _) :: _) (_ :: _) _
  refine aos_nil (aw_seq (aw_region ?_))
  refine aos_cons rfl (aop_alloc rfl rfl ?_)
  intro b3
  show AOs _ _ _ _ ((_, _) :: _) (_ :: _) _
  (repeat (first | ((refine aos_cons rfl ?_); refine aop_quo8 i rfl rfl rfl rfl (by decide) h1 ?_; show AOs _ _ _ _ ((_, _) :: _) _ _) | ((refine aos_cons rfl ?_); refine aop_rem8 j rfl rfl rfl rfl (by decide) h2 ?_; show AOs _ _ _ _ ((_, _) :: _) _ _) | ((refine aos_cons rfl ?_); refine aop_shl j rfl rfl rfl rfl rfl hj6 ?_; show AOs _ _ _ _ ((_, _) :: _) _ _) | ((refine aos_cons rfl ?_); refine aop_index_arr rfl rfl rfl rfl i rfl hi ?_; show AOs _ _ _ _ ((_, _) :: _) _ _) | refine aos_nil ?_ | ((refine aos_cons rfl ?_); (refine qd rfl rfl ?_); show AOs _ _ _ _ ((_, _) :: _) _ _) | refine aw_seq ?_ | refine aw_region ?_))
  refine aos_cons rfl (aop_store1 (i := 0) rfl rfl rfl rfl rfl hi4 rfl ?_)
  show AOs _ _ _ _ ((_, _) :: _) (_ :: _) _
  have hs2 : (zV [.int .u64 0, .int .u64 0, .int .u64 0, .int .u64 0]).set (0 + i * 1) (V.d (.v (.int .u64 (IntKind.u64.wrap (1 * 2 ^ j))))) = setV s := by rw [Nat.zero_add, Nat.mul_one]; exact hs
  refine aos_nil (aw_le (.eqs' (sl' := [(2, V.ptr b2 0), (3, V.ptr b3 0)]) (L' := [.box b3 38 (setV s), .box b2 38 (zV [.int .u64 0, .int .u64 0, .int .u64 0, .int .u64 0])]) rfl (by rw [← hs2])) ?_)
  (repeat (first | refine aos_nil ?_ | ((refine aos_cons rfl ?_); (first | refine gla rfl rfl rfl (by repeat first | exact .z | apply At.s) (by rfl) ?_ | refine gsa rfl rfl rfl rfl (by repeat first | exact .z | apply At.s) rfl (by rfl) rfl ?_); show AOs _ _ _ _ ((_, _) :: _) _ _) | refine aw_seq ?_ | refine aw_region ?_ | refine aw_ret ?_))
  exact fpost0 (.inr rfl) (res_cell (i := 1) rfl rfl rfl) rfl

set_option maxRecDepth 100000 in
theorem byteOf_a {c : Nat} (ho : AC Try.prog 52 [.v (.int .u8 c)] [] fun r L' => r = .a (setV (oneS c)) ∧ L' = []) : AC Try.prog 51 [.v (.int .u8 c)] [] fun r L' => r = .a (nodeV (byteN c)) ∧ L' = [] := by
  suffices h : AC Try.prog 51 [.v (.int .u8 c)] [] fun r L' => r = .a [.v (.int .u8 2), .v (.int .u64 (word (oneS c) 0)), .v (.int .u64 (word (oneS c) 1)), .v (.int .u64 (word (oneS c) 2)), .v (.int .u64 (word (oneS c) 3)), .i 0, .i 0, .nil] ∧ L' = [] from
    h.weak fun r L' ⟨h1, h2⟩ => ⟨_, h1 ▸ .a (cs' := nodeV (byteN c)) ⟨.refl _, .refl _, .refl _, .refl _, .refl _, .refl _, .refl _, .nil 8, trivial⟩, rfl, h2⟩
  refine ac_body _ Try.func51 rfl Try.ntmps51 Try.results51 rfl ?_
  refine aw_seq (aw_region ?_)
  refine aos_cons rfl (aop_alloc rfl rfl ?_)
  intro b2
  show AOs _ _ _ _ ((_, _) :: _) (_ :: _) _
  (repeat (first | refine aos_nil ?_ | ((refine aos_cons rfl ?_); (refine qd rfl rfl ?_); show AOs _ _ _ _ ((_, _) :: _) _ _) | refine aw_seq ?_ | refine aw_region ?_))
  (refine aos_cons rfl ?_); refine aop_call0 rfl rfl rfl (fun _ _ => by kernel_rfl) (ho) (.refl _) ?_; show AOs _ _ _ _ ((_, _) :: _) _ _
  (refine aos_cons rfl ?_); refine aop_build rfl rfl [.v (.int .u8 2), .v (.int .u64 (word (oneS c) 0)), .v (.int .u64 (word (oneS c) 1)), .v (.int .u64 (word (oneS c) 2)), .v (.int .u64 (word (oneS c) 3)), .i 0, .i 0, .nil] rfl ?_; show AOs _ _ _ _ ((_, _) :: _) _ _
  refine aos_cons rfl (aop_store_all (i := 0) rfl rfl rfl rfl rfl rfl rfl rfl ?_)
  show AOs _ _ _ _ ((_, _) :: _) (_ :: _) _
  (repeat (first | refine aos_nil ?_ | refine aw_ret ?_))
  exact fpost0 (.inr rfl) (res_cell (i := 0) rfl rfl rfl) rfl

theorem one97_a : AC Try.prog 52 [.v (.int .u8 97)] [] fun r L' => r = .a (setV (oneS 97)) ∧ L' = [] := one_a (c := 97) 1 33 (oneS 97) (by decide) (by decide) (by decide) (by decide) (by kernel_rfl)
theorem one98_a : AC Try.prog 52 [.v (.int .u8 98)] [] fun r L' => r = .a (setV (oneS 98)) ∧ L' = [] := one_a (c := 98) 1 34 (oneS 98) (by decide) (by decide) (by decide) (by decide) (by kernel_rfl)
theorem one99_a : AC Try.prog 52 [.v (.int .u8 99)] [] fun r L' => r = .a (setV (oneS 99)) ∧ L' = [] := one_a (c := 99) 1 35 (oneS 99) (by decide) (by decide) (by decide) (by decide) (by kernel_rfl)
end Go.Proofs.Ytlagablcopmhkaa
/- Law 17: the trees and automata of awake. -/
namespace Go.Proofs.Ytlagablcopmhkaa
open Go.RowKit

def catN : Node := .mk 3 0 0 0 [byteN 97, byteN 98]
def altN : Node := .mk 4 0 0 0 [catN, byteN 99]
def starN : Node := .mk 5 0 0 (-1) [altN]
def fewN : Node := .mk 5 0 2 3 [byteN 97]
def manyN : Node := .mk 5 0 2 (-1) [byteN 97]
def starA : Auto := ⟨[oneS 97, oneS 98, oneS 99], [[1], [0, 2], [0, 2]], [0, 2], [1, 2], true⟩
def fewA : Auto := ⟨[oneS 97, oneS 97, oneS 97], [[1], [2], []], [0], [1, 2], false⟩
def manyA : Auto := ⟨[oneS 97, oneS 97], [[1], [1]], [0], [1], false⟩
def catA : Auto := ⟨[oneS 97, oneS 98], [[1], []], [0], [1], false⟩
def backA : Auto := ⟨[oneS 97, oneS 98], [[], [0]], [1], [0], false⟩

set_option maxRecDepth 100000
theorem of_star : AC Try.prog 14 [.a (nodeV starN)] [] fun r L' => r = .t [.a (cellsA starA), .i 0] ∧ L' = [] := by
  have h := of_good starN (by decide) (by kernel_rfl) (by decide +kernel) (by decide +kernel)
  rwa [show ofA starN = starA by kernel_rfl] at h
theorem of_few : AC Try.prog 14 [.a (nodeV fewN)] [] fun r L' => r = .t [.a (cellsA fewA), .i 0] ∧ L' = [] := by
  have h := of_good fewN (by decide) (by kernel_rfl) (by decide +kernel) (by decide +kernel)
  rwa [show ofA fewN = fewA by kernel_rfl] at h
theorem of_many : AC Try.prog 14 [.a (nodeV manyN)] [] fun r L' => r = .t [.a (cellsA manyA), .i 0] ∧ L' = [] := by
  have h := of_good manyN (by decide) (by kernel_rfl) (by decide +kernel) (by decide +kernel)
  rwa [show ofA manyN = manyA by kernel_rfl] at h
theorem of_cat : AC Try.prog 14 [.a (nodeV catN)] [] fun r L' => r = .t [.a (cellsA catA), .i 0] ∧ L' = [] := by
  have h := of_good catN (by decide) (by kernel_rfl) (by decide +kernel) (by decide +kernel)
  rwa [show ofA catN = catA by kernel_rfl] at h
theorem same_self (a : Auto) : AC Try.prog 22 [.a (cellsA a), .a (cellsA a)] [] fun r L' => r = .b true ∧ L' = [] := by
  have h := same_a a a
  rwa [sameA_refl] at h
theorem step97 : AC Try.prog 27 [.a (cellsA starA), .d (dI [-1]), .v (.int .u8 97)] [] fun r L' => r = .t [.d (dI [0]), .i 0] ∧ L' = [] := by
  have h := step_a starA [-1] 97 (by decide)
  rwa [show stepR starA [-1] 97 = [0] by kernel_rfl, show checkA starA [-1] = 0 by kernel_rfl] at h
theorem step98 : AC Try.prog 27 [.a (cellsA starA), .d (dI [-1]), .v (.int .u8 98)] [] fun r L' => r = .t [.d (dI []), .i 0] ∧ L' = [] := by
  have h := step_a starA [-1] 98 (by decide)
  rwa [show stepR starA [-1] 98 = [] by kernel_rfl, show checkA starA [-1] = 0 by kernel_rfl] at h
theorem search_cat : AC Try.prog 30 [.a (cellsA catA), .d (dB [97, 98, 97, 98])] [] fun r L' => r = .t [.d (dI [2, 4]), .i 0] ∧ L' = [] := by
  have h := Search_a (a := catA) (bs := [97, 98, 97, 98]) (by kernel_rfl) (by decide) (by decide)
  rwa [show searchL catA [97, 98, 97, 98] ([97, 98, 97, 98].length + 1) = [2, 4] by kernel_rfl] at h
theorem turn_cat : AC Try.prog 16 [.a (cellsA catA)] [] fun r L' => r = .t [.a (cellsA backA), .i 0] ∧ L' = [] := by
  have h := turn_a catA (by kernel_rfl)
  rwa [show turnA catA = backA by kernel_rfl] at h
theorem matches_back : AC Try.prog 18 [.a (cellsA backA), .d (dB [98, 97])] [] fun r L' => r = .t [.b true, .i 0] ∧ L' = [] := by
  have h := Matches_a (a := backA) (bs := [98, 97]) (by kernel_rfl) (by decide) (by decide)
  rwa [show accA backA (runS backA false [98, 97] [98, 97].length) = true by kernel_rfl] at h
end Go.Proofs.Ytlagablcopmhkaa
