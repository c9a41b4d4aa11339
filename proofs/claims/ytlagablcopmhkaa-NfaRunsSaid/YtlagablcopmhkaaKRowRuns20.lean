/- Packed: AlAwake, AlOpen, AlAuto -/
import Derived.Carry
import Derived.ChangeSame
import Derived.Deep.Slices
import Derived.OpenShut
import Derived.ProofKit
import Derived.SizedLaws
import Derived.Test.YtlagablcopmhkaaKRowRuns2
import Derived.Test.YtlagablcopmhkaaKRowRuns11
import Derived.Test.YtlagablcopmhkaaKRowRuns19
set_option linter.unusedVariables false
set_option linter.unusedSimpArgs false
/- Law 17: awake. -/
namespace Go.Proofs.Ytlagablcopmhkaa
open Go.RowKit

def DLe (d d' : D) : Prop := ∀ (w : World) (S : Nat → Prop) (v : Value), Rep w S d v → Rep w S d' v
def DLes : List D → List D → Prop
  | [], [] => True
  | d :: r, d' :: r' => DLe d d' ∧ DLes r r'
  | _, _ => False
theorem DLes.at : ∀ {l l' : List D}, DLes l l' → l.length = l'.length ∧ ∀ (j : Nat) (d' : D), l'[j]? = some d' → ∃ d, l[j]? = some d ∧ DLe d d'
  | [], [], _ => ⟨rfl, fun j d' h => by simp at h⟩
  | d :: r, d' :: r', h => by
    obtain ⟨h1, h2⟩ := DLes.at h.2
    refine ⟨by simp [h1], fun j e he => ?_⟩
    cases j with
    | zero => simp at he; subst he; exact ⟨d, rfl, h.1⟩
    | succ j => exact h2 j e (by simpa using he)
  | [], _ :: _, h => h.elim
  | _ :: _, [], h => h.elim
theorem DLe.nil (k : Nat) : DLe (.v (.slice none 0 0)) (.s 0 k []) := fun w S v h => (VLe.nil k w S v (.d h)).und
theorem VLe.ds {m k : Nat} {ds ds' : List D} (h : DLes ds ds') : VLe (.d (.s m k ds)) (.d (.s m k ds')) := fun w S v hr => by
  obtain ⟨h1, h2⟩ := h.at
  cases hr with
  | d h =>
    cases h with
    | s us hn hc hm hd hu hp hr =>
      exact .d (.s us hn hc hm (by omega) (by omega) hp fun j d' u a b => by
        obtain ⟨d, e1, e2⟩ := h2 j d' a
        exact e2 w S u (hr j d u e1 b))
theorem eqI_self (l : List Int) : AC Try.prog 23 [.d (dI l), .d (dI l)] [] fun r L' => r = .b true ∧ L' = [] := by
  have h := eqI_a l l
  rwa [decide_eq_true rfl] at h
set_option maxRecDepth 100000 in
set_option maxHeartbeats 4000000 in
theorem awake_a : AC Try.prog 12 [] [] fun r L' => r = .b true ∧ L' = [] := by
  have hb97 := byteOf_a (c := 97) one97_a
  have hb98 := byteOf_a (c := 98) one98_a
  have hb99 := byteOf_a (c := 99) one99_a
  refine ac_body _ Try.func12 rfl Try.ntmps12 Try.results12 rfl ?_
  (repeat (first | refine aos_nil ?_ | ((refine aos_cons rfl ?_); (refine qd rfl rfl ?_); show AOs _ _ _ _ ((_, _) :: _) _ _) | refine aw_seq ?_ | refine aw_region ?_))
  (refine aos_cons rfl ?_); refine aop_call0 rfl rfl rfl (fun _ _ => by kernel_rfl) (hb97) (.refl _) ?_; show AOs _ _ _ _ ((_, _) :: _) _ _
  (refine aos_cons rfl ?_); refine aop_call0 rfl rfl rfl (fun _ _ => by kernel_rfl) (hb98) (.refl _) ?_; show AOs _ _ _ _ ((_, _) :: _) _ _
  (refine aos_cons rfl ?_); refine aop_buildSlice (len := 2) (k := 8) rfl rfl (nodeV (byteN 97) ++ nodeV (byteN 98)) rfl rfl (by decide) (by decide) ?_; show AOs _ _ _ _ ((_, _) :: _) _ _
  (refine aos_cons rfl ?_); refine aop_build rfl rfl (nodeV catN) rfl ?_; show AOs _ _ _ _ ((_, _) :: _) _ _
  refine aos_cons rfl (aop_alloc rfl rfl ?_)
  intro b1
  show AOs _ _ _ _ ((_, _) :: _) (_ :: _) _
  refine aos_cons rfl (aop_store_all (i := 0) rfl rfl rfl rfl rfl rfl rfl rfl ?_)
  show AOs _ _ _ _ ((_, _) :: _) (_ :: _) _
  refine aos_nil (aw_seq (aw_le (.eqs' (sl' := [(1, V.ptr b1 0)]) (L' := [.box b1 41 (nodeV catN)]) rfl rfl) ?_))
  refine aw_drawH 7 [24, 25, 26, 27, 28, 29, 2] (by kernel_rfl) (by kernel_rfl) rfl (by kernel_rfl) ?_; refine drawh_q [] rfl rfl rfl (by kernel_rfl) (aq_plain rfl (by exact gla rfl rfl rfl (by repeat first | exact .z | apply At.s) (by rfl) ⟨rfl, rfl⟩)) ?_; refine drawh_q [] rfl rfl rfl (by kernel_rfl) (aq_plain rfl (aop_call0 rfl rfl rfl (fun _ _ => by kernel_rfl) (hb99) (.refl _) ⟨rfl, rfl⟩)) ?_; refine drawh_q [24, 25] rfl rfl rfl (by kernel_rfl) (aq_plain rfl (by exact aop_buildSlice (len := 2) (k := 8) rfl rfl (nodeV catN ++ nodeV (byteN 99)) rfl rfl (by decide) (by decide) ⟨rfl, rfl⟩)) ?_; refine drawh_q [26] rfl rfl rfl (by kernel_rfl) (aq_plain rfl (by exact aop_build rfl rfl (nodeV altN) rfl ⟨rfl, rfl⟩)) ?_; refine drawh_q [27] rfl rfl rfl (by kernel_rfl) (aq_plain rfl (by exact aop_buildSlice (len := 1) (k := 8) rfl rfl (nodeV altN) rfl rfl (by decide) (by decide) ⟨rfl, rfl⟩)) ?_; refine drawh_q [28] rfl rfl rfl (by kernel_rfl) (aq_plain rfl (by exact aop_build rfl rfl (nodeV starN) rfl ⟨rfl, rfl⟩)) ?_; refine drawh_al rfl rfl rfl rfl ?_; refine drawh_nil (.refl _) ?_; intro β
  refine aos_cons rfl (aop_store_all (i := 0) rfl rfl rfl rfl rfl rfl rfl rfl ?_)
  show AOs _ _ _ _ ((_, _) :: _) (_ :: _) _
  obtain ⟨b2, hb2⟩ : ∃ b2, b2 = (β 6).1 := ⟨_, rfl⟩
  refine aos_nil (aw_seq (aw_le (.eqs' (sl' := [(1, V.ptr b1 0), (2, V.ptr b2 0)]) (L' := [.box b2 41 (nodeV starN), .box b1 41 (nodeV catN)]) (by rw [hb2]; rfl) (by rw [hb2]; rfl)) ?_))
  clear hb2
  (repeat (first | ((refine aos_cons rfl ?_); refine aop_call0 rfl rfl rfl (fun _ _ => by kernel_rfl) (of_star) (.refl _) ?_; show AOs _ _ _ _ ((_, _) :: _) _ _) | ((refine aos_cons rfl ?_); (first | refine qd rfl rfl ?_ | refine qa rfl rfl ?_ | refine qt rfl rfl ?_ | refine gla rfl rfl rfl (by repeat first | exact .z | apply At.s) (by rfl) ?_); show AOs _ _ _ _ ((_, _) :: _) _ _) | refine aw_region ?_))
  refine aos_cons rfl (aop_alloc rfl rfl ?_)
  intro b3
  show AOs _ _ _ _ ((_, _) :: _) (_ :: _) _
  refine aos_cons rfl (aop_store_all (i := 0) rfl rfl rfl rfl rfl rfl rfl rfl ?_)
  show AOs _ _ _ _ ((_, _) :: _) (_ :: _) _
  (repeat (first | refine aos_nil ?_ | ((refine aos_cons rfl ?_); (refine qd rfl rfl ?_); show AOs _ _ _ _ ((_, _) :: _) _ _) | refine aw_seq ?_ | refine aw_region ?_))
  (refine aos_cons rfl ?_); refine aop_call0 rfl rfl rfl (fun _ _ => by kernel_rfl) (one97_a) (.refl _) ?_; show AOs _ _ _ _ ((_, _) :: _) _ _
  (refine aos_cons rfl ?_); refine aop_call0 rfl rfl rfl (fun _ _ => by kernel_rfl) (one98_a) (.refl _) ?_; show AOs _ _ _ _ ((_, _) :: _) _ _
  (refine aos_cons rfl ?_); refine aop_call0 rfl rfl rfl (fun _ _ => by kernel_rfl) (one99_a) (.refl _) ?_; show AOs _ _ _ _ ((_, _) :: _) _ _
  (refine aos_cons rfl ?_); refine aop_buildSlice (len := 3) (k := 4) rfl rfl (setsV [oneS 97, oneS 98, oneS 99]) rfl rfl (by decide) (by decide) ?_; show AOs _ _ _ _ ((_, _) :: _) _ _
  (refine aos_cons rfl ?_); refine aop_buildSlice (len := 2) (k := 1) rfl rfl ([V.i (0), V.i (2)]) rfl rfl (by decide) (by decide) ?_; show AOs _ _ _ _ ((_, _) :: _) _ _
  (refine aos_cons rfl ?_); refine aop_buildSlice (len := 2) (k := 1) rfl rfl ([V.i (1), V.i (2)]) rfl rfl (by decide) (by decide) ?_; show AOs _ _ _ _ ((_, _) :: _) _ _
  (refine aos_cons rfl ?_); refine aop_buildSlice (len := 1) (k := 1) rfl rfl ([V.i (1)]) rfl rfl (by decide) (by decide) ?_; show AOs _ _ _ _ ((_, _) :: _) _ _
  (refine aos_cons rfl ?_); refine aop_buildSlice (len := 2) (k := 1) rfl rfl ([V.i (0), V.i (2)]) rfl rfl (by decide) (by decide) ?_; show AOs _ _ _ _ ((_, _) :: _) _ _
  (refine aos_cons rfl ?_); refine aop_buildSlice (len := 2) (k := 1) rfl rfl ([V.i (0), V.i (2)]) rfl rfl (by decide) (by decide) ?_; show AOs _ _ _ _ ((_, _) :: _) _ _
  (refine aos_cons rfl ?_); refine aop_buildSlice (len := 3) (k := 1) rfl rfl ([V.d (dI [1]), V.d (dI [0, 2]), V.d (dI [0, 2])]) rfl rfl (by decide) (by decide) ?_; show AOs _ _ _ _ ((_, _) :: _) _ _
  (refine aos_cons rfl ?_); refine aop_build rfl rfl (cellsA starA) rfl ?_; show AOs _ _ _ _ ((_, _) :: _) _ _
  refine aos_cons rfl (aop_alloc rfl rfl ?_)
  intro b5
  show AOs _ _ _ _ ((_, _) :: _) (_ :: _) _
  refine aos_cons rfl (aop_store_all (i := 0) rfl rfl rfl rfl rfl rfl rfl rfl ?_)
  show AOs _ _ _ _ ((_, _) :: _) (_ :: _) _
  refine aos_nil (aw_seq (aw_le (.eqs' (sl' := [(1, V.ptr b1 0), (2, V.ptr b2 0), (3, V.ptr b3 0), (4, V.i 0), (5, V.ptr b5 0)]) (L' := [.box b5 26 (cellsA starA), .box b3 26 (cellsA starA), .box b2 41 (nodeV starN), .box b1 41 (nodeV catN)]) rfl rfl) ?_))
  (repeat (first | ((refine aos_cons rfl ?_); refine aop_call0 rfl rfl rfl (fun _ _ => by kernel_rfl) (hb97) (.refl _) ?_; show AOs _ _ _ _ ((_, _) :: _) _ _) | ((refine aos_cons rfl ?_); refine aop_buildSlice (len := 1) (k := 8) rfl rfl (nodeV (byteN 97)) rfl rfl (by decide) (by decide) ?_; show AOs _ _ _ _ ((_, _) :: _) _ _) | ((refine aos_cons rfl ?_); refine aop_build rfl rfl (nodeV fewN) rfl ?_; show AOs _ _ _ _ ((_, _) :: _) _ _) | ((refine aos_cons rfl ?_); refine aop_call0 rfl rfl rfl (fun _ _ => by kernel_rfl) (of_few) (.refl _) ?_; show AOs _ _ _ _ ((_, _) :: _) _ _) | ((refine aos_cons rfl ?_); (first | refine qd rfl rfl ?_ | refine qa rfl rfl ?_ | refine qt rfl rfl ?_); show AOs _ _ _ _ ((_, _) :: _) _ _) | refine aw_region ?_))
  refine aos_cons rfl (aop_alloc rfl rfl ?_)
  intro b6
  show AOs _ _ _ _ ((_, _) :: _) (_ :: _) _
  refine aos_cons rfl (aop_store_all (i := 0) rfl rfl rfl rfl rfl rfl rfl rfl ?_)
  show AOs _ _ _ _ ((_, _) :: _) (_ :: _) _
  (repeat (first | ((refine aos_cons rfl ?_); refine aop_call0 rfl rfl rfl (fun _ _ => by kernel_rfl) (hb97) (.refl _) ?_; show AOs _ _ _ _ ((_, _) :: _) _ _) | ((refine aos_cons rfl ?_); refine aop_buildSlice (len := 1) (k := 8) rfl rfl (nodeV (byteN 97)) rfl rfl (by decide) (by decide) ?_; show AOs _ _ _ _ ((_, _) :: _) _ _) | ((refine aos_cons rfl ?_); refine aop_build rfl rfl (nodeV manyN) rfl ?_; show AOs _ _ _ _ ((_, _) :: _) _ _) | ((refine aos_cons rfl ?_); refine aop_call0 rfl rfl rfl (fun _ _ => by kernel_rfl) (of_many) (.refl _) ?_; show AOs _ _ _ _ ((_, _) :: _) _ _) | refine aos_nil ?_ | ((refine aos_cons rfl ?_); (first | refine qd rfl rfl ?_ | refine qa rfl rfl ?_ | refine qt rfl rfl ?_); show AOs _ _ _ _ ((_, _) :: _) _ _) | refine aw_seq ?_ | refine aw_region ?_))
  refine aos_cons rfl (aop_alloc rfl rfl ?_)
  intro b8
  show AOs _ _ _ _ ((_, _) :: _) (_ :: _) _
  refine aos_cons rfl (aop_store_all (i := 0) rfl rfl rfl rfl rfl rfl rfl rfl ?_)
  show AOs _ _ _ _ ((_, _) :: _) (_ :: _) _
  (repeat (first | refine aos_nil ?_ | ((refine aos_cons rfl ?_); (refine qd rfl rfl ?_); show AOs _ _ _ _ ((_, _) :: _) _ _) | refine aw_seq ?_ | refine aw_region ?_))
  (refine aos_cons rfl ?_); refine aop_call0 rfl rfl rfl (fun _ _ => by kernel_rfl) (one97_a) (.refl _) ?_; show AOs _ _ _ _ ((_, _) :: _) _ _
  refine aos_cons rfl (aop_alloc rfl rfl ?_)
  intro b10
  show AOs _ _ _ _ ((_, _) :: _) (_ :: _) _
  refine aos_cons rfl (aop_store_all (i := 0) rfl rfl rfl rfl rfl rfl rfl rfl ?_)
  show AOs _ _ _ _ ((_, _) :: _) (_ :: _) _
  refine aos_nil (aw_seq (aw_le (.eqs' (sl' := [(1, V.ptr b1 0), (2, V.ptr b2 0), (3, V.ptr b3 0), (4, V.i 0), (5, V.ptr b5 0), (6, V.ptr b6 0), (7, V.i 0), (8, V.ptr b8 0), (9, V.i 0), (10, V.ptr b10 0)]) (L' := [.box b10 38 (setV (oneS 97)), .box b8 26 (cellsA manyA), .box b6 26 (cellsA fewA), .box b5 26 (cellsA starA), .box b3 26 (cellsA starA), .box b2 41 (nodeV starN), .box b1 41 (nodeV catN)]) rfl rfl) ?_))
  (repeat (first | ((first | refine aos_cons rfl ?_ | refine aos_yes rfl rfl rfl ?_); refine aop_call0 rfl rfl rfl (fun _ _ => by kernel_rfl) (same_self starA) (.refl _) ?_; show AOs _ _ _ _ ((_, _) :: _) _ _) | ((first | refine aos_cons rfl ?_ | refine aos_yes rfl rfl rfl ?_); refine aop_buildSlice (len := 3) (k := 4) rfl rfl (setsV [oneS 97, oneS 97, oneS 97]) rfl rfl (by decide) (by decide) ?_; show AOs _ _ _ _ ((_, _) :: _) _ _) | ((first | refine aos_cons rfl ?_ | refine aos_yes rfl rfl rfl ?_); refine aop_buildSlice (len := 1) (k := 1) rfl rfl ([V.i (0)]) rfl rfl (by decide) (by decide) ?_; show AOs _ _ _ _ ((_, _) :: _) _ _) | ((first | refine aos_cons rfl ?_ | refine aos_yes rfl rfl rfl ?_); refine aop_buildSlice (len := 2) (k := 1) rfl rfl ([V.i (1), V.i (2)]) rfl rfl (by decide) (by decide) ?_; show AOs _ _ _ _ ((_, _) :: _) _ _) | ((first | refine aos_cons rfl ?_ | refine aos_yes rfl rfl rfl ?_); refine aop_buildSlice (len := 1) (k := 1) rfl rfl ([V.i (1)]) rfl rfl (by decide) (by decide) ?_; show AOs _ _ _ _ ((_, _) :: _) _ _) | ((first | refine aos_cons rfl ?_ | refine aos_yes rfl rfl rfl ?_); refine aop_buildSlice (len := 1) (k := 1) rfl rfl ([V.i (2)]) rfl rfl (by decide) (by decide) ?_; show AOs _ _ _ _ ((_, _) :: _) _ _) | ((first | refine aos_cons rfl ?_ | refine aos_yes rfl rfl rfl ?_); refine aop_buildSlice (len := 3) (k := 1) rfl rfl [V.d (dI [1]), V.d (dI [2]), V.nil] rfl rfl (by decide) (by decide) ?_; show AOs _ _ _ _ ((_, _) :: _) _ _) | ((first | refine aos_cons rfl ?_ | refine aos_yes rfl rfl rfl ?_); refine aop_build rfl rfl ([V.d (dSets fewA.sets), V.d (.s 3 1 [dI [1], dI [2], .v (.slice none 0 0)]), V.d (dI [0]), V.d (dI [1, 2]), V.b false]) rfl ?_; show AOs _ _ _ _ ((_, _) :: _) _ _) | ((first | refine aos_cons rfl ?_ | refine aos_yes rfl rfl rfl ?_); (first | refine qd rfl rfl ?_ | refine gla rfl rfl rfl (by repeat first | exact .z | apply At.s) (by rfl) ?_ | refine gc rfl rfl rfl rfl rfl _ (by rfl) ?_ | refine ga rfl rfl rfl rfl rfl (by omega) (by omega) ?_); show AOs _ _ _ _ ((_, _) :: _) _ _) | refine aw_seq ?_ | refine aw_region ?_))
  refine aos_yes rfl rfl rfl (aop_call0 rfl rfl rfl (fun _ _ => by kernel_rfl) (same_self fewA) ⟨.refl _, .a ⟨.refl _, .ds ⟨fun _ _ _ h => h, fun _ _ _ h => h, .nil 1, trivial⟩, .refl _, .refl _, .refl _, trivial⟩, trivial⟩ ?_)
  show AOs _ _ _ _ ((_, _) :: _) (_ :: _) _
  (repeat (first | ((first | refine aos_cons rfl ?_ | refine aos_yes rfl rfl rfl ?_); refine aop_buildSlice (len := 2) (k := 4) rfl rfl (setsV [oneS 97, oneS 97]) rfl rfl (by decide) (by decide) ?_; show AOs _ _ _ _ ((_, _) :: _) _ _) | ((first | refine aos_cons rfl ?_ | refine aos_yes rfl rfl rfl ?_); refine aop_buildSlice (len := 1) (k := 1) rfl rfl ([V.i (0)]) rfl rfl (by decide) (by decide) ?_; show AOs _ _ _ _ ((_, _) :: _) _ _) | ((first | refine aos_cons rfl ?_ | refine aos_yes rfl rfl rfl ?_); refine aop_buildSlice (len := 1) (k := 1) rfl rfl ([V.i (1)]) rfl rfl (by decide) (by decide) ?_; show AOs _ _ _ _ ((_, _) :: _) _ _) | ((first | refine aos_cons rfl ?_ | refine aos_yes rfl rfl rfl ?_); refine aop_buildSlice (len := 2) (k := 1) rfl rfl ([V.d (dI [1]), V.d (dI [1])]) rfl rfl (by decide) (by decide) ?_; show AOs _ _ _ _ ((_, _) :: _) _ _) | ((first | refine aos_cons rfl ?_ | refine aos_yes rfl rfl rfl ?_); refine aop_build rfl rfl (cellsA manyA) rfl ?_; show AOs _ _ _ _ ((_, _) :: _) _ _) | ((first | refine aos_cons rfl ?_ | refine aos_yes rfl rfl rfl ?_); refine aop_call0 rfl rfl rfl (fun _ _ => by kernel_rfl) (same_self manyA) (.refl _) ?_; show AOs _ _ _ _ ((_, _) :: _) _ _) | ((first | refine aos_cons rfl ?_ | refine aos_yes rfl rfl rfl ?_); refine aop_buildSlice (len := 1) (k := 1) rfl rfl ([V.i (-1)]) rfl rfl (by decide) (by decide) ?_; show AOs _ _ _ _ ((_, _) :: _) _ _) | ((first | refine aos_cons rfl ?_ | refine aos_yes rfl rfl rfl ?_); refine aop_call0 rfl rfl rfl (fun _ _ => by kernel_rfl) (step97) (.refl _) ?_; show AOs _ _ _ _ ((_, _) :: _) _ _) | ((first | refine aos_cons rfl ?_ | refine aos_yes rfl rfl rfl ?_); refine aop_call0 rfl rfl rfl (fun _ _ => by kernel_rfl) (step98) (.refl _) ?_; show AOs _ _ _ _ ((_, _) :: _) _ _) | ((first | refine aos_cons rfl ?_ | refine aos_yes rfl rfl rfl ?_); refine aop_load_all (i := 6) rfl rfl rfl rfl ⟨rfl, rfl⟩ rfl ?_; show AOs _ _ _ _ ((_, _) :: _) _ _) | ((first | refine aos_cons rfl ?_ | refine aos_yes rfl rfl rfl ?_); refine aop_call0 rfl rfl rfl (fun _ _ => by kernel_rfl) (of_cat) (.refl _) ?_; show AOs _ _ _ _ ((_, _) :: _) _ _) | refine aos_nil ?_ | ((first | refine aos_cons rfl ?_ | refine aos_yes rfl rfl rfl ?_); (first | refine qd rfl rfl ?_ | refine qa rfl rfl ?_ | refine qt rfl rfl ?_ | refine gla rfl rfl rfl (by repeat first | exact .z | apply At.s) (by rfl) ?_); show AOs _ _ _ _ ((_, _) :: _) _ _) | refine aw_seq ?_ | refine aw_region ?_ | refine aw_skip ?_ | refine aw_cond false rfl ?_))
  refine aos_cons rfl (aop_alloc rfl rfl ?_)
  intro b13
  show AOs _ _ _ _ ((_, _) :: _) (_ :: _) _
  refine aos_cons rfl (aop_store_all (i := 0) rfl rfl rfl rfl rfl rfl rfl rfl ?_)
  show AOs _ _ _ _ ((_, _) :: _) (_ :: _) _
  (repeat (first | refine aos_nil ?_ | ((refine aos_cons rfl ?_); (first | refine qd rfl rfl ?_ | refine gla rfl rfl rfl (by repeat first | exact .z | apply At.s) (by rfl) ?_); show AOs _ _ _ _ ((_, _) :: _) _ _) | refine aw_seq ?_ | refine aw_region ?_))
  refine aos_cons rfl (aop_buildRow (len := 4) (k := 1) rfl rfl [V.v (.int .u8 97), V.v (.int .u8 98), V.v (.int .u8 97), V.v (.int .u8 98)] rfl (by decide) (by decide) fun r13 => ?_)
  show AOs _ _ _ _ ((_, _) :: _) (_ :: _) _
  refine aos_cons rfl (aop_conv_row (j := 0) Try.underlying5 rfl rfl rfl rfl rfl (by decide) ?_)
  show AOs _ _ _ _ ((_, _) :: _) (_ :: _) _
  (repeat (first | ((refine aos_cons rfl ?_); refine aop_call0 rfl rfl rfl (fun _ _ => by kernel_rfl) (search_cat) (.refl _) ?_; show AOs _ _ _ _ ((_, _) :: _) _ _) | ((refine aos_cons rfl ?_); refine aop_call0 rfl rfl rfl (fun _ _ => by kernel_rfl) (turn_cat) (.refl _) ?_; show AOs _ _ _ _ ((_, _) :: _) _ _) | refine aos_nil ?_ | ((refine aos_cons rfl ?_); (first | refine qd rfl rfl ?_ | refine qa rfl rfl ?_ | refine qt rfl rfl ?_ | refine gla rfl rfl rfl (by repeat first | exact .z | apply At.s) (by rfl) ?_); show AOs _ _ _ _ ((_, _) :: _) _ _) | refine aw_seq ?_ | refine aw_region ?_))
  refine aos_cons rfl (aop_alloc rfl rfl ?_)
  intro b16
  show AOs _ _ _ _ ((_, _) :: _) (_ :: _) _
  refine aos_cons rfl (aop_store_all (i := 0) rfl rfl rfl rfl rfl rfl rfl rfl ?_)
  show AOs _ _ _ _ ((_, _) :: _) (_ :: _) _
  (repeat (first | refine aos_nil ?_ | ((refine aos_cons rfl ?_); (first | refine qd rfl rfl ?_ | refine gla rfl rfl rfl (by repeat first | exact .z | apply At.s) (by rfl) ?_); show AOs _ _ _ _ ((_, _) :: _) _ _) | refine aw_seq ?_ | refine aw_region ?_))
  refine aos_cons rfl (aop_buildRow (len := 2) (k := 1) rfl rfl [V.v (.int .u8 98), V.v (.int .u8 97)] rfl (by decide) (by decide) fun r15 => ?_)
  show AOs _ _ _ _ ((_, _) :: _) (_ :: _) _
  refine aos_cons rfl (aop_conv_row (j := 0) Try.underlying5 rfl rfl rfl rfl rfl (by decide) ?_)
  show AOs _ _ _ _ ((_, _) :: _) (_ :: _) _
  (repeat (first | ((first | refine aos_cons rfl ?_ | refine aos_yes rfl rfl rfl ?_); refine aop_call0 rfl rfl rfl (fun _ _ => by kernel_rfl) (matches_back) (.refl _) ?_; show AOs _ _ _ _ ((_, _) :: _) _ _) | ((first | refine aos_cons rfl ?_ | refine aos_yes rfl rfl rfl ?_); refine aop_buildSlice (len := 1) (k := 1) rfl rfl ([V.i (0)]) rfl rfl (by decide) (by decide) ?_; show AOs _ _ _ _ ((_, _) :: _) _ _) | ((first | refine aos_cons rfl ?_ | refine aos_yes rfl rfl rfl ?_); refine aop_call0 rfl rfl rfl (fun _ _ => by kernel_rfl) (eqI_self [0]) (.refl _) ?_; show AOs _ _ _ _ ((_, _) :: _) _ _) | ((first | refine aos_cons rfl ?_ | refine aos_yes rfl rfl rfl ?_); refine aop_buildSlice (len := 2) (k := 1) rfl rfl ([V.i (2), V.i (4)]) rfl rfl (by decide) (by decide) ?_; show AOs _ _ _ _ ((_, _) :: _) _ _) | ((first | refine aos_cons rfl ?_ | refine aos_yes rfl rfl rfl ?_); refine aop_call0 rfl rfl rfl (fun _ _ => by kernel_rfl) (eqI_self [2, 4]) (.refl _) ?_; show AOs _ _ _ _ ((_, _) :: _) _ _) | refine aos_nil ?_ | ((first | refine aos_cons rfl ?_ | refine aos_yes rfl rfl rfl ?_); (first | refine qd rfl rfl ?_ | refine qt rfl rfl ?_ | refine gc rfl rfl rfl rfl rfl _ (by rfl) ?_ | refine ga rfl rfl rfl rfl rfl (by omega) (by omega) ?_ | refine gn0 rfl rfl rfl ?_); show AOs _ _ _ _ ((_, _) :: _) _ _) | refine aw_seq ?_ | refine aw_region ?_ | refine aw_ret ?_))
  exact fpost0 (.inr rfl) (res_tmp 0) rfl
end Go.Proofs.Ytlagablcopmhkaa
/- Arguments as they come in, as descriptions; a law that answers true and leaves memory as it was. -/
namespace Go.Proofs.Ytlagablcopmhkaa
open Go.RowKit Go.ChangeShapes Go.WideShapes

/-- what a reading of this type holds -/
def Opens (P : Program) (t : TypeId) (k : Nat) {α : Type} (A : α → Prop) (dd : α → List D) : Prop :=
  ∀ (H : Type) (enc : TypeId × Value → H) (w : World) (fuel : Nat) (cs : List Value) (x : DataW H × List MemPlace), DataW.trod enc P w 0 (fun _ => true) true fuel t cs = some x → (∀ n ∈ x.1.weights P t, n ≤ reachBytes) →
    cs.length = k ∧ ∃ a : α, A a ∧ (dd a).length = k ∧ ∀ (j : Nat) (d : D) (u : Value), (dd a)[j]? = some d → cs[j]? = some u → Rep w (fun b => b < w.heap.size) d u
theorem opens_int {P : Program} {t : TypeId} {k : IntKind} (ht : P.underlying t = some (.int k)) : Opens P t 1 (fun n : Int => (Lit.int k n).wf = true) (fun n => [.v (.int k n)]) := fun H enc w fuel cs x h _ => by
  obtain ⟨n, rfl, _, hw⟩ := DataW.trod_int ht h
  refine ⟨rfl, n, hw, rfl, fun j d u h1 h2 => ?_⟩
  cases j with
  | zero => cases h1; cases h2; exact .v _
  | succ j => simp at h1
theorem Opens.as {P : Program} {t : TypeId} {k : Nat} {α β : Type} {A : α → Prop} {dd : α → List D} (h : Opens P t k A dd) {B : β → Prop} {dd' : β → List D} (hq : ∀ a, A a → ∃ b, B b ∧ dd' b = dd a) : Opens P t k B dd' := fun H enc w fuel cs x hx hn => by
  obtain ⟨h1, a, h2, h3, h4⟩ := h H enc w fuel cs x hx hn
  obtain ⟨b, h5, h6⟩ := hq a h2
  exact ⟨h1, b, h5, by rw [h6]; exact h3, fun j d u e1 e2 => h4 j d u (by rw [← h6]; exact e1) e2⟩

theorem weights_all {H : Type} {P : Program} {e : TypeId} : ∀ {l : List (DataW H)} {d : DataW H}, d ∈ l → ∀ n ∈ d.weights P e, n ∈ DataW.weightsAll P e l
  | y :: l, d, hd, n, hn => by
    rw [DataW.weightsAll, List.mem_append]
    rcases List.mem_cons.1 hd with rfl | hd
    · exact .inl hn
    · exact .inr (weights_all hd n hn)
theorem weights_each {H : Type} {P : Program} : ∀ {ts : List TypeId} {l : List (DataW H)} {j : Nat} {t : TypeId} {d : DataW H}, ts[j]? = some t → l[j]? = some d → ∀ n ∈ d.weights P t, n ∈ DataW.weightsEach P ts l := fun h1 h2 => DataW.weights_mem_each h1 h2

theorem flat_at {α : Type} {k : Nat} {dd : α → List D} : ∀ {l : List α}, (∀ a ∈ l, (dd a).length = k) → (l.flatMap dd).length = l.length * k ∧ ∀ (i j : Nat) (a : α), l[i]? = some a → j < k → (l.flatMap dd)[i * k + j]? = (dd a)[j]?
  | [], _ => ⟨by simp, fun i j a h => by simp at h⟩
  | x :: l, h => by
    obtain ⟨h1, h2⟩ := flat_at (l := l) fun a ha => h a (List.mem_cons_of_mem _ ha)
    have hx := h x List.mem_cons_self
    refine ⟨by rw [List.flatMap_cons, List.length_append, hx, h1, List.length_cons, Nat.succ_mul, Nat.add_comm], fun i j a ha hj => ?_⟩
    rw [List.flatMap_cons]
    cases i with
    | zero => simp at ha; subst ha; rw [Nat.zero_mul, Nat.zero_add, List.getElem?_append_left (by omega)]
    | succ i =>
      rw [List.getElem?_append_right (by rw [hx, Nat.succ_mul]; omega), hx, show (i + 1) * k + j - k = i * k + j by rw [Nat.succ_mul]; omega]
      exact h2 i j a (by simpa using ha) hj

theorem opens_slice {P : Program} {t e : TypeId} {k : Nat} {α : Type} [Inhabited α] {A : α → Prop} {dd : α → List D} (ht : P.underlying t = some (.slice e)) (hc : P.cellsOf e = k) (hk : 0 < k) (hb : 1 ≤ P.bytesOf e) (h : Opens P e k A dd) :
    Opens P t 1 (fun l : List α => (∀ a ∈ l, A a) ∧ l.length ≤ 140737488351232) (fun l => [.s l.length k (l.flatMap dd)]) := fun H enc w fuel cs x hx hn => by
  rcases Deep.open_slice ht hx with ⟨rfl, rfl⟩ | ⟨a, len, cap, m, n, Dt, Pl, rfl, _, hl, hm, hmm, rfl, hel⟩
  · refine ⟨rfl, [], ⟨by simp, by simp⟩, rfl, fun j d u h1 h2 => ?_⟩
    cases j with
    | zero => cases h1; cases h2; exact .s [] (by simp) (by simp) (by simp) (by simp) (by simp) (fun h => absurd rfl h) (by simp)
    | succ j => simp at h1
  · rw [if_pos rfl] at hmm
    subst hmm
    have hw : (len + (m - len)) * P.bytesOf e ≤ reachBytes := by
      have := hn ((len + (m - len)) * P.bytesOf e) (by simp [DataW.weights, ht])
      exact this
    have hwl : len ≤ 140737488351232 := by
      have h1 : len * 1 ≤ (len + (m - len)) * P.bytesOf e := Nat.mul_le_mul (by omega) hb
      unfold reachBytes at hw
      omega
    have hch : ∀ i, i < len → ∃ y : List Value × α, w.cells? 0 (a.add (i * P.cellsOf e)) (P.cellsOf e) = some y.1 ∧ y.1.length = k ∧ A y.2 ∧ (dd y.2).length = k ∧ ∀ (j : Nat) (d : D) (u : Value), (dd y.2)[j]? = some d → y.1[j]? = some u → Rep w (fun b => b < w.heap.size) d u := fun i hi => by
      obtain ⟨cs', h1, h2⟩ := hel i (by omega)
      obtain ⟨h3, b, h4, h5, h6⟩ := h H enc w n cs' _ h2 (fun z hz => hn z (by
        simp only [DataW.weights, ht]
        refine List.mem_cons_of_mem _ (List.mem_append_left _ (weights_all (List.mem_map.2 ⟨i, List.mem_range.2 hi, rfl⟩) z hz))))
      exact ⟨(cs', b), h1, h3, h4, h5, h6⟩
    obtain ⟨f, hf⟩ := Deep.choose_lt (α := List Value × α) hch
    let l : List α := (List.range len).map fun i => (f i).2
    let us : List Value := (List.range len).flatMap fun i => (f i).1
    have hll : l.length = len := by simp [l]
    have hla : ∀ (i : Nat) (b : α), l[i]? = some b → i < len ∧ b = (f i).2 := fun i b hi => by
      have hlt : i < len := by have := (List.getElem?_eq_some_iff.1 hi).1; rw [hll] at this; exact this
      simp [l, hlt] at hi
      exact ⟨hlt, hi.symm⟩
    obtain ⟨u1, u2⟩ := flat_at (k := k) (dd := dd) (l := l) fun b hb => by
      obtain ⟨i, hi, rfl⟩ := List.mem_map.1 hb
      exact (hf i (List.mem_range.1 hi)).2.2.2.1
    have husl : us.length = len * k ∧ ∀ (i j : Nat), i < len → j < k → us[i * k + j]? = (f i).1[j]? := by
      have gen : ∀ m, m ≤ len → ((List.range m).flatMap fun i => (f i).1).length = m * k ∧ ∀ (i j : Nat), i < m → j < k → ((List.range m).flatMap fun i => (f i).1)[i * k + j]? = (f i).1[j]? := by
        intro m
        induction m with
        | zero => intro _; exact ⟨by simp, fun i j h => by omega⟩
        | succ m ih =>
          intro hml
          obtain ⟨i1, i2⟩ := ih (by omega)
          have hfm := (hf m (by omega)).2.1
          rw [List.range_succ, List.flatMap_append, List.flatMap_singleton]
          refine ⟨by rw [List.length_append, i1, hfm, Nat.succ_mul], fun i j hi hj => ?_⟩
          by_cases him : i < m
          · have : i * k + j < m * k := by
              have : (i + 1) * k ≤ m * k := Nat.mul_le_mul_right k him
              rw [Nat.succ_mul] at this; omega
            rw [List.getElem?_append_left (by rw [i1]; exact this)]
            exact i2 i j him hj
          · obtain rfl : i = m := by omega
            rw [List.getElem?_append_right (by rw [i1]; omega), i1, show i * k + j - i * k = j by omega]
      exact gen len (Nat.le_refl _)
    have hdiv : ∀ t, t < len * k → t / k < len ∧ t % k < k ∧ t / k * k + t % k = t := fun t ht => ⟨(Nat.div_lt_iff_lt_mul hk).2 ht, Nat.mod_lt _ hk, Nat.div_add_mod' t k⟩
    refine ⟨rfl, l, ⟨fun b hb => ?_, by rw [hll]; exact hwl⟩, rfl, fun j d u h1 h2 => ?_⟩
    · obtain ⟨i, hi, rfl⟩ := List.mem_map.1 hb
      exact (hf i (List.mem_range.1 hi)).2.2.1
    · cases j with
      | succ j => simp at h1
      | zero =>
        cases h1; cases h2
        rw [hll]
        refine .s us (by omega) hl (by unfold maxLen at hm; omega) (by rw [u1, hll]) (by rw [husl.1, u1, hll]) (fun hne => ?_) (fun j d u e1 e2 => ?_)
        · have hlen : 0 < len := by
            rcases Nat.eq_zero_or_pos len with h0 | h0
            · exact absurd (List.length_eq_zero_iff.1 (by rw [husl.1, h0, Nat.zero_mul])) hne
            · exact h0
          have hc0 : ∀ i j, i < len → j < k → w.cell? (a.add (i * k + j)) = (f i).1[j]? := fun i j hi hj => by
            obtain ⟨_, h3, h4⟩ := World.cells?_some (hf i hi).1
            rw [hc] at h4 h3
            have := h4 j (by omega)
            rw [Deep.add_add] at this
            rw [this]
          have hsp : a.spot = none := by
            have h0 := hc0 0 0 hlen hk
            have hlt : 0 < (f 0).1.length := by rw [(hf 0 hlen).2.1]; exact hk
            rw [List.getElem?_eq_getElem hlt] at h0
            simp only [Nat.zero_mul, Nat.zero_add, Addr.add, if_true] at h0
            unfold World.cell? at h0
            split at h0
            · split at h0
              · cases h0
              · rename_i hs; simpa using hs
            · cases h0
          obtain ⟨ab, ao, asp⟩ := a
          simp only at hsp
          subst hsp
          have hcell : ∀ t, t < len * k → w.cell? ⟨ab, ao + t, none⟩ = us[t]? := fun t ht => by
            obtain ⟨d1, d2, d3⟩ := hdiv t ht
            have h5 := hc0 (t / k) (t % k) d1 d2
            have h6 := husl.2 (t / k) (t % k) d1 d2
            rw [d3] at h5 h6
            rw [h6, ← h5, Addr.add_mid]
          refine ⟨ab, ao, rfl, ?_, fun j u hj => ?_⟩
          · have h0 := hcell 0 (Nat.mul_pos hlen hk)
            have hlt : 0 < us.length := by rw [husl.1]; exact Nat.mul_pos hlen hk
            rw [List.getElem?_eq_getElem hlt] at h0
            exact World.block_lt_of_cell? w _ h0
          · have hlt := (List.getElem?_eq_some_iff.1 hj).1
            rw [hcell j (by rw [← husl.1]; exact hlt), hj]
        · have hlt := (List.getElem?_eq_some_iff.1 e2).1
          rw [husl.1] at hlt
          obtain ⟨d1, d2, d3⟩ := hdiv j hlt
          have h5 := u2 (j / k) (j % k) (f (j / k)).2 (by simp [l, d1]) d2
          have h6 := husl.2 (j / k) (j % k) d1 d2
          rw [d3] at h5 h6
          exact (hf (j / k) d1).2.2.2.2 (j % k) d u (by rw [← h5]; exact e1) (by rw [← h6]; exact e2)

/-- a law has answered true, and all that was there is as it was -/
theorem post_bool {H : Type} {enc : TypeId × Value → H} {P : Program} {f : Func} {s : ChangeSpec} {apart fresh handsOn again : Bool} {W W' : World} {args : Array Value} {ds gs : List (DataW H)} {before : List MemPlace} {tb : TypeId}
    (hW : DataW.Whole enc P f.params.toList s.vars apart W args.toList ds gs before) (hs : s.vars = []) (hfn : s.fn H (ds ++ gs) = { results := [.lit (.bool true)], args := ds })
    (hl : laidOutB P = true) (hp : ∀ t ∈ f.params.toList, P.readableRec t = true ∧ t < P.types.size) (hr : f.resultTypes = #[tb]) (ht : P.underlying tb = some .bool) (hB : Below W.heap.size W W') :
    s.post enc P f apart fresh handsOn again W args (.bool true) W' := by
  have hlt : ∀ p ∈ before, p.block < W.heap.size := fun p hp => by simpa using hW.lt p hp
  have hold : ∀ p ∈ before, (fun b => decide (b < W.heap.size)) p.block = true := fun p hp => by simpa using hlt p hp
  have hW0 := hW
  obtain ⟨p, q, hA, hV, rfl, hz, hn⟩ := hW
  rw [hs] at hV
  obtain ⟨rfl, rfl⟩ := trodVars_none hV
  have hargs : ∀ sp : Nat → Bool, (∀ x ∈ p, sp x.block = true) → DataW.TrodAll enc P W' 0 sp true f.params.toList args.toList ds p := fun sp hsp => by
    have key : ∀ (ts : List TypeId) (vs : List Value) (es : List (DataW H)) (ps : List MemPlace), (∀ t ∈ ts, P.readableRec t = true ∧ t < P.types.size) → (∀ x ∈ ps, x.block < W.heap.size ∧ sp x.block = true) → DataW.TrodAll enc P W 0 (fun _ => true) true ts vs es ps → DataW.TrodAll enc P W' 0 sp true ts vs es ps := by
      intro ts
      induction ts with
      | nil => intro vs es ps _ _ h; obtain ⟨rfl, rfl, rfl⟩ := trodAll_nil h; exact trodAll_mk0
      | cons t ts ih =>
        intro vs es ps h1 h2 h
        obtain ⟨v, vs', d, ds', p1, p2, rfl, rfl, rfl, h3, h4⟩ := trodAll_cons h
        have h1t := h1 t List.mem_cons_self
        exact trodAll_cons_mk (WideElems.Trod_stays hl h1t.1 h1t.2 h3 (fun x hx => hB.same (h2 x (List.mem_append_left _ hx)).1) (fun x hx => (h2 x (List.mem_append_left _ hx)).2)) (ih vs' ds' p2 (fun t ht => h1 t (List.mem_cons_of_mem _ ht)) (fun x hx => h2 x (List.mem_append_right _ hx)) h4)
    exact key _ _ _ _ hp (fun x hx => ⟨hlt x (List.mem_append_left _ hx), hsp x hx⟩) hA
  have hres : ∀ (b : Nat) (sp : Nat → Bool) (hd : Bool), DataW.TrodAll enc P W' b sp hd f.resultTypes.toList ((Value.bool true).resultList f.resultTypes.size) (s.fn H (ds ++ [])).results [] := fun b sp hd => by
    rw [hfn, hr]
    exact trodAll_cons_mk (shut_bool ht true) trodAll_mk0
  have hvars : ∀ sp : Nat → Bool, DataW.TrodVars enc P W' sp s.vars (s.fn H (ds ++ [])).vars [] := fun sp => by rw [hs, hfn]; rfl
  have hok := ok_one (P := P) (W' := W') (f := f) (v := .bool true) hr rfl (okWide_bool_mk ht true)
  have ha : ∀ sp : Nat → Bool, (∀ x ∈ p, sp x.block = true) → DataW.TrodAll enc P W' 0 sp true f.params.toList args.toList (s.fn H (ds ++ [])).args p := fun sp hsp => by rw [hfn]; exact hargs sp hsp
  refine ⟨ds, [], p ++ [], [], p, [], hW0, hres _ _ _, ha _ (fun x hx => hold x (List.mem_append_left _ hx)), hvars _, World.keptBut_mono (fun x hx => ⟨hx, ?_⟩) (hB.frame (· ∈ p ++ [])), fun _ => ?_⟩
  · exact Or.inr (by simpa using hx)
  · refine ⟨hok, _, _, ([] ++ p) ++ [], ⟨[] ++ p, [], trodAll_append (ha _ (fun _ _ => rfl)) (hres _ _ _), hvars _, rfl, ?_, ?_⟩, ?_⟩
    · intro b off hx
      have hx' : MemPlace.cell b off ∈ p ++ [] := by simpa using hx
      rw [hB.frozen (p := ⟨b, off, none⟩) (hlt _ hx')]
      exact hz b off hx'
    · intro ha
      simpa using hn ha
    · intro x hx _
      simpa using hx
end Go.Proofs.Ytlagablcopmhkaa
/- Automata as they come in. -/
namespace Go.Proofs.Ytlagablcopmhkaa
open Go.RowKit Go.ChangeShapes Go.WideShapes

def ofWords (a b c d : Nat) : BitVec 256 := BitVec.ofNat 256 (a + 18446744073709551616 * (b + 18446744073709551616 * (c + 18446744073709551616 * d)))
theorem word_of {a b c d : Nat} (ha : a < 18446744073709551616) (hb : b < 18446744073709551616) (hc : c < 18446744073709551616) (hd : d < 18446744073709551616) : word (ofWords a b c d) 0 = a ∧ word (ofWords a b c d) 1 = b ∧ word (ofWords a b c d) 2 = c ∧ word (ofWords a b c d) 3 = d := by
  have e : (ofWords a b c d).toNat = a + 18446744073709551616 * (b + 18446744073709551616 * (c + 18446744073709551616 * d)) := by
    unfold ofWords
    rw [BitVec.toNat_ofNat, Nat.mod_eq_of_lt]
    have : (2 : Nat) ^ 256 = 115792089237316195423570985008687907853269984665640564039457584007913129639936 := by decide
    omega
  unfold word
  rw [e]
  have p1 : (2 : Nat) ^ 64 = 18446744073709551616 := by decide
  have p2 : (2 : Nat) ^ (64 * 1) = 18446744073709551616 := by decide
  have p3 : (2 : Nat) ^ (64 * 2) = 340282366920938463463374607431768211456 := by decide
  have p4 : (2 : Nat) ^ (64 * 3) = 6277101735386680763835789423207666416102355444464034512896 := by decide
  rw [p2, p3, p4]
  try rw [p1]
  simp only [Nat.mul_zero, Nat.pow_zero, Nat.div_one]
  refine ⟨?_, ?_, ?_, ?_⟩ <;> congr 1 <;> omega

theorem opens_set {P : Program} {t e : TypeId} (ht : P.underlying t = some (.array 4 e)) (he : P.underlying e = some (.int .u64)) (hc : P.cellsOf t = 4) (hce : P.cellsOf e = 1) : Opens P t 4 (fun _ : BitVec 256 => True) (fun s => (setU s).map .v) := fun H enc w fuel cs x hx _ => by
  obtain ⟨xs, m, _, _, hcl, hxl, hel⟩ := DataW.trod_array ht hx
  rw [hc] at hcl
  obtain ⟨c0, c1, c2, c3, rfl⟩ : ∃ c0 c1 c2 c3, cs = [c0, c1, c2, c3] := by
    match cs, hcl with
    | [c0, c1, c2, c3], _ => exact ⟨_, _, _, _, rfl⟩
  have one : ∀ (i : Nat) (c : Value), i < 4 → [c0, c1, c2, c3][i]? = some c → ∃ n : Nat, c = .int .u64 n ∧ n < 18446744073709551616 := fun i c hi hci => by
    have h1 := hel i hi
    rw [hce, Nat.mul_one] at h1
    have h2 : ([c0, c1, c2, c3].drop i).take 1 = [c] := by
      match i, hi with
      | 0, _ => cases hci; rfl
      | 1, _ => cases hci; rfl
      | 2, _ => cases hci; rfl
      | 3, _ => cases hci; rfl
    rw [h2, List.getElem?_eq_getElem (by omega)] at h1
    obtain ⟨n, h3, _, h4⟩ := DataW.trod_int he h1
    have h5 := bounds_u64 h4
    cases h3
    exact ⟨n.toNat, by rw [Int.toNat_of_nonneg h5.1], by omega⟩
  obtain ⟨n0, rfl, l0⟩ := one 0 c0 (by omega) rfl
  obtain ⟨n1, rfl, l1⟩ := one 1 c1 (by omega) rfl
  obtain ⟨n2, rfl, l2⟩ := one 2 c2 (by omega) rfl
  obtain ⟨n3, rfl, l3⟩ := one 3 c3 (by omega) rfl
  obtain ⟨w0, w1, w2, w3⟩ := word_of l0 l1 l2 l3
  refine ⟨rfl, ofWords n0 n1 n2 n3, trivial, rfl, fun j d u h1 h2 => ?_⟩
  simp only [setU, w0, w1, w2, w3] at h1
  match j with
  | 0 => cases h1; cases h2; exact .v _
  | 1 => cases h1; cases h2; exact .v _
  | 2 => cases h1; cases h2; exact .v _
  | 3 => cases h1; cases h2; exact .v _
  | j + 4 => simp at h1

theorem opens_ints {P : Program} {t e : TypeId} (ht : P.underlying t = some (.slice e)) (he : P.underlying e = some (.int .i64)) (hc : P.cellsOf e = 1) (hb : 1 ≤ P.bytesOf e) : Opens P t 1 (fun l : List Int => l.length ≤ 140737488351232) (fun l => [dI l]) :=
  Opens.as (opens_slice ht hc (by decide) hb (opens_int he)) fun l h => ⟨l, h.2, by rw [dI, List.map_eq_flatMap]⟩
theorem setsU_flat (l : List (BitVec 256)) : (setsU l).map D.v = l.flatMap fun s => (setU s).map D.v := by
  induction l with
  | nil => rfl
  | cons s l ih => rw [setsU, List.map_append, ih, List.flatMap_cons]

set_option maxRecDepth 100000 in
theorem opens_auto : Opens Try.prog 26 5 Bd (fun a : Auto => [dSets a.sets, dLists a.follow, dI a.first, dI a.last, .v (.bool a.empty)]) := fun H enc w fuel cs x hx hn => by
  obtain ⟨xs, m, _, rfl, hcl, hxl, hel⟩ := DataW.trod_struct Try.underlying26 hx
  rw [show Try.prog.cellsOf 26 = 5 by kernel_rfl] at hcl
  obtain ⟨c0, c1, c2, c3, c4, rfl⟩ : ∃ c0 c1 c2 c3 c4, cs = [c0, c1, c2, c3, c4] := by
    match cs, hcl with
    | [c0, c1, c2, c3, c4], _ => exact ⟨_, _, _, _, _, rfl⟩
  have hxl : xs.length = 5 := hxl
  obtain ⟨x0, x1, x2, x3, x4, rfl⟩ : ∃ x0 x1 x2 x3 x4, xs = [x0, x1, x2, x3, x4] := by
    match xs, hxl with
    | [x0, x1, x2, x3, x4], _ => exact ⟨_, _, _, _, _, rfl⟩
  have hw : ∀ (j : Nat) (t : TypeId) (d : DataW _), ([22, 23, 24, 24, 4] : List TypeId)[j]? = some t → [x0.1, x1.1, x2.1, x3.1, x4.1][j]? = some d → ∀ n ∈ d.weights Try.prog t, n ≤ reachBytes := fun j t d h1 h2 n h3 => hn n (by
    simp only [DataW.weights, Try.underlying26]
    exact weights_each h1 h2 n h3)
  have e0 : DataW.trod enc Try.prog w 0 (fun _ => true) true m 22 (([c0, c1, c2, c3, c4].drop 0).take (Try.prog.cellsOf 22)) = some x0 := hel 0 _ rfl
  have e1 : DataW.trod enc Try.prog w 0 (fun _ => true) true m 23 (([c0, c1, c2, c3, c4].drop 1).take (Try.prog.cellsOf 23)) = some x1 := hel 1 _ rfl
  have e2 : DataW.trod enc Try.prog w 0 (fun _ => true) true m 24 (([c0, c1, c2, c3, c4].drop 2).take (Try.prog.cellsOf 24)) = some x2 := hel 2 _ rfl
  have e3 : DataW.trod enc Try.prog w 0 (fun _ => true) true m 24 (([c0, c1, c2, c3, c4].drop 3).take (Try.prog.cellsOf 24)) = some x3 := hel 3 _ rfl
  have e4 : DataW.trod enc Try.prog w 0 (fun _ => true) true m 4 (([c0, c1, c2, c3, c4].drop 4).take (Try.prog.cellsOf 4)) = some x4 := hel 4 _ rfl
  rw [show Try.prog.cellsOf 22 = 1 by kernel_rfl] at e0
  rw [show Try.prog.cellsOf 23 = 1 by kernel_rfl] at e1
  rw [show Try.prog.cellsOf 24 = 1 by kernel_rfl] at e2 e3
  rw [show Try.prog.cellsOf 4 = 1 by kernel_rfl] at e4
  have oI := opens_ints Try.underlying24 Try.underlying3 (by kernel_rfl) (of_decide_eq_true (by kernel_rfl))
  have oL := opens_slice Try.underlying23 (k := 1) (by kernel_rfl) (by decide) (of_decide_eq_true (by kernel_rfl)) oI
  have oS := opens_slice Try.underlying22 (k := 4) (by kernel_rfl) (by decide) (of_decide_eq_true (by kernel_rfl)) (opens_set Try.underlying38 Try.underlying36 (by kernel_rfl) (by kernel_rfl))
  obtain ⟨_, s, ⟨_, s1⟩, _, s2⟩ := oS H enc w m _ _ e0 (hw 0 _ _ rfl rfl)
  obtain ⟨_, f, ⟨f0, f1⟩, _, f2⟩ := oL H enc w m _ _ e1 (hw 1 _ _ rfl rfl)
  obtain ⟨_, i, i1, _, i2⟩ := oI H enc w m _ _ e2 (hw 2 _ _ rfl rfl)
  obtain ⟨_, l, l1, _, l2⟩ := oI H enc w m _ _ e3 (hw 3 _ _ rfl rfl)
  obtain ⟨b, hb, _⟩ := DataW.trod_bool Try.underlying4 e4
  refine ⟨rfl, ⟨s, f, i, l, b⟩, ⟨by show s.length ≤ _; omega, by show f.length ≤ _; omega, by show i.length ≤ _; omega, by show l.length ≤ _; omega, fun x hx => by have := f0 x hx; omega⟩, rfl, fun j d u h1 h2 => ?_⟩
  have g0 := s2 0 _ c0 rfl rfl
  rw [← setsU_flat] at g0
  have g1 := f2 0 _ c1 rfl rfl
  rw [show (f.flatMap fun x => [dI x]) = f.map dI from List.map_eq_flatMap.symm] at g1
  match j with
  | 0 => cases h1; cases h2; exact g0
  | 1 => cases h1; cases h2; exact g1
  | 2 => cases h1; cases h2; exact i2 0 _ _ rfl rfl
  | 3 => cases h1; cases h2; exact l2 0 _ _ rfl rfl
  | 4 => cases h1; cases h2; cases hb; exact .v _
  | j + 5 => simp at h1

theorem open_agg {H : Type} {enc : TypeId × Value → H} {P : Program} {t : TypeId} {fs : Array Field} {k : Nat} {α : Type} {A : α → Prop} {dd : α → List D} (ho : Opens P t k A dd) (ht : P.underlying t = some (.struct fs)) {W : World} {b : Nat} {r : Reach} {v : Value} {d : DataW H} {p : List MemPlace}
    (hv : Value.okWide P W r b t v) (hd : DataW.Trod enc P W 0 (fun _ => true) true t v d p) (hw : ∀ n ∈ d.weights P t, n ≤ reachBytes) : ∃ a, A a ∧ R W (fun b => b < W.heap.size) (.a ((dd a).map V.d)) v := by
  obtain ⟨cs, rfl, _⟩ := okWide_struct ht hv
  obtain ⟨fuel, hf⟩ := hd
  obtain ⟨h1, a, h2, h3, h4⟩ := ho H enc W fuel _ _ hf hw
  refine ⟨a, h2, .a cs.toList (by rw [List.length_map, h3]; exact h1) fun j c u e1 e2 => ?_⟩
  rw [List.getElem?_map] at e1
  cases hj : (dd a)[j]? with
  | none => rw [hj] at e1; cases e1
  | some d => rw [hj] at e1; cases e1; exact .d (h4 j d u hj e2)
theorem open_cell {H : Type} {enc : TypeId × Value → H} {P : Program} {t : TypeId} {α : Type} {A : α → Prop} {dd : α → List D} (ho : Opens P t 1 A dd) {W : World} {v : Value} {d : DataW H} {p : List MemPlace}
    (hv : v.cells = #[v]) (hd : DataW.Trod enc P W 0 (fun _ => true) true t v d p) (hw : ∀ n ∈ d.weights P t, n ≤ reachBytes) : ∃ a, A a ∧ ∀ d0, dd a = [d0] → R W (fun b => b < W.heap.size) (.d d0) v := by
  obtain ⟨fuel, hf⟩ := hd
  rw [hv] at hf
  obtain ⟨h1, a, h2, h3, h4⟩ := ho H enc W fuel _ _ hf hw
  exact ⟨a, h2, fun d0 h5 => .d (h4 0 d0 v (by rw [h5]; rfl) rfl)⟩
/-- the start of a call that owns nothing yet -/
theorem Hp.start (w : World) : Hp w (fun b => b < w.heap.size) [] := ⟨by simp, List.Pairwise.nil, fun b hb => absurd hb inL_nil, fun _ h => h⟩
end Go.Proofs.Ytlagablcopmhkaa
