/- Packed: Copy, RefList, TheirsInv, AlNfa, Fill -/
import Derived.Great.BuildSlice
import Derived.Test.YtlagablcopmhkaaKRowRuns5
import Derived.Test.YtlagablcopmhkaaKRowRuns7
import Derived.Test.YtlagablcopmhkaaKRowRuns8
import Derived.Test.YtlagablcopmhkaaKRowRuns9
import Derived.Test.YtlagablcopmhkaaKRowRuns10
set_option linter.unusedVariables false
set_option linter.unusedSimpArgs false
/- nfa.Copy. -/
namespace Go.Proofs.Ytlagablcopmhkaa
open Go.RowKit

theorem RepM.shape {w : World} {S : Nat → Prop} {n k : Nat} {ds : List D} {v : Value} (h : RepM w S (.s n k ds) v) : ∃ p c, v = .slice p n c := by
  cases h with
  | s us => exact ⟨_, _, rfl⟩
theorem Try.infoL : ∃ i, Try.prog.info? 24 = some i ∧ i.zero = some (.slice none 0 0) ∧ i.size = 1 ∧ i.bytes = 24 := info_of (by kernel_rfl)
theorem ownsRow_ty {W : World} {base : Nat} {e : TypeId} {size : Nat} {v : Value} {k : Nat} {xs : List Value} (h : W.ownsRow base e size v k xs) : ∀ b, v.ownBlock = some b → tyOf W b = some e := by
  intro b hb
  rcases h.2 with ⟨rfl, _⟩ | ⟨g, cap, cur, rfl, _, hg, _⟩
  · cases hb
  · cases hb; exact tyOf_row hg
/-- the copy, behind k lists -/
structure CpI (w W : World) (g : Nat) (a : Auto) (u0 u2 u3 : Value) (k : Nat) (pf : Option Addr) (cf : Nat) (us : List Value) : Prop where
  box : W.heap[g]? = some (.cells #[u0, .slice pf k cf, u2, u3, .bool a.empty] 26 (0, 0))
  own : W.ownsRow w.heap.size 24 1 (.slice pf k cf) k us
  elems : ∀ (j : Nat) (d : List Int) (u : Value), (a.follow.take k)[j]? = some d → us[j]? = some u → RepM W (Ty w.heap.size W 3) (.s d.length 1 ((d.map (Value.int .i64)).map .v)) u
  r0 : RepM W (Ty w.heap.size W 38) (.s a.sets.length 4 ((setsU a.sets).map .v)) u0
  r2 : RepM W (Ty w.heap.size W 3) (.s a.first.length 1 ((a.first.map (Value.int .i64)).map .v)) u2
  r3 : RepM W (Ty w.heap.size W 3) (.s a.last.length 1 ((a.last.map (Value.int .i64)).map .v)) u3
  res : W.heap[w.heap.size + 1]? = some (.cells #[.slice none 0 0, .slice none 0 0, .slice none 0 0, .slice none 0 0, .bool false] 26 (0, 0))
  bel : Below w.heap.size w W
  far : w.heap.size + 2 ≤ g
theorem CpI.grow {w W W' : World} {g : Nat} {a : Auto} {u0 u2 u3 : Value} {k : Nat} {pf : Option Addr} {cf : Nat} {us : List Value} (h : CpI w W g a u0 u2 u3 k pf cf us) (hb : Below W.heap.size W W') : CpI w W' g a u0 u2 u3 k pf cf us :=
  ⟨(hb.block g (Array.getElem?_eq_some_iff.1 h.box).1).trans h.box, ownsRow_block h.own fun b hb' => hb.block b (h.own.lt b hb').2, fun j d u h1 h2 => (h.elems j d u h1 h2).tyGrow hb, h.r0.tyGrow hb, h.r2.tyGrow hb, h.r3.tyGrow hb,
    (hb.block _ (Array.getElem?_eq_some_iff.1 h.res).1).trans h.res, h.bel.trans (hb.mono h.bel.size), h.far⟩
theorem CpI.step {w W w3 : World} {g : Nat} {a : Auto} {u0 u2 u3 : Value} {k : Nat} {pf : Option Addr} {cf : Nat} {us : List Value} (h : CpI w W g a u0 u2 u3 k pf cf us) {f : List Int} (hf : a.follow[k]? = some f) {u : Value} (hu : RepM W (Ty w.heap.size W 3) (.s f.length 1 ((f.map (Value.int .i64)).map .v)) u)
    {g3 cap3 : Nat} (hown : w3.ownsRow w.heap.size 24 1 (.slice (some ⟨g3, 0, none⟩) (k + 1) cap3) (k + 1) (us ++ [u])) (hgr : W.grownBy w3 (Value.slice pf k cf).ownBlock) :
    CpI w (w3.setCell ⟨g, 1, none⟩ (.slice (some ⟨g3, 0, none⟩) (k + 1) cap3)) g a u0 u2 u3 (k + 1) (some ⟨g3, 0, none⟩) cap3 (us ++ [u]) := by
  have hrt := ownsRow_ty h.own
  have hne : some g ≠ (Value.slice pf k cf).ownBlock := fun e => by
    have h1 := hrt g e.symm
    rw [tyOf_row h.box] at h1
    cases h1
  have hg3 := (hgr.block g (Array.getElem?_eq_some_iff.1 h.box).1 hne).trans h.box
  have hty3 := tyOf_row hg3
  have hi : ∀ {d : D} {v : Value}, RepM W (Ty w.heap.size W 3) d v → RepM (w3.setCell ⟨g, 1, none⟩ (.slice (some ⟨g3, 0, none⟩) (k + 1) cap3)) (Ty w.heap.size (w3.setCell ⟨g, 1, none⟩ (.slice (some ⟨g3, 0, none⟩) (k + 1) cap3)) 3) d v := fun h =>
    (h.tyGrown hgr (fun b hb => by rw [hrt b hb]; decide)).tySet _ _ (by show tyOf w3 g ≠ _; rw [hty3]; decide)
  have hn : us.length = k := by have := h.own.1; omega
  refine ⟨heap_setCell_same w3 g 1 _ _ _ hg3, ownsRow_block hown fun b hb => Below.heap_setCell _ _ _ b (fun e => ?_), fun j d x h1 h2 => ?_, (h.r0.tyGrown hgr (fun b hb => by rw [hrt b hb]; decide)).tySet _ _ (by show tyOf w3 g ≠ _; rw [hty3]; decide), hi h.r2, hi h.r3, ?_, ?_, h.far⟩
  · have h1 := ownsRow_ty hown b hb
    rw [e, hty3] at h1
    cases h1
  · rw [take_succ_of hf] at h1
    have hlk : (a.follow.take k).length = k := by
      have := (List.getElem?_eq_some_iff.1 hf).1
      rw [List.length_take]; omega
    by_cases hj : j < k
    · rw [List.getElem?_append_left (by omega)] at h1 h2
      exact hi (h.elems j d x h1 h2)
    · rw [List.getElem?_append_right (by omega)] at h1 h2
      rw [hlk] at h1
      rw [hn] at h2
      cases hjk : j - k with
      | zero => rw [hjk] at h1 h2; simp at h1 h2; subst h1 h2; exact hi hu
      | succ n => rw [hjk] at h1; simp at h1
  · have hr := (Array.getElem?_eq_some_iff.1 h.res).1
    have hne2 : some (w.heap.size + 1) ≠ (Value.slice pf k cf).ownBlock := fun e => by
      have h1 := hrt _ e.symm
      rw [tyOf_row h.res] at h1
      cases h1
    rw [Below.heap_setCell _ _ _ _ (by have := h.far; show w.heap.size + 1 ≠ g; omega), hgr.block _ hr hne2]
    exact h.res
  · exact (h.bel.grown hgr h.bel.size (fun b hb => (h.own.lt b hb).1)).setCell (p := ⟨g, 1, none⟩) (by have := h.far; show w.heap.size ≤ g; omega) _
/-- an automaton in memory of its own -/
structure OwnA (B : Nat) (W : World) (a : Auto) (u0 u1 u2 u3 : Value) : Prop where
  r0 : RepM W (Ty B W 38) (.s a.sets.length 4 ((setsU a.sets).map .v)) u0
  r1 : ∃ us, W.ownsRow B 24 1 u1 a.follow.length us ∧ ∀ (j : Nat) (d : List Int) (u : Value), a.follow[j]? = some d → us[j]? = some u → RepM W (Ty B W 3) (.s d.length 1 ((d.map (Value.int .i64)).map .v)) u
  r2 : RepM W (Ty B W 3) (.s a.first.length 1 ((a.first.map (Value.int .i64)).map .v)) u2
  r3 : RepM W (Ty B W 3) (.s a.last.length 1 ((a.last.map (Value.int .i64)).map .v)) u3
theorem OwnA.move {B : Nat} {W W' : World} {a : Auto} {u0 u1 u2 u3 : Value} (h : OwnA B W a u0 u1 u2 u3) (hw : ∀ b, B ≤ b → b < W.heap.size → tyOf W b ≠ some 26 → W'.heap[b]? = W.heap[b]?) : OwnA B W' a u0 u1 u2 u3 := by
  obtain ⟨us, ho, he⟩ := h.r1
  refine ⟨h.r0.tyMove fun b h1 h2 h3 => hw b h1 h2 (by rw [h3]; decide), ⟨us, ownsRow_block ho fun b hb => hw b (ho.lt b hb).1 (ho.lt b hb).2 (by rw [ownsRow_ty ho b hb]; decide), fun j d u h1 h2 => (he j d u h1 h2).tyMove fun b h1 h2 h3 => hw b h1 h2 (by rw [h3]; decide)⟩,
    h.r2.tyMove fun b h1 h2 h3 => hw b h1 h2 (by rw [h3]; decide), h.r3.tyMove fun b h1 h2 h3 => hw b h1 h2 (by rw [h3]; decide)⟩
theorem OwnA.grow {B : Nat} {W W' : World} {a : Auto} {u0 u1 u2 u3 : Value} (h : OwnA B W a u0 u1 u2 u3) (hb : Below W.heap.size W W') : OwnA B W' a u0 u1 u2 u3 := h.move fun b _ h2 _ => hb.block b h2
theorem CpI.fin {w W : World} {g : Nat} {a : Auto} {u0 u2 u3 : Value} {pf : Option Addr} {cf : Nat} {us : List Value} (h : CpI w W g a u0 u2 u3 a.follow.length pf cf us) (cs : Array Value) : OwnA w.heap.size (W.setRow (w.heap.size + 1) cs) a u0 (.slice pf a.follow.length cf) u2 u3 := by
  have h1 : OwnA w.heap.size W a u0 (.slice pf a.follow.length cf) u2 u3 := ⟨h.r0, ⟨us, h.own, fun j d u h1 h2 => h.elems j d u (by rw [List.take_length]; exact h1) h2⟩, h.r2, h.r3⟩
  refine h1.move fun b _ _ h3 => setRow_other W _ b _ (fun e => h3 (by rw [e]; exact tyOf_row h.res))
theorem dI_flat {l : List Int} : dI l = .s l.length 1 ((l.map (Value.int .i64)).map .v) := by simp [dI, Function.comp_def]
theorem intsV_one (l : List Int) : ∀ u ∈ l.map (Value.int .i64), u.oneCell' = true := by
  intro u hu
  obtain ⟨x, _, rfl⟩ := List.mem_map.1 hu
  rfl

set_option linter.unusedSimpArgs false in
set_option maxRecDepth 100000 in
set_option maxHeartbeats 4000000 in
theorem copyA_any {S : Nat → Prop} (a : Auto) (v0 v1 v2 v3 : Value) (w : World) (hR : RepA w S a v0 v1 v2 v3) (h0 : a.sets.length ≤ 1000000) (h1 : a.follow.length ≤ 1000000) (h2 : a.first.length ≤ 1000000) (h3 : a.last.length ≤ 1000000) (h4 : ∀ f ∈ a.follow, f.length ≤ 1000000) :
    Calls Try.prog 26 #[.agg (autoC a v0 v1 v2 v3)] w fun e w' => ∃ u0 u1 u2 u3, e = .returned (.agg (autoC a u0 u1 u2 u3)) ∧ OwnA w.heap.size w' a u0 u1 u2 u3 ∧ Below w.heap.size w w' := by
  obtain ⟨p0, q0, rfl, hm0, hc0, hx0, hat0⟩ := hR.sets.at
  obtain ⟨p1, q1, rfl, hm1, hc1, hx1, hat1⟩ := hR.follow.at
  obtain ⟨p2, q2, rfl⟩ := hR.first.intsShape
  obtain ⟨p3, q3, rfl⟩ := hR.last.intsShape
  have hbx := BoxA.new w a (.slice p0 a.sets.length q0) (.slice p1 a.follow.length q1) (.slice p2 a.first.length q2) (.slice p3 a.last.length q3) 26
  have hb0 : Below w.heap.size w (w.alloc (.cells (autoC a (.slice p0 a.sets.length q0) (.slice p1 a.follow.length q1) (.slice p2 a.first.length q2) (.slice p3 a.last.length q3)) 26)) := (Below.refl _ w).alloc (Nat.le_refl _) _
  obtain ⟨i0, hi, hz, hi1, hi2⟩ := Try.infoL
  go_enter Try.func26, Try.ntmps26
  go_wp2_with fail
  have hbx2 := hbx.below ((Below.refl _ _).alloc (Nat.le_refl _) (.cells #[.slice none 0 0, .slice none 0 0, .slice none 0 0, .slice none 0 0, .bool false] 26))
  have hsz : w.heap.size ≤ ((w.alloc (.cells (autoC a (.slice p0 a.sets.length q0) (.slice p1 a.follow.length q1) (.slice p2 a.first.length q2) (.slice p3 a.last.length q3)) 26)).alloc (.cells #[.slice none 0 0, .slice none 0 0, .slice none 0 0, .slice none 0 0, .bool false] 26)).heap.size := by simp; omega
  have hsz2 : w.heap.size + 2 ≤ ((w.alloc (.cells (autoC a (.slice p0 a.sets.length q0) (.slice p1 a.follow.length q1) (.slice p2 a.first.length q2) (.slice p3 a.last.length q3)) 26)).alloc (.cells #[.slice none 0 0, .slice none 0 0, .slice none 0 0, .slice none 0 0, .bool false] 26)).heap.size := by simp
  have hlt2 : w.heap.size + 1 < ((w.alloc (.cells (autoC a (.slice p0 a.sets.length q0) (.slice p1 a.follow.length q1) (.slice p2 a.first.length q2) (.slice p3 a.last.length q3)) 26)).alloc (.cells #[.slice none 0 0, .slice none 0 0, .slice none 0 0, .slice none 0 0, .bool false] 26)).heap.size := by simp
  have hres0 := heap_alloc2_new w (.cells (autoC a (.slice p0 a.sets.length q0) (.slice p1 a.follow.length q1) (.slice p2 a.first.length q2) (.slice p3 a.last.length q3)) 26) (.cells #[.slice none 0 0, .slice none 0 0, .slice none 0 0, .slice none 0 0, .bool false] 26)
  have hb2w := hb0.trans ((((Below.refl _ _).alloc (Nat.le_refl _) (.cells #[.slice none 0 0, .slice none 0 0, .slice none 0 0, .slice none 0 0, .bool false] 26))).mono hb0.size)
  have hR2 := (hR.grow hb0).grow ((Below.refl _ _).alloc (Nat.le_refl _) (.cells #[.slice none 0 0, .slice none 0 0, .slice none 0 0, .slice none 0 0, .bool false] 26))
  refine' region_lit (by kernel_rfl) _ ?mk [(fun v _ => v = .pointer (some ⟨w.heap.size, 0, none⟩)),
    (fun v _ => v = .slice p0 a.sets.length q0),
    (fun v W => RepM W (Ty w.heap.size W 38) (.s a.sets.length 4 ((setsU a.sets).map .v)) v),
    (fun v _ => v = .pointer (some ⟨w.heap.size, 2, none⟩)),
    (fun v _ => v = .slice p2 a.first.length q2),
    (fun v W => RepM W (Ty w.heap.size W 3) (.s a.first.length 1 ((a.first.map (Value.int .i64)).map .v)) v),
    (fun v _ => v = .pointer (some ⟨w.heap.size, 3, none⟩)),
    (fun v _ => v = .slice p3 a.last.length q3),
    (fun v W => RepM W (Ty w.heap.size W 3) (.s a.last.length 1 ((a.last.map (Value.int .i64)).map .v)) v),
    (fun v _ => v = .pointer (some ⟨w.heap.size, 4, none⟩)),
    (fun v _ => v = .bool a.empty),
    (fun v W => ∃ u0 u2 u3, v = .agg #[u0, .slice none 0 0, u2, u3, .bool a.empty] ∧ RepM W (Ty w.heap.size W 38) (.s a.sets.length 4 ((setsU a.sets).map .v)) u0 ∧ RepM W (Ty w.heap.size W 3) (.s a.first.length 1 ((a.first.map (Value.int .i64)).map .v)) u2 ∧ RepM W (Ty w.heap.size W 3) (.s a.last.length 1 ((a.last.map (Value.int .i64)).map .v)) u3),
    (fun v W => ∃ g, v = .pointer (some ⟨g, 0, none⟩) ∧ w.heap.size + 2 ≤ g ∧ W.heap[g]? = some (.cells #[.slice none 0 0, .slice none 0 0, .slice none 0 0, .slice none 0 0, .bool false] 26 (0, 0)))] (by kernel_rfl) rfl ?steps ?last
  case mk =>
    intro xs
    simp only [layL, List.setIfInBounds_toArray, List.set_cons_succ, List.set_cons_zero, Nat.reduceAdd]
    exact rfl
  case steps =>
    refine ⟨?s0, ?s1, ?s2, ?s3, ?s4, ?s5, ?s6, ?s7, ?s8, ?s9, ?s10, ?s11, ?s12, trivial⟩
    case s0 =>
      refine step_plain rfl [] rfl ?_
      intro xs W hb hd K hK
      replace hK := fun v w' h1 h2 => hK.out v w' h1 h2
      simp only [Act.put, List.setIfInBounds_toArray, List.set_cons_succ, List.set_cons_zero] at hK
      have HK := Lib.hid hK; clear hK
      obtain ⟨c0, c1, c2, c3, c4⟩ := hbx2.below hb
      go_simp
      exact HK.out _ _ (Below.refl _ _) (stands_eq _ _)
    case s1 =>
      refine step_plain rfl [0] rfl ?_
      intro xs W hb hd K hK
      have e0 := hd.1.now
      clear hd
      change ((fun v _ => v = .pointer (some ⟨w.heap.size, 0, none⟩))) (xs 0) W at e0
      replace e0 : xs 0 = _ := e0
      replace hK := fun v w' h1 h2 => hK.out v w' h1 h2
      simp only [Act.put, List.setIfInBounds_toArray, List.set_cons_succ, List.set_cons_zero] at hK
      rw [e0] at hK ⊢
      have HK := Lib.hid hK; clear hK
      obtain ⟨c0, c1, c2, c3, c4⟩ := hbx2.below hb
      go_simp
      exact HK.out _ _ (Below.refl _ _) (stands_eq _ _)
    case s2 =>
      refine step_plain rfl [1] rfl ?_
      intro xs W hb hd K hK
      have e1 := hd.1.now
      clear hd
      change ((fun v _ => v = .slice p0 a.sets.length q0)) (xs 1) W at e1
      replace e1 : xs 1 = _ := e1
      replace hK := fun v w' h1 h2 => hK.out v w' h1 h2
      simp only [Act.put, List.setIfInBounds_toArray, List.set_cons_succ, List.set_cons_zero] at hK
      rw [e1] at hK ⊢
      have HK := Lib.hid hK; clear hK
      have hwW : w.heap.size ≤ W.heap.size := Nat.le_trans hsz hb.size
      go_simp
      go_at_call 77; refine (cloneS_any a.sets.length (setsU a.sets) _ _ ((hR2.grow hb).sets) (setsU_one _) h0).mono ?_; rintro e w1 ⟨v', rfl, hv, hb1⟩
      exact HK.out _ _ hb1 (fun w2 hb2 => (hv.tyBase hwW).tyGrow hb2)
    case s3 =>
      refine step_plain rfl [] rfl ?_
      intro xs W hb hd K hK
      replace hK := fun v w' h1 h2 => hK.out v w' h1 h2
      simp only [Act.put, List.setIfInBounds_toArray, List.set_cons_succ, List.set_cons_zero] at hK
      have HK := Lib.hid hK; clear hK
      obtain ⟨c0, c1, c2, c3, c4⟩ := hbx2.below hb
      go_simp
      exact HK.out _ _ (Below.refl _ _) (stands_eq _ _)
    case s4 =>
      refine step_plain rfl [3] rfl ?_
      intro xs W hb hd K hK
      have e3 := hd.1.now
      clear hd
      change ((fun v _ => v = .pointer (some ⟨w.heap.size, 2, none⟩))) (xs 3) W at e3
      replace e3 : xs 3 = _ := e3
      replace hK := fun v w' h1 h2 => hK.out v w' h1 h2
      simp only [Act.put, List.setIfInBounds_toArray, List.set_cons_succ, List.set_cons_zero] at hK
      rw [e3] at hK ⊢
      have HK := Lib.hid hK; clear hK
      obtain ⟨c0, c1, c2, c3, c4⟩ := hbx2.below hb
      go_simp
      exact HK.out _ _ (Below.refl _ _) (stands_eq _ _)
    case s5 =>
      refine step_plain rfl [4] rfl ?_
      intro xs W hb hd K hK
      have e4 := hd.1.now
      clear hd
      change ((fun v _ => v = .slice p2 a.first.length q2)) (xs 4) W at e4
      replace e4 : xs 4 = _ := e4
      replace hK := fun v w' h1 h2 => hK.out v w' h1 h2
      simp only [Act.put, List.setIfInBounds_toArray, List.set_cons_succ, List.set_cons_zero] at hK
      rw [e4] at hK ⊢
      have HK := Lib.hid hK; clear hK
      have hwW : w.heap.size ≤ W.heap.size := Nat.le_trans hsz hb.size
      go_simp
      go_at_call 44; refine (cloneI_any a.first.length (a.first.map (Value.int .i64)) _ _ (dI_flat ▸ (hR2.grow hb).first) (intsV_one _) h2).mono ?_; rintro e w1 ⟨v', rfl, hv, hb1⟩
      exact HK.out _ _ hb1 (fun w2 hb2 => (hv.tyBase hwW).tyGrow hb2)
    case s6 =>
      refine step_plain rfl [] rfl ?_
      intro xs W hb hd K hK
      replace hK := fun v w' h1 h2 => hK.out v w' h1 h2
      simp only [Act.put, List.setIfInBounds_toArray, List.set_cons_succ, List.set_cons_zero] at hK
      have HK := Lib.hid hK; clear hK
      obtain ⟨c0, c1, c2, c3, c4⟩ := hbx2.below hb
      go_simp
      exact HK.out _ _ (Below.refl _ _) (stands_eq _ _)
    case s7 =>
      refine step_plain rfl [6] rfl ?_
      intro xs W hb hd K hK
      have e6 := hd.1.now
      clear hd
      change ((fun v _ => v = .pointer (some ⟨w.heap.size, 3, none⟩))) (xs 6) W at e6
      replace e6 : xs 6 = _ := e6
      replace hK := fun v w' h1 h2 => hK.out v w' h1 h2
      simp only [Act.put, List.setIfInBounds_toArray, List.set_cons_succ, List.set_cons_zero] at hK
      rw [e6] at hK ⊢
      have HK := Lib.hid hK; clear hK
      obtain ⟨c0, c1, c2, c3, c4⟩ := hbx2.below hb
      go_simp
      exact HK.out _ _ (Below.refl _ _) (stands_eq _ _)
    case s8 =>
      refine step_plain rfl [7] rfl ?_
      intro xs W hb hd K hK
      have e7 := hd.1.now
      clear hd
      change ((fun v _ => v = .slice p3 a.last.length q3)) (xs 7) W at e7
      replace e7 : xs 7 = _ := e7
      replace hK := fun v w' h1 h2 => hK.out v w' h1 h2
      simp only [Act.put, List.setIfInBounds_toArray, List.set_cons_succ, List.set_cons_zero] at hK
      rw [e7] at hK ⊢
      have HK := Lib.hid hK; clear hK
      have hwW : w.heap.size ≤ W.heap.size := Nat.le_trans hsz hb.size
      go_simp
      go_at_call 44; refine (cloneI_any a.last.length (a.last.map (Value.int .i64)) _ _ (dI_flat ▸ (hR2.grow hb).last) (intsV_one _) h3).mono ?_; rintro e w1 ⟨v', rfl, hv, hb1⟩
      exact HK.out _ _ hb1 (fun w2 hb2 => (hv.tyBase hwW).tyGrow hb2)
    case s9 =>
      refine step_plain rfl [] rfl ?_
      intro xs W hb hd K hK
      replace hK := fun v w' h1 h2 => hK.out v w' h1 h2
      simp only [Act.put, List.setIfInBounds_toArray, List.set_cons_succ, List.set_cons_zero] at hK
      have HK := Lib.hid hK; clear hK
      obtain ⟨c0, c1, c2, c3, c4⟩ := hbx2.below hb
      go_simp
      exact HK.out _ _ (Below.refl _ _) (stands_eq _ _)
    case s10 =>
      refine step_plain rfl [9] rfl ?_
      intro xs W hb hd K hK
      have e9 := hd.1.now
      clear hd
      change ((fun v _ => v = .pointer (some ⟨w.heap.size, 4, none⟩))) (xs 9) W at e9
      replace e9 : xs 9 = _ := e9
      replace hK := fun v w' h1 h2 => hK.out v w' h1 h2
      simp only [Act.put, List.setIfInBounds_toArray, List.set_cons_succ, List.set_cons_zero] at hK
      rw [e9] at hK ⊢
      have HK := Lib.hid hK; clear hK
      obtain ⟨c0, c1, c2, c3, c4⟩ := hbx2.below hb
      go_simp
      exact HK.out _ _ (Below.refl _ _) (stands_eq _ _)
    case s11 =>
      refine step_plain rfl [2, 5, 8, 10] rfl ?_
      intro xs W hb hd K hK
      have e2 := hd.1.now
      have e5 := hd.2.1.now
      have e8 := hd.2.2.1.now
      have e10 := hd.2.2.2.1.now
      clear hd
      change ((fun v W => RepM W (Ty w.heap.size W 38) (.s a.sets.length 4 ((setsU a.sets).map .v)) v)) (xs 2) W at e2
      change ((fun v W => RepM W (Ty w.heap.size W 3) (.s a.first.length 1 ((a.first.map (Value.int .i64)).map .v)) v)) (xs 5) W at e5
      change ((fun v W => RepM W (Ty w.heap.size W 3) (.s a.last.length 1 ((a.last.map (Value.int .i64)).map .v)) v)) (xs 8) W at e8
      change ((fun v _ => v = .bool a.empty)) (xs 10) W at e10
      replace e10 : xs 10 = _ := e10
      replace hK := fun v w' h1 h2 => hK.out v w' h1 h2
      simp only [Act.put, List.setIfInBounds_toArray, List.set_cons_succ, List.set_cons_zero] at hK
      rw [e10] at hK ⊢
      have HK := Lib.hid hK; clear hK
      generalize xs 2 = y2 at *
      generalize xs 5 = y5 at *
      generalize xs 8 = y8 at *
      replace e2 : RepM W (Ty w.heap.size W 38) (.s a.sets.length 4 ((setsU a.sets).map .v)) y2 := e2
      replace e5 : RepM W (Ty w.heap.size W 3) (.s a.first.length 1 ((a.first.map (Value.int .i64)).map .v)) y5 := e5
      replace e8 : RepM W (Ty w.heap.size W 3) (.s a.last.length 1 ((a.last.map (Value.int .i64)).map .v)) y8 := e8
      obtain ⟨a2, b2, rfl⟩ := e2.shape
      obtain ⟨a5, b5, rfl⟩ := e5.shape
      obtain ⟨a8, b8, rfl⟩ := e8.shape
      go_simp
      exact HK.out _ _ (Below.refl _ _) (fun w2 hb2 => ⟨_, _, _, rfl, e2.tyGrow hb2, e5.tyGrow hb2, e8.tyGrow hb2⟩)
    case s12 =>
      refine step_plain rfl [] rfl ?_
      intro xs W hb hd K hK
      replace hK := fun v w' h1 h2 => hK.out v w' h1 h2
      simp only [Act.put, List.setIfInBounds_toArray, List.set_cons_succ, List.set_cons_zero] at hK
      have HK := Lib.hid hK; clear hK
      go_simp
      exact HK.out _ _ ((Below.refl _ _).alloc (Nat.le_refl _) _) (fun w2 hb2 => ⟨_, rfl, Nat.le_trans hsz2 hb.size, (hb2.block _ (by simp)).trans (heap_alloc_new W _)⟩)
  case last =>
    intro xs W hb hd
    refine tail_one _ rfl rfl ?_
    have e11 := (needs_sub hd 11 (by simp)).now
    have e12 := (needs_sub hd 12 (by simp)).now
    clear hd
    generalize xs 11 = y11 at *
    generalize xs 12 = y12 at *
    obtain ⟨u0, u2, u3, rfl, r0, r2, r3⟩ := e11
    obtain ⟨g, rfl, hg1, hg2⟩ := e12
    obtain ⟨a0, b0, rfl⟩ := r0.shape
    obtain ⟨a2, b2, rfl⟩ := r2.shape
    obtain ⟨a3, b3, rfl⟩ := r3.shape
    refine wp_store_row 26 _ _ rfl g #[.slice a0 a.sets.length b0, .slice none 0 0, .slice a2 a.first.length b2, .slice a3 a.last.length b3, .bool a.empty] rfl rfl 26 _ hg2 (by kernel_rfl) rfl (by simp [Value.oneCell']) ?_
    have hbx3 := hbx2.below hb
    have hres := (hb.block _ hlt2).trans hres0
    have hfl := hR2.follow.grow hb
    have hbel := below_setRow (hb2w.trans (hb.mono hsz)) (g := g) (by omega) #[.slice a0 a.sets.length b0, .slice none 0 0, .slice a2 a.first.length b2, .slice a3 a.last.length b3, .bool a.empty]
    have hg3 := setRow_heap W g _ #[.slice a0 a.sets.length b0, .slice none 0 0, .slice a2 a.first.length b2, .slice a3 a.last.length b3, .bool a.empty] _ _ hg2
    have hty := tyOf_row hg2
    have hsame : ∀ b, b ≠ g → (W.setRow g #[.slice a0 a.sets.length b0, .slice none 0 0, .slice a2 a.first.length b2, .slice a3 a.last.length b3, .bool a.empty]).heap[b]? = W.heap[b]? := fun b hb => setRow_other W g b _ hb
    have r0' := r0.tyMove (w' := W.setRow g #[.slice a0 a.sets.length b0, .slice none 0 0, .slice a2 a.first.length b2, .slice a3 a.last.length b3, .bool a.empty]) (fun b _ _ ht => hsame b (by rintro rfl; rw [hty] at ht; cases ht))
    have r2' := r2.tyMove (w' := W.setRow g #[.slice a0 a.sets.length b0, .slice none 0 0, .slice a2 a.first.length b2, .slice a3 a.last.length b3, .bool a.empty]) (fun b _ _ ht => hsame b (by rintro rfl; rw [hty] at ht; cases ht))
    have r3' := r3.tyMove (w' := W.setRow g #[.slice a0 a.sets.length b0, .slice none 0 0, .slice a2 a.first.length b2, .slice a3 a.last.length b3, .bool a.empty]) (fun b _ _ ht => hsame b (by rintro rfl; rw [hty] at ht; cases ht))
    have hbx4 := hbx3.move (hsame w.heap.size (by omega))
    have hres2 := (hsame (w.heap.size + 1) (by omega)).trans hres
    have hfl2 := hR.follow.move (w' := W.setRow g #[.slice a0 a.sets.length b0, .slice none 0 0, .slice a2 a.first.length b2, .slice a3 a.last.length b3, .bool a.empty]) (S' := S) (fun b hS hlt => ⟨(hbel.block b hlt), hS⟩)
    generalize xs 0 = x0, xs 1 = x1, xs 3 = x3, xs 4 = x4, xs 6 = x6, xs 7 = x7, xs 9 = x9, xs 10 = x10, xs 2 = x2, xs 5 = x5, xs 8 = x8
    simp only [Act.put, Exit.then]
    generalize W.setRow g #[.slice a0 a.sets.length b0, .slice none 0 0, .slice a2 a.first.length b2, .slice a3 a.last.length b3, .bool a.empty] = W1 at *
    clear hbx3 hres hfl hsame hty r0 r2 r3 hb hg2 hbx2 hR2 hbx hb0 hb2w hres0 hlt2 hsz hsz2
    obtain ⟨c0, c1, c2, c3, c4⟩ := hbx4
    go_wp2
    have hI0 : CpI w W1 g a (.slice a0 a.sets.length b0) (.slice a2 a.first.length b2) (.slice a3 a.last.length b3) 0 none 0 [] := ⟨hg3, World.ownsRow_nil _ _ _ _, (fun j d u h => by simp at h), r0', r2', r3', hres2, hbel, hg1⟩
    have hBX : BoxA W1 w.heap.size a (.slice p0 a.sets.length q0) (.slice p1 a.follow.length q1) (.slice p2 a.first.length q2) (.slice p3 a.last.length q3) := ⟨c0, c1, c2, c3, c4⟩
    clear hg3 r0' r2' r3' hres2 c0 c1 c2 c3 c4 hfl2 hat0
    go_loopw [21] (fun i W => ∃ (k : Nat) (pf : Option Addr) (cf : Nat) (us : List Value), k ≤ a.follow.length ∧ i = .int .i64 k ∧ CpI w W g a (.slice a0 a.sets.length b0) (.slice a2 a.first.length b2) (.slice a3 a.last.length b3) k pf cf us) (fun i _ => a.follow.length - (intOf i).toNat)
    case atStart => exact ⟨0, none, 0, [], by omega, rfl, hI0⟩
    case round =>
      clear hI0 hBX hbel
      obtain ⟨k, pf, cf, us, hk, rfl, hI⟩ := hrel
      have hbw := hI.bel
      by_cases hlt : k < a.follow.length
      · obtain ⟨f, hf⟩ := some_at hlt
        obtain ⟨bf, of, rfl, hSf, hbf, u, hRf, hcu⟩ := hat1 k f hf
        obtain ⟨pu, cu, rfl⟩ := hRf.intsShape
        have hcu2 := (hbw.cell (World.block_lt_of_cell? w _ hcu)).trans hcu
        have hfl4 := h4 f (List.mem_of_getElem? hf)
        have HF := Lib.hid hf
        have hglt := (Array.getElem?_eq_some_iff.1 hI.box).1
        have hgc1 : wr.cell? ⟨g, 1, none⟩ = some (.slice pf k cf) := by rw [cell_of_row _ _ 1 _ _ _ hI.box]; rfl
        clear hf hat1 hcu hSf
        go_wp2
        refine' region_lit (by kernel_rfl) _ ?mk [(fun v _ => v = .pointer (some ⟨g, 1, none⟩)),
    (fun v _ => v = .slice pf k cf),
    (fun v _ => v = .slice pu f.length cu),
    (fun v W => RepM W (Ty w.heap.size W 3) (.s f.length 1 ((f.map (Value.int .i64)).map .v)) v),
    (fun v W => ∃ gb u, v = .slice (some ⟨gb, 0, none⟩) 1 1 ∧ W.heap[gb]? = some (.cells #[u] 24 (0, 0)) ∧ RepM W (Ty w.heap.size W 3) (.s f.length 1 ((f.map (Value.int .i64)).map .v)) u)] (by kernel_rfl) rfl ?steps ?last
        case mk =>
          intro xs
          simp only [layL, List.setIfInBounds_toArray, List.set_cons_succ, List.set_cons_zero, Nat.reduceAdd]
          exact rfl
        case steps =>
          refine ⟨?s0, ?s1, ?s2, ?s3, ?s4, trivial⟩
          case s0 =>
            refine step_plain rfl [] rfl ?_
            intro xs W hb hd K hK
            replace hK := fun v w' h1 h2 => hK.out v w' h1 h2
            simp only [Act.put, List.setIfInBounds_toArray, List.set_cons_succ, List.set_cons_zero] at hK
            have HK := Lib.hid hK; clear hK
            have g1 := (hb.cell (p := ⟨g, 1, none⟩) hglt).trans hgc1
            go_simp
            exact HK.out _ _ (Below.refl _ _) (stands_eq _ _)
          case s1 =>
            refine step_plain rfl [0] rfl ?_
            intro xs W hb hd K hK
            have e0 := hd.1.now
            clear hd
            change ((fun v _ => v = .pointer (some ⟨g, 1, none⟩))) (xs 0) W at e0
            replace e0 : xs 0 = _ := e0
            replace hK := fun v w' h1 h2 => hK.out v w' h1 h2
            simp only [Act.put, List.setIfInBounds_toArray, List.set_cons_succ, List.set_cons_zero] at hK
            rw [e0] at hK ⊢
            have HK := Lib.hid hK; clear hK
            have g1 := (hb.cell (p := ⟨g, 1, none⟩) hglt).trans hgc1
            go_simp
            exact HK.out _ _ (Below.refl _ _) (stands_eq _ _)
          case s2 =>
            refine step_plain rfl [] rfl ?_
            intro xs W hb hd K hK
            replace hK := fun v w' h1 h2 => hK.out v w' h1 h2
            simp only [Act.put, List.setIfInBounds_toArray, List.set_cons_succ, List.set_cons_zero] at hK
            have HK := Lib.hid hK; clear hK
            have g1 := (hb.cell (p := ⟨g, 1, none⟩) hglt).trans hgc1
            go_simp
            exact HK.out _ _ (Below.refl _ _) (stands_eq _ _)
          case s3 =>
            refine step_plain rfl [2] rfl ?_
            intro xs W hb hd K hK
            have e2 := hd.1.now
            clear hd
            change ((fun v _ => v = .slice pu f.length cu)) (xs 2) W at e2
            replace e2 : xs 2 = _ := e2
            replace hK := fun v w' h1 h2 => hK.out v w' h1 h2
            simp only [Act.put, List.setIfInBounds_toArray, List.set_cons_succ, List.set_cons_zero] at hK
            rw [e2] at hK ⊢
            have HK := Lib.hid hK; clear hK
            go_simp
            go_at_call 44; refine (cloneI_any f.length (f.map (Value.int .i64)) _ _ (dI_flat ▸ (hRf.grow hbw).grow hb) (intsV_one _) hfl4).mono ?_; rintro e w1 ⟨v', rfl, hv, hb1⟩
            exact HK.out _ _ hb1 (fun w2 hb2 => (hv.tyBase (Nat.le_trans hbw.size hb.size)).tyGrow hb2)
          case s4 =>
            refine step_plain rfl [3] rfl ?_
            intro xs W hb hd K hK
            have e3 := hd.1.now
            clear hd
            change ((fun v W => RepM W (Ty w.heap.size W 3) (.s f.length 1 ((f.map (Value.int .i64)).map .v)) v)) (xs 3) W at e3
            replace hK := fun v w' h1 h2 => hK.out v w' h1 h2
            simp only [Act.put, List.setIfInBounds_toArray, List.set_cons_succ, List.set_cons_zero] at hK
            have HK := Lib.hid hK; clear hK
            generalize xs 3 = y3 at *
            replace e3 : RepM W (Ty w.heap.size W 3) (.s f.length 1 ((f.map (Value.int .i64)).map .v)) y3 := e3
            obtain ⟨a3', b3', rfl⟩ := e3.shape
            go_simp
            exact HK.out _ _ ((Below.refl _ _).alloc (Nat.le_refl _) _) (fun w2 hb2 => ⟨_, _, rfl, (hb2.block _ (by simp)).trans (heap_alloc_new W _), (e3.tyGrow ((Below.refl _ _).alloc (Nat.le_refl _) _)).tyGrow hb2⟩)
        case last =>
          intro xs W hb hd
          have e0 := (needs_sub hd 0 (by simp)).now
          have e1 := (needs_sub hd 1 (by simp)).now
          have e4 := (needs_sub hd 4 (by simp)).now
          clear hd
          replace e0 : xs 0 = .pointer (some ⟨g, 1, none⟩) := e0
          replace e1 : xs 1 = .slice pf k cf := e1
          generalize xs 0 = y0, xs 1 = y1, xs 2 = y2, xs 3 = y3, xs 4 = y4 at *
          obtain ⟨gb, u, rfl, hgb, hu⟩ := e4
          subst e0 e1
          have hI2 := hI.grow hb
          obtain ⟨a3', b3', rfl⟩ := hu.shape
          refine tail_cons _ rfl rfl (fun K2 HK2 => ?_)
          refine wp_append_own _ _ _ 23 rfl w.heap.size 24 i0 (.slice none 0 0) 1 24 Try.underlying23 hi hz hi1 hi2 rfl (by decide) (.slice pf k cf) k us rfl hI2.own ⟨gb, 0, none⟩ 1 1 [.slice a3' f.length b3'] rfl rfl (fun j u hj => ?_) (fun u hu => by simp at hu; subst hu; rfl) (by unfold maxLen; omega) (by omega) (Nat.le_trans hbw.size hb.size) ?_
          · cases j with
            | zero => simp at hj; subst hj; show W.cell? ⟨gb, 0, none⟩ = _; rw [cell_of_row _ _ 0 _ _ _ hgb]; rfl
            | succ j => simp at hj
          intro v' w3 hown hgr hnil
          obtain ⟨g3, cap3, rfl⟩ := row_succ hown
          refine HK2.out _ _ ?_
          refine tail_cons _ rfl rfl (fun K3 HK3 => ?_)
          simp only [Act.put, List.setIfInBounds_toArray, List.set_cons_succ, List.set_cons_zero]
          go_simp
          refine HK3.out _ _ ?_
          refine tail_one _ rfl rfl ?_
          have hne : some g ≠ (Value.slice pf k cf).ownBlock := fun e => by
            have h1 := ownsRow_ty hI2.own g e.symm
            rw [tyOf_row hI2.box] at h1
            cases h1
          have hg3 := (hgr.block g (Array.getElem?_eq_some_iff.1 hI2.box).1 hne).trans hI2.box
          have hgc3 := cell_of_row _ _ 1 _ _ _ hg3
          have hgf3 := frozen_of_row _ _ 1 _ _ hg3
          go_simp
          have hI3 := hI2.step HF.out hu hown hgr
          generalize w3.setCell ⟨g, 1, none⟩ (.slice (some ⟨g3, 0, none⟩) (k + 1) cap3) = w4 at *
          clear hgr hown hg3 hgc3 hgf3 hu hgb hI2 hI
          go_wp2
          go_roundw
          case rel => exact ⟨k + 1, _, _, _, by omega, by go_num, hI3⟩
          case measure => simp [intOf]; omega
      · obtain rfl : k = a.follow.length := by omega
        clear hat1
        have hag := hI.box
        have hac := hI.res
        go_wp2_with (first
          | (refine wpList_load_row rfl 26 _ rfl g rfl 26 #[.slice a0 a.sets.length b0, .slice pf a.follow.length cf, .slice a2 a.first.length b2, .slice a3 a.last.length b3, .bool a.empty] (0, 0) _ hag Try.underlying26 rfl (by kernel_rfl) ?_)
          | (refine wpList_store_row rfl 26 _ _ rfl (w.heap.size + 1) #[.slice a0 a.sets.length b0, .slice pf a.follow.length cf, .slice a2 a.first.length b2, .slice a3 a.last.length b3, .bool a.empty] rfl rfl 26 _ hac (by kernel_rfl) rfl (by simp [Value.oneCell']) ?_))
        have hrow := setRow_heap wr (w.heap.size + 1) _ #[.slice a0 a.sets.length b0, .slice pf a.follow.length cf, .slice a2 a.first.length b2, .slice a3 a.last.length b3, .bool a.empty] _ _ hac
        (try simp only [Exit.inBlock, Exit.then])
        refine bodyPost_ret (results_cell_row rfl _ _ (w.heap.size + 1) 26 #[.slice a0 a.sets.length b0, .slice pf a.follow.length cf, .slice a2 a.first.length b2, .slice a3 a.last.length b3, .bool a.empty] (0, 0) _ rfl hrow Try.underlying26 rfl (by kernel_rfl)) rfl ?_
        exact ⟨_, _, _, _, rfl, hI.fin _, below_setRow hI.bel (by omega) _⟩
end Go.Proofs.Ytlagablcopmhkaa
/- The reference of layer 17: list. -/
namespace Go.Proofs.Ytlagablcopmhkaa
open Go.RowKit

/-- 0 or 1 for each of n -/
def flags (m n : Nat) : List Int := (List.range n).map fun i => if m.testBit i then 1 else 0
theorem flags_length (m n : Nat) : (flags m n).length = n := by simp [flags]
theorem flags_at (m n i : Nat) (h : i < n) : (flags m n)[i]? = some (if m.testBit i then 1 else 0) := by simp [flags, h]
theorem ints_map_succ (m k : Nat) : (ints (upTo m (k + 1))).map (Value.int .i64) = (ints (upTo m k)).map (Value.int .i64) ++ if m.testBit k then [.int .i64 k] else [] := by
  rw [upTo_succ]
  cases h : m.testBit k <;> simp [ints]

set_option maxRecDepth 100000 in
set_option maxHeartbeats 1000000 in
theorem listR_any {S : Nat → Prop} (m n : Nat) (hn : n ≤ 1000000) (v : Value) (w : World) (hR : Rep w S (dI (flags m n)) v) :
    Calls Try.prog 103 #[v] w fun e w' => ∃ v', e = .returned v' ∧ RepM w' (Ty w.heap.size w' 3) (dI (ints (upTo m n))) v' ∧ Below w.heap.size w w' := by
  obtain ⟨p, cap, rfl, hm, hcap, hcm, hc⟩ := hR.ints
  obtain ⟨i0, hi, hz, hi1, hi2⟩ := Try.infoI
  rw [flags_length] at hm hcap ⊢
  clear hR
  go_enter Try.func103, Try.ntmps103
  go_wp2
  go_loopw [3, 4] (fun s i W => ∃ (k : Nat) (q : Option Addr) (c : Nat) (L : Nat), k ≤ n ∧ i = .int .i64 k ∧ s = .slice q L c ∧ Hid (W.ownsRow w.heap.size 3 1 (.slice q L c) L ((ints (upTo m k)).map (Value.int .i64))) ∧ L ≤ k ∧ Below w.heap.size w W) (fun _ i _ => n - (intOf i).toNat)
  case atStart => exact ⟨0, none, 0, 0, by omega, rfl, rfl, World.ownsRow_nil _ _ _ _, by omega, Below.refl _ _⟩
  case round =>
    obtain ⟨k, q, c, L, hk, rfl, rfl, ho, hL, hb⟩ := hrel
    by_cases hlt : k < n
    · obtain ⟨b, off, rfl, _, hck⟩ := hc k _ (flags_at m n k hlt)
      have hck2 := (hb.cell (World.block_lt_of_cell? w _ hck)).trans hck
      have hst := Lib.hid (ints_map_succ m k)
      clear hc hck
      cases hb1 : m.testBit k
      · rw [hb1] at hck2 hst
        simp only [Bool.false_eq_true, if_false] at hck2
        go_wp2
        go_roundw
        case rel => exact ⟨k + 1, q, c, L, by omega, by go_num, rfl, by rw [Hid, hst.out]; simpa using ho.out, by omega, hb⟩
        case measure => simp [intOf]; omega
      · rw [hb1] at hck2 hst
        simp only [if_true] at hck2
        go_wp2_with (at_builtin; refine wpList_append_own _ rfl _ _ 24 rfl w.heap.size 3 i0 (.int .i64 0) 1 8 Try.underlying24 hi hz hi1 hi2 rfl (by decide) _ L _ rfl (ownsRow_block ho.out (fun b hbl => Below.heap_alloc wr _ b (ho.out.lt b hbl).2)) ⟨wr.heap.size, 0, none⟩ 1 1 [.int .i64 k] rfl rfl (cell_one_new _ _ _) (fun x hx => by simp at hx; subst hx; rfl) (by unfold maxLen; omega) (by omega) (by rw [World.size_alloc]; have := hb.size; omega) ?_; intro v' w3 hown hgr hnil; obtain ⟨g3, cap3, rfl⟩ := row_succ hown)
        have hb3 := (hb.alloc hb.size _).grown hgr (by rw [World.size_alloc]; have := hb.size; omega) (fun b hb => (ho.out.lt b hb).1)
        go_roundw
        case rel => exact ⟨k + 1, _, _, L + 1, by omega, by go_num, rfl, by rw [Hid, hst.out]; simpa using hown, by omega, hb3⟩
        case measure => simp [intOf]; omega
    · obtain rfl : k = n := by omega
      have hl : (ints (upTo m k)).length = L := by have := ho.out.1; simpa using this
      go_wp2
      go_ret
      refine ⟨_, rfl, ?_, hb⟩
      rw [dI_flat, hl]
      exact RepM.of_owns ho.out (by omega) (by simp [hl]) (fun b h1 h2 => ⟨h1, h2⟩) (RepM.vals _)
end Go.Proofs.Ytlagablcopmhkaa
/- theirs: what lies where, between two rounds. -/
namespace Go.Proofs.Ytlagablcopmhkaa
open Go.RowKit

/-- the cells of the reference's sets -/
def setsWL : List (BitVec 256) → List Value
  | [] => []
  | s :: l => wordsL s 256 ++ setsWL l
theorem wordsL_length (s : BitVec 256) (k : Nat) : (wordsL s k).length = 256 := by simp [wordsL]
theorem setsWL_length (l : List (BitVec 256)) : (setsWL l).length = l.length * 256 := by
  induction l with
  | nil => rfl
  | cons s l ih => simp [setsWL, wordsL_length, ih]; omega
theorem setsWL_append (l l' : List (BitVec 256)) : setsWL (l ++ l') = setsWL l ++ setsWL l' := by
  induction l with
  | nil => rfl
  | cons s l ih => simp [setsWL, ih]
theorem wordsL_one (s : BitVec 256) (k : Nat) : ∀ u ∈ wordsL s k, u.oneCell' = true := by
  intro v hv
  simp [wordsL] at hv
  obtain ⟨c, _, rfl⟩ := hv
  rfl
theorem Try.infoW : ∃ i, Try.prog.info? 141 = some i ∧ (∃ z, i.zero = some z ∧ z.cells.size = 256) ∧ i.size = 256 ∧ i.bytes = 2048 := by
  have h : (Try.prog.info? 141).map (fun i => (i.zero.map (·.cells.size), i.size, i.bytes)) = some (some 256, 256, 2048) := by kernel_rfl
  cases hi : Try.prog.info? 141 with
  | none => rw [hi] at h; cases h
  | some i =>
    rw [hi] at h
    simp only [Option.map_some, Option.some.injEq, Prod.mk.injEq] at h
    refine ⟨i, rfl, ?_, h.2.1, h.2.2⟩
    cases hz : i.zero with
    | none => rw [hz] at h; simp at h
    | some z => rw [hz] at h; exact ⟨z, rfl, by simpa using h.1⟩

structure CpT (w W : World) (ac : Array Value) (g : Nat) (a : Auto) (u2 u3 : Value) (k : Nat) (ps : Option Addr) (cs : Nat) (j : Nat) (pf : Option Addr) (cf : Nat) (us : List Value) : Prop where
  box : W.heap[g]? = some (.cells #[.slice ps k cs, .slice pf j cf, u2, u3, .bool a.empty] 79 (0, 0))
  ownS : W.ownsRow w.heap.size 141 256 (.slice ps k cs) k (setsWL (a.sets.take k))
  own : W.ownsRow w.heap.size 24 1 (.slice pf j cf) j us
  elems : ∀ (i : Nat) (d : List Int) (u : Value), (a.follow.take j)[i]? = some d → us[i]? = some u → RepM W (Ty w.heap.size W 3) (.s d.length 1 ((d.map (Value.int .i64)).map .v)) u
  r2 : RepM W (Ty w.heap.size W 3) (.s a.first.length 1 ((a.first.map (Value.int .i64)).map .v)) u2
  r3 : RepM W (Ty w.heap.size W 3) (.s a.last.length 1 ((a.last.map (Value.int .i64)).map .v)) u3
  res : W.heap[w.heap.size + 1]? = some (.cells #[.slice none 0 0, .slice none 0 0, .slice none 0 0, .slice none 0 0, .bool false] 79 (0, 0))
  bel : Below w.heap.size w W
  far : w.heap.size + 2 ≤ g
  arg : W.heap[w.heap.size]? = some (.cells ac 26 (0, 0))
section
variable {w W : World} {ac : Array Value} {g : Nat} {a : Auto} {u2 u3 : Value} {k : Nat} {ps : Option Addr} {cs : Nat} {j : Nat} {pf : Option Addr} {cf : Nat} {us : List Value}
theorem CpT.grow {W' : World} (h : CpT w W ac g a u2 u3 k ps cs j pf cf us) (hb : Below W.heap.size W W') : CpT w W' ac g a u2 u3 k ps cs j pf cf us :=
  ⟨(hb.block g (Array.getElem?_eq_some_iff.1 h.box).1).trans h.box, ownsRow_block h.ownS fun b hb' => hb.block b (h.ownS.lt b hb').2, ownsRow_block h.own fun b hb' => hb.block b (h.own.lt b hb').2, fun j d u h1 h2 => (h.elems j d u h1 h2).tyGrow hb, h.r2.tyGrow hb, h.r3.tyGrow hb,
    (hb.block _ (Array.getElem?_eq_some_iff.1 h.res).1).trans h.res, h.bel.trans (hb.mono h.bel.size), h.far, (hb.block _ (Array.getElem?_eq_some_iff.1 h.arg).1).trans h.arg⟩

/-- a list more -/
theorem CpT.stepF {w3 : World} (h : CpT w W ac g a u2 u3 k ps cs j pf cf us) {f : List Int} (hf : a.follow[j]? = some f) {u : Value} (hu : RepM W (Ty w.heap.size W 3) (.s f.length 1 ((f.map (Value.int .i64)).map .v)) u)
    {g3 cap3 : Nat} (hown : w3.ownsRow w.heap.size 24 1 (.slice (some ⟨g3, 0, none⟩) (j + 1) cap3) (j + 1) (us ++ [u])) (hgr : W.grownBy w3 (Value.slice pf j cf).ownBlock) :
    CpT w (w3.setCell ⟨g, 1, none⟩ (.slice (some ⟨g3, 0, none⟩) (j + 1) cap3)) ac g a u2 u3 k ps cs (j + 1) (some ⟨g3, 0, none⟩) cap3 (us ++ [u]) := by
  have hrt := ownsRow_ty h.own
  have hrs := ownsRow_ty h.ownS
  have hne : some g ≠ (Value.slice pf j cf).ownBlock := fun e => by
    have h1 := hrt g e.symm
    rw [tyOf_row h.box] at h1
    cases h1
  have hg3 := (hgr.block g (Array.getElem?_eq_some_iff.1 h.box).1 hne).trans h.box
  have hty3 := tyOf_row hg3
  have hi : ∀ {d : D} {v : Value}, RepM W (Ty w.heap.size W 3) d v → RepM (w3.setCell ⟨g, 1, none⟩ (.slice (some ⟨g3, 0, none⟩) (j + 1) cap3)) (Ty w.heap.size (w3.setCell ⟨g, 1, none⟩ (.slice (some ⟨g3, 0, none⟩) (j + 1) cap3)) 3) d v := fun h =>
    (h.tyGrown hgr (fun b hb => by rw [hrt b hb]; decide)).tySet _ _ (by show tyOf w3 g ≠ _; rw [hty3]; decide)
  have hn : us.length = j := by have := h.own.1; omega
  refine ⟨heap_setCell_same w3 g 1 _ _ _ hg3, ownsRow_block h.ownS fun b hb => ?_, ownsRow_block hown fun b hb => Below.heap_setCell _ _ _ b (fun e => ?_), fun i d x h1 h2 => ?_, hi h.r2, hi h.r3, ?_, ?_, h.far, ?_⟩
  · have h1 := hrs b hb
    rw [Below.heap_setCell _ _ _ b (fun e => by rw [e, tyOf_row h.box] at h1; cases h1), hgr.block b (h.ownS.lt b hb).2 (fun e => by rw [hrt b e.symm] at h1; cases h1)]
  · have h1 := ownsRow_ty hown b hb
    rw [e, hty3] at h1
    cases h1
  · rw [take_succ_of hf] at h1
    have hlk : (a.follow.take j).length = j := by
      have := (List.getElem?_eq_some_iff.1 hf).1
      rw [List.length_take]; omega
    by_cases hj : i < j
    · rw [List.getElem?_append_left (by omega)] at h1 h2
      exact hi (h.elems i d x h1 h2)
    · rw [List.getElem?_append_right (by omega)] at h1 h2
      rw [hlk] at h1
      rw [hn] at h2
      cases hjk : i - j with
      | zero => rw [hjk] at h1 h2; simp at h1 h2; subst h1 h2; exact hi hu
      | succ n => rw [hjk] at h1; simp at h1
  · have hr := (Array.getElem?_eq_some_iff.1 h.res).1
    have hne2 : some (w.heap.size + 1) ≠ (Value.slice pf j cf).ownBlock := fun e => by
      have h1 := hrt _ e.symm
      rw [tyOf_row h.res] at h1
      cases h1
    rw [Below.heap_setCell _ _ _ _ (by have := h.far; show w.heap.size + 1 ≠ g; omega), hgr.block _ hr hne2]
    exact h.res
  · exact (h.bel.grown hgr h.bel.size (fun b hb => (h.own.lt b hb).1)).setCell (p := ⟨g, 1, none⟩) (by have := h.far; show w.heap.size ≤ g; omega) _
  · have hr := (Array.getElem?_eq_some_iff.1 h.arg).1
    have hne2 : some w.heap.size ≠ (Value.slice pf j cf).ownBlock := fun e => by
      have h1 := hrt _ e.symm
      rw [tyOf_row h.arg] at h1
      cases h1
    rw [Below.heap_setCell _ _ _ _ (by have := h.far; show w.heap.size ≠ g; omega), hgr.block _ hr hne2]
    exact h.arg

/-- a set more -/
theorem CpT.stepS {w3 : World} (h : CpT w W ac g a u2 u3 k ps cs j pf cf us) {s : BitVec 256} (hs : a.sets[k]? = some s)
    {g3 cap3 : Nat} (hown : w3.ownsRow w.heap.size 141 256 (.slice (some ⟨g3, 0, none⟩) (k + 1) cap3) (k + 1) (setsWL (a.sets.take k) ++ wordsL s 256)) (hgr : W.grownBy w3 (Value.slice ps k cs).ownBlock) :
    CpT w (w3.setCell ⟨g, 0, none⟩ (.slice (some ⟨g3, 0, none⟩) (k + 1) cap3)) ac g a u2 u3 (k + 1) (some ⟨g3, 0, none⟩) cap3 j pf cf us := by
  have hrt := ownsRow_ty h.own
  have hrs := ownsRow_ty h.ownS
  have hne : some g ≠ (Value.slice ps k cs).ownBlock := fun e => by
    have h1 := hrs g e.symm
    rw [tyOf_row h.box] at h1
    cases h1
  have hg3 := (hgr.block g (Array.getElem?_eq_some_iff.1 h.box).1 hne).trans h.box
  have hty3 := tyOf_row hg3
  have hi : ∀ {d : D} {v : Value}, RepM W (Ty w.heap.size W 3) d v → RepM (w3.setCell ⟨g, 0, none⟩ (.slice (some ⟨g3, 0, none⟩) (k + 1) cap3)) (Ty w.heap.size (w3.setCell ⟨g, 0, none⟩ (.slice (some ⟨g3, 0, none⟩) (k + 1) cap3)) 3) d v := fun h =>
    (h.tyGrown hgr (fun b hb => by rw [hrs b hb]; decide)).tySet _ _ (by show tyOf w3 g ≠ _; rw [hty3]; decide)
  refine ⟨heap_setCell_same w3 g 0 _ _ _ hg3, ?_, ownsRow_block h.own fun b hb => ?_, fun i d x h1 h2 => hi (h.elems i d x h1 h2), hi h.r2, hi h.r3, ?_, ?_, h.far, ?_⟩
  · rw [take_succ_of hs, setsWL_append]
    refine ownsRow_block (by simpa [setsWL] using hown) fun b hb => Below.heap_setCell _ _ _ b (fun e => ?_)
    have h1 := ownsRow_ty hown b hb
    rw [e, hty3] at h1
    cases h1
  · have h1 := hrt b hb
    rw [Below.heap_setCell _ _ _ b (fun e => by rw [e, tyOf_row h.box] at h1; cases h1), hgr.block b (h.own.lt b hb).2 (fun e => by rw [hrs b e.symm] at h1; cases h1)]
  · have hr := (Array.getElem?_eq_some_iff.1 h.res).1
    have hne2 : some (w.heap.size + 1) ≠ (Value.slice ps k cs).ownBlock := fun e => by
      have h1 := hrs _ e.symm
      rw [tyOf_row h.res] at h1
      cases h1
    rw [Below.heap_setCell _ _ _ _ (by have := h.far; show w.heap.size + 1 ≠ g; omega), hgr.block _ hr hne2]
    exact h.res
  · exact (h.bel.grown hgr h.bel.size (fun b hb => (h.ownS.lt b hb).1)).setCell (p := ⟨g, 0, none⟩) (by have := h.far; show w.heap.size ≤ g; omega) _
  · have hr := (Array.getElem?_eq_some_iff.1 h.arg).1
    have hne2 : some w.heap.size ≠ (Value.slice ps k cs).ownBlock := fun e => by
      have h1 := hrs _ e.symm
      rw [tyOf_row h.arg] at h1
      cases h1
    rw [Below.heap_setCell _ _ _ _ (by have := h.far; show w.heap.size ≠ g; omega), hgr.block _ hr hne2]
    exact h.arg
end

/-- an automaton of the reference in memory of its own -/
structure OwnR (B : Nat) (W : World) (a : Auto) (u0 u1 u2 u3 : Value) : Prop where
  r0 : RepM W (Ty B W 141) (.s a.sets.length 256 ((setsWL a.sets).map .v)) u0
  r1 : ∃ us, W.ownsRow B 24 1 u1 a.follow.length us ∧ ∀ (j : Nat) (d : List Int) (u : Value), a.follow[j]? = some d → us[j]? = some u → RepM W (Ty B W 3) (.s d.length 1 ((d.map (Value.int .i64)).map .v)) u
  r2 : RepM W (Ty B W 3) (.s a.first.length 1 ((a.first.map (Value.int .i64)).map .v)) u2
  r3 : RepM W (Ty B W 3) (.s a.last.length 1 ((a.last.map (Value.int .i64)).map .v)) u3
theorem OwnR.move {B : Nat} {W W' : World} {a : Auto} {u0 u1 u2 u3 : Value} (h : OwnR B W a u0 u1 u2 u3) (hw : ∀ b, B ≤ b → b < W.heap.size → tyOf W b ≠ some 79 → W'.heap[b]? = W.heap[b]?) : OwnR B W' a u0 u1 u2 u3 := by
  obtain ⟨us, ho, he⟩ := h.r1
  refine ⟨h.r0.tyMove fun b h1 h2 h3 => hw b h1 h2 (by rw [h3]; decide), ⟨us, ownsRow_block ho fun b hb => hw b (ho.lt b hb).1 (ho.lt b hb).2 (by rw [ownsRow_ty ho b hb]; decide), fun j d u h1 h2 => (he j d u h1 h2).tyMove fun b h1 h2 h3 => hw b h1 h2 (by rw [h3]; decide)⟩,
    h.r2.tyMove fun b h1 h2 h3 => hw b h1 h2 (by rw [h3]; decide), h.r3.tyMove fun b h1 h2 h3 => hw b h1 h2 (by rw [h3]; decide)⟩
theorem OwnR.grow {B : Nat} {W W' : World} {a : Auto} {u0 u1 u2 u3 : Value} (h : OwnR B W a u0 u1 u2 u3) (hb : Below W.heap.size W W') : OwnR B W' a u0 u1 u2 u3 := h.move fun b _ h2 _ => hb.block b h2
theorem CpT.fin {w W : World} {ac : Array Value} {g : Nat} {a : Auto} {u2 u3 : Value} {ps : Option Addr} {c : Nat} {pf : Option Addr} {cf : Nat} {us : List Value} (h : CpT w W ac g a u2 u3 a.sets.length ps c a.follow.length pf cf us) (hn : a.sets.length ≤ 140737488355328) (cs : Array Value) :
    OwnR w.heap.size (W.setRow (w.heap.size + 1) cs) a (.slice ps a.sets.length c) (.slice pf a.follow.length cf) u2 u3 := by
  have hS := h.ownS
  rw [List.take_length] at hS
  have h1 : OwnR w.heap.size W a (.slice ps a.sets.length c) (.slice pf a.follow.length cf) u2 u3 := ⟨RepM.of_owns hS hn (by simp [setsWL_length]) (fun b h1 h2 => ⟨h1, h2⟩) (RepM.vals _), ⟨us, h.own, fun j d u h1 h2 => h.elems j d u (by rw [List.take_length]; exact h1) h2⟩, h.r2, h.r3⟩
  refine h1.move fun b _ _ h3 => setRow_other W _ b _ (fun e => h3 (by rw [e]; exact tyOf_row h.res))
end Go.Proofs.Ytlagablcopmhkaa
/- Automata as data; small. -/
namespace Go.Proofs.Ytlagablcopmhkaa
open Go.RowKit

def dSets (l : List (BitVec 256)) : D := .s l.length 4 ((setsU l).map .v)
def dLists (f : List (List Int)) : D := .s f.length 1 (f.map dI)
def dSetsW (l : List (BitVec 256)) : D := .s l.length 256 ((setsWL l).map .v)
@[reducible] def cellsA (a : Auto) : List V := [.d (dSets a.sets), .d (dLists a.follow), .d (dI a.first), .d (dI a.last), .b a.empty]
@[reducible] def cellsR (a : Auto) : List V := [.d (dSetsW a.sets), .d (dLists a.follow), .d (dI a.first), .d (dI a.last), .b a.empty]
theorem dI_at {l : List Int} {k : Nat} {x : Int} (h : l[k]? = some x) : (l.map fun x => D.v (.int .i64 x))[k * 1]? = some (.v (.int .i64 x)) := by simp [h]
theorem dL_at {l : List (List Int)} {k : Nat} {x : List Int} (h : l[k]? = some x) : (l.map dI)[k * 1]? = some (dI x) := by simp [h]
/-- no list is longer than memory -/
structure Bd (a : Auto) : Prop where
  s : a.sets.length ≤ 140737488355328
  f : a.follow.length ≤ 140737488355328
  i : a.first.length ≤ 140737488355328
  l : a.last.length ≤ 140737488355328
  e : ∀ x ∈ a.follow, x.length ≤ 140737488355328

def sumL (f : List (List Int)) : Int := (f.map fun x => (x.length : Int)).sum
def smallA (a : Auto) (most numbers : Int) : Bool :=
  decide ((a.sets.length : Int) ≤ most) && decide ((a.follow.length : Int) ≤ most) && decide ((a.first.length : Int) + a.last.length + sumL (a.follow.take (min a.follow.length (most + 1).toNat)) ≤ numbers)
theorem sumL_bd (f : List (List Int)) (h : ∀ x ∈ f, x.length ≤ 140737488355328) : 0 ≤ sumL f ∧ sumL f ≤ 140737488355328 * f.length := by
  induction f with
  | nil => simp [sumL]
  | cons x f ih =>
    have h1 := h x (by simp)
    obtain ⟨i1, i2⟩ := ih fun y hy => h y (by simp [hy])
    unfold sumL at *
    simp only [List.map_cons, List.sum_cons, List.length_cons]
    omega
theorem sumL_succ {f : List (List Int)} {k : Nat} {x : List Int} (h : f[k]? = some x) : sumL (f.take (k + 1)) = sumL (f.take k) + x.length := by
  rw [take_succ_of h]; simp [sumL]

set_option maxRecDepth 100000 in
set_option maxHeartbeats 1000000 in
theorem small_a (a : Auto) (hB : Bd a) : AC Try.prog 10 [.a (cellsA a), .i 60, .i 1000] [] fun r L' => r = .b (smallA a 60 1000) ∧ L' = [] := by
  obtain ⟨h1, h2, h3, h4, h5⟩ := hB
  refine ac_body _ Try.func10 rfl Try.ntmps10 Try.results10 rfl ?_
  refine aw_seq (aw_region ?_)
  refine aos_cons rfl (aop_box_a rfl rfl rfl rfl ?_)
  intro b
  (repeat (first | refine aos_nil ?_ | ((refine aos_cons rfl ?_); (first | refine qd rfl rfl ?_ | refine gl rfl rfl rfl (by repeat first | exact .z | apply At.s) (by rfl) ?_ | refine aop_fieldAddr rfl rfl rfl ?_ | refine ga rfl rfl rfl rfl rfl (by omega) (by omega) ?_ | refine gn0 rfl rfl rfl ?_ | refine aop_min rfl rfl rfl rfl ?_); show AOs _ _ _ _ ((_, _) :: _) _ _) | refine aw_seq ?_ | refine aw_region ?_))
  obtain ⟨N, hN⟩ : ∃ N, N = min a.follow.length 61 := ⟨_, rfl⟩
  refine aos_cons rfl (aop_slice_hi rfl rfl rfl rfl N (by omega) (by omega) ?_)
  (repeat (first | refine aos_nil ?_ | ((refine aos_cons rfl ?_); (first | refine qd rfl rfl ?_ | refine gn0 rfl rfl rfl ?_); show AOs _ _ _ _ ((_, _) :: _) _ _) | refine aw_block ?_))
  refine aw_for (ι := Nat × Int) (fun i => [(1, V.i 60), (2, V.i 1000), (3, V.ptr b 0), (7, V.i i.2), (25, V.d (.s N 1 ((a.follow.map dI).take N))), (26, V.i N), (27, V.i i.1)]) (fun _ => [.box b 26 (cellsA a)])
    (fun i => i.1 ≤ N ∧ i.2 = (a.first.length : Int) + a.last.length + sumL (a.follow.take i.1)) (fun i => N - i.1) (0, (a.first.length : Int) + a.last.length) ⟨Nat.zero_le _, by simp [sumL]⟩ (.eqs rfl) ?_
  rintro ⟨k, s⟩ ⟨hk, hs⟩
  simp only at hk hs
  (repeat (first | refine aos_nil ?_ | ((refine aos_cons rfl ?_); (refine gc rfl rfl rfl rfl rfl _ (by rfl) ?_); show AOs _ _ _ _ ((_, _) :: _) _ _) | refine aw_seq ?_ | refine aw_region ?_))
  by_cases hlt : k < N
  · have hd : decide ((k : Int) < (N : Int)) = true := by simp; omega
    rw [hd]
    obtain ⟨x, hx⟩ := some_at (show k < a.follow.length by omega)
    have hx2 : ((a.follow.map dI).take N)[k * 1]? = some (dI x) := by rw [List.getElem?_take, if_pos (by omega)]; exact dL_at hx
    have hxl := h5 x (List.mem_of_getElem? hx)
    have hb1 := sumL_bd (a.follow.take k) fun y hy => h5 y (List.mem_of_mem_take hy)
    have hb2 : (a.follow.take k).length ≤ 61 := by rw [List.length_take]; omega
    have hsc := sumL_succ hx
    (repeat (first | ((refine aos_cons rfl ?_); (refine aop_index rfl rfl rfl rfl _ rfl (by omega) ?_); show AOs _ _ _ _ ((_, _) :: _) _ _) | refine aw_seq ?_ | refine aw_region ?_ | refine aw_block ?_ | refine aw_skip ?_ | refine aw_cond true rfl ?_))
    refine aos_cons rfl (aop_load_e rfl rfl rfl hx2 ?_)
    (repeat (first | refine aos_nil ?_ | ((refine aos_cons rfl ?_); (first | refine qd rfl rfl ?_ | refine ga rfl rfl rfl rfl rfl (by omega) (by omega) ?_ | refine gn0 rfl rfl rfl ?_); show AOs _ _ _ _ ((_, _) :: _) _ _) | refine aw_region ?_))
    exact ⟨(k + 1, s + x.length), ⟨by simp only; omega, by simp only; omega⟩, by simp only; omega, .eqs rfl⟩
  · have hd : decide ((k : Int) < (N : Int)) = false := by simp; omega
    rw [hd]
    obtain rfl : k = N := by omega
    subst hs
    have hsm : smallA a 60 1000 = (decide ((a.sets.length : Int) ≤ 60) && decide ((a.follow.length : Int) ≤ 60) && decide ((a.first.length : Int) + a.last.length + sumL (a.follow.take k) ≤ 1000)) := by
      rw [smallA, hN]; rfl
    (repeat (first | ((refine aos_cons rfl ?_); (first | refine qd rfl rfl ?_ | refine gl rfl rfl rfl (by repeat first | exact .z | apply At.s) (by rfl) ?_ | refine aop_fieldAddr rfl rfl rfl ?_ | refine gc rfl rfl rfl rfl rfl _ (by first | assumption | rfl) ?_ | refine gn0 rfl rfl rfl ?_); show AOs _ _ _ _ ((_, _) :: _) _ _) | refine aw_seq ?_ | refine aw_region ?_ | refine aw_exit ?_ | refine aw_cond false rfl ?_))
    cases hA : decide ((a.sets.length : Int) ≤ 60)
    · (repeat (first | refine aos_nil ?_ | refine aos_no rfl rfl rfl rfl rfl ?_ | ((refine aos_cons rfl ?_); (refine qd rfl rfl ?_); show AOs _ _ _ _ ((_, _) :: _) _ _) | refine aw_ret ?_))
      exact fpost0 (.inr rfl) (res_tmp 6) (by show V.b _ = V.b _; rw [hsm, hA]; rfl)
    · (repeat (((first | refine aos_cons rfl ?_ | refine aos_yes rfl rfl rfl ?_); (first | refine qd rfl rfl ?_ | refine gl rfl rfl rfl (by repeat first | exact .z | apply At.s) (by rfl) ?_ | refine aop_fieldAddr rfl rfl rfl ?_ | refine gc rfl rfl rfl rfl rfl _ (by first | assumption | rfl) ?_ | refine gn0 rfl rfl rfl ?_); show AOs _ _ _ _ ((_, _) :: _) _ _)))
      cases hB : decide ((a.follow.length : Int) ≤ 60)
      · (repeat (first | refine aos_nil ?_ | refine aos_no rfl rfl rfl rfl rfl ?_ | ((refine aos_cons rfl ?_); (refine qd rfl rfl ?_); show AOs _ _ _ _ ((_, _) :: _) _ _) | refine aw_ret ?_))
        exact fpost0 (.inr rfl) (res_tmp 6) (by show V.b _ = V.b _; rw [hsm, hA, hB]; rfl)
      · (repeat (first | refine aos_nil ?_ | ((first | refine aos_cons rfl ?_ | refine aos_yes rfl rfl rfl ?_); (first | refine qd rfl rfl ?_ | refine gc rfl rfl rfl rfl rfl _ (by rfl) ?_); show AOs _ _ _ _ ((_, _) :: _) _ _) | refine aw_ret ?_))
        exact fpost0 (.inr rfl) (res_tmp 6) (by show V.b _ = V.b _; rw [hsm, hA, hB]; rfl)
end Go.Proofs.Ytlagablcopmhkaa
/- A slice literal of one element of many cells. -/
namespace Go.Proofs.Ytlagablcopmhkaa
open Go.RowKit

theorem foldl_fill : ∀ (l : List Value) (k : Nat) (cs : Array Value), cs.size = k + l.length → (l.zipIdx k).foldl (fun (cs : Array Value) (p : Value × Nat) => cs.setIfInBounds p.2 p.1) cs = (cs.toList.take k ++ l).toArray := by
  intro l
  induction l with
  | nil =>
    intro k cs h
    have h2 : cs.toList.length = k := by simpa using h
    simp [List.take_of_length_le (Nat.le_of_eq h2)]
  | cons x l ih =>
    intro k cs h
    rw [List.zipIdx_cons, List.foldl_cons, ih (k + 1) _ (by simp at h ⊢; omega)]
    have hk : k < cs.toList.length := by simp at h ⊢; omega
    congr 1
    simp only [Array.toList_setIfInBounds]
    rw [List.take_succ_eq_append_getElem (by simpa using hk), List.take_set_of_le (Nat.le_refl _)]
    simp
theorem fill_one (cells : Array Value) (ws : Array Value) (n : Nat) (h1 : ws.size = n) (h2 : cells.size = n) : Instr.fill (fun i => some (i * n, n)) cells [(0, .agg ws)] = some ws := by
  have hc : (Value.agg ws).cells = ws := rfl
  simp only [Instr.fill, hc]
  rw [if_neg (by simp [h1, h2])]
  have := foldl_fill ws.toList 0 cells (by rw [h2, Nat.zero_add, Array.length_toList, h1])
  rw [← Array.foldl_toList, Array.toList_zipIdx]
  simp only [Nat.zero_mul, Nat.zero_add]
  simpa using this
end Go.Proofs.Ytlagablcopmhkaa
