/- Packed: Theirs, Same, AlConv -/
import Derived.Test.YtlagablcopmhkaaKRowRuns10
import Derived.Test.YtlagablcopmhkaaKRowRuns11
set_option linter.unusedVariables false
set_option linter.unusedSimpArgs false
/- reparteelaw17.theirs. -/
namespace Go.Proofs.Ytlagablcopmhkaa
open Go.RowKit

set_option linter.unusedSimpArgs false in
set_option maxRecDepth 100000 in
set_option maxHeartbeats 4000000 in
theorem theirs_any {S : Nat → Prop} (a : Auto) (v0 v1 v2 v3 : Value) (w : World) (hR : RepA w S a v0 v1 v2 v3) (h0 : a.sets.length ≤ 1000000) (h1 : a.follow.length ≤ 1000000) (h2 : a.first.length ≤ 1000000) (h3 : a.last.length ≤ 1000000) (h4 : ∀ f ∈ a.follow, f.length ≤ 1000000) :
    Calls Try.prog 43 #[.agg (autoC a v0 v1 v2 v3)] w fun e w' => ∃ u0 u1 u2 u3, e = .returned (.agg (autoC a u0 u1 u2 u3)) ∧ OwnR w.heap.size w' a u0 u1 u2 u3 ∧ Below w.heap.size w w' := by
  obtain ⟨p0, q0, rfl, hm0, hc0, hx0, hat0⟩ := hR.sets.at
  obtain ⟨p1, q1, rfl, hm1, hc1, hx1, hat1⟩ := hR.follow.at
  obtain ⟨p2, q2, rfl⟩ := hR.first.intsShape
  obtain ⟨p3, q3, rfl⟩ := hR.last.intsShape
  have hbx := BoxA.new w a (.slice p0 a.sets.length q0) (.slice p1 a.follow.length q1) (.slice p2 a.first.length q2) (.slice p3 a.last.length q3) 26
  have hb0 : Below w.heap.size w (w.alloc (.cells (autoC a (.slice p0 a.sets.length q0) (.slice p1 a.follow.length q1) (.slice p2 a.first.length q2) (.slice p3 a.last.length q3)) 26)) := (Below.refl _ w).alloc (Nat.le_refl _) _
  obtain ⟨i0, hi, hz, hi1, hi2⟩ := Try.infoL
  obtain ⟨iW, hiW, ⟨zW, hzW, hzsW⟩, hiW1, hiW2⟩ := Try.infoW
  go_enter Try.func43, Try.ntmps43
  go_wp2_with fail
  have hbx2 := hbx.below ((Below.refl _ _).alloc (Nat.le_refl _) (.cells #[.slice none 0 0, .slice none 0 0, .slice none 0 0, .slice none 0 0, .bool false] 79))
  have hsz : w.heap.size ≤ ((w.alloc (.cells (autoC a (.slice p0 a.sets.length q0) (.slice p1 a.follow.length q1) (.slice p2 a.first.length q2) (.slice p3 a.last.length q3)) 26)).alloc (.cells #[.slice none 0 0, .slice none 0 0, .slice none 0 0, .slice none 0 0, .bool false] 79)).heap.size := by simp; omega
  have hsz2 : w.heap.size + 2 ≤ ((w.alloc (.cells (autoC a (.slice p0 a.sets.length q0) (.slice p1 a.follow.length q1) (.slice p2 a.first.length q2) (.slice p3 a.last.length q3)) 26)).alloc (.cells #[.slice none 0 0, .slice none 0 0, .slice none 0 0, .slice none 0 0, .bool false] 79)).heap.size := by simp
  have hlt2 : w.heap.size + 1 < ((w.alloc (.cells (autoC a (.slice p0 a.sets.length q0) (.slice p1 a.follow.length q1) (.slice p2 a.first.length q2) (.slice p3 a.last.length q3)) 26)).alloc (.cells #[.slice none 0 0, .slice none 0 0, .slice none 0 0, .slice none 0 0, .bool false] 79)).heap.size := by simp
  have hres0 := heap_alloc2_new w (.cells (autoC a (.slice p0 a.sets.length q0) (.slice p1 a.follow.length q1) (.slice p2 a.first.length q2) (.slice p3 a.last.length q3)) 26) (.cells #[.slice none 0 0, .slice none 0 0, .slice none 0 0, .slice none 0 0, .bool false] 79)
  have harg0 := (Below.heap_alloc (w.alloc (.cells (autoC a (.slice p0 a.sets.length q0) (.slice p1 a.follow.length q1) (.slice p2 a.first.length q2) (.slice p3 a.last.length q3)) 26)) (.cells #[.slice none 0 0, .slice none 0 0, .slice none 0 0, .slice none 0 0, .bool false] 79) w.heap.size (by simp)).trans (heap_alloc_new w _)
  have hb2w := hb0.trans ((((Below.refl _ _).alloc (Nat.le_refl _) (.cells #[.slice none 0 0, .slice none 0 0, .slice none 0 0, .slice none 0 0, .bool false] 79))).mono hb0.size)
  have hR2 := (hR.grow hb0).grow ((Below.refl _ _).alloc (Nat.le_refl _) (.cells #[.slice none 0 0, .slice none 0 0, .slice none 0 0, .slice none 0 0, .bool false] 79))
  refine' region_lit (by kernel_rfl) _ ?mk [(fun v _ => v = .pointer (some ⟨w.heap.size, 2, none⟩)),
    (fun v _ => v = .slice p2 a.first.length q2),
    (fun v W => RepM W (Ty w.heap.size W 3) (.s a.first.length 1 ((a.first.map (Value.int .i64)).map .v)) v),
    (fun v _ => v = .pointer (some ⟨w.heap.size, 3, none⟩)),
    (fun v _ => v = .slice p3 a.last.length q3),
    (fun v W => RepM W (Ty w.heap.size W 3) (.s a.last.length 1 ((a.last.map (Value.int .i64)).map .v)) v),
    (fun v _ => v = .pointer (some ⟨w.heap.size, 4, none⟩)),
    (fun v _ => v = .bool a.empty),
    (fun v W => ∃ u2 u3, v = .agg #[.slice none 0 0, .slice none 0 0, u2, u3, .bool a.empty] ∧ RepM W (Ty w.heap.size W 3) (.s a.first.length 1 ((a.first.map (Value.int .i64)).map .v)) u2 ∧ RepM W (Ty w.heap.size W 3) (.s a.last.length 1 ((a.last.map (Value.int .i64)).map .v)) u3),
    (fun v W => ∃ g, v = .pointer (some ⟨g, 0, none⟩) ∧ w.heap.size + 2 ≤ g ∧ W.heap[g]? = some (.cells #[.slice none 0 0, .slice none 0 0, .slice none 0 0, .slice none 0 0, .bool false] 79 (0, 0)))] (by kernel_rfl) rfl ?steps ?last
  case mk =>
    intro xs
    simp only [layL, List.setIfInBounds_toArray, List.set_cons_succ, List.set_cons_zero, Nat.reduceAdd]
    exact rfl
  case steps =>
    refine ⟨?s0, ?s1, ?s2, ?s3, ?s4, ?s5, ?s6, ?s7, ?s8, ?s9, trivial⟩
    case s0 =>
      refine step_plain rfl [] rfl ?_
      intro xs W hb hd K hK
      replace hK := fun v w' h1 h2 => hK.out v w' h1 h2
      simp only [Act.put, List.setIfInBounds_toArray, List.set_cons_succ, List.set_cons_zero] at hK
      have HK := Lib.hid hK; clear hK
      obtain ⟨c0, c1, c2, c3, c4⟩ := hbx2.below hb
      go_simp
      exact HK.out _ _ (Below.refl _ _) (stands_eq _ _)
    case s1 =>
      refine step_plain rfl [0] rfl ?_
      intro xs W hb hd K hK
      have e0 := hd.1.now
      clear hd
      change ((fun v _ => v = .pointer (some ⟨w.heap.size, 2, none⟩))) (xs 0) W at e0
      replace e0 : xs 0 = _ := e0
      replace hK := fun v w' h1 h2 => hK.out v w' h1 h2
      simp only [Act.put, List.setIfInBounds_toArray, List.set_cons_succ, List.set_cons_zero] at hK
      rw [e0] at hK ⊢
      have HK := Lib.hid hK; clear hK
      obtain ⟨c0, c1, c2, c3, c4⟩ := hbx2.below hb
      go_simp
      exact HK.out _ _ (Below.refl _ _) (stands_eq _ _)
    case s2 =>
      refine step_plain rfl [1] rfl ?_
      intro xs W hb hd K hK
      have e1 := hd.1.now
      clear hd
      change ((fun v _ => v = .slice p2 a.first.length q2)) (xs 1) W at e1
      replace e1 : xs 1 = _ := e1
      replace hK := fun v w' h1 h2 => hK.out v w' h1 h2
      simp only [Act.put, List.setIfInBounds_toArray, List.set_cons_succ, List.set_cons_zero] at hK
      rw [e1] at hK ⊢
      have HK := Lib.hid hK; clear hK
      have hwW : w.heap.size ≤ W.heap.size := Nat.le_trans hsz hb.size
      go_simp
      go_at_call 44; refine (cloneI_any a.first.length (a.first.map (Value.int .i64)) _ _ (dI_flat ▸ (hR2.grow hb).first) (intsV_one _) h2).mono ?_; rintro e w1 ⟨v', rfl, hv, hb1⟩
      exact HK.out _ _ hb1 (fun w2 hb2 => (hv.tyBase hwW).tyGrow hb2)
    case s3 =>
      refine step_plain rfl [] rfl ?_
      intro xs W hb hd K hK
      replace hK := fun v w' h1 h2 => hK.out v w' h1 h2
      simp only [Act.put, List.setIfInBounds_toArray, List.set_cons_succ, List.set_cons_zero] at hK
      have HK := Lib.hid hK; clear hK
      obtain ⟨c0, c1, c2, c3, c4⟩ := hbx2.below hb
      go_simp
      exact HK.out _ _ (Below.refl _ _) (stands_eq _ _)
    case s4 =>
      refine step_plain rfl [3] rfl ?_
      intro xs W hb hd K hK
      have e3 := hd.1.now
      clear hd
      change ((fun v _ => v = .pointer (some ⟨w.heap.size, 3, none⟩))) (xs 3) W at e3
      replace e3 : xs 3 = _ := e3
      replace hK := fun v w' h1 h2 => hK.out v w' h1 h2
      simp only [Act.put, List.setIfInBounds_toArray, List.set_cons_succ, List.set_cons_zero] at hK
      rw [e3] at hK ⊢
      have HK := Lib.hid hK; clear hK
      obtain ⟨c0, c1, c2, c3, c4⟩ := hbx2.below hb
      go_simp
      exact HK.out _ _ (Below.refl _ _) (stands_eq _ _)
    case s5 =>
      refine step_plain rfl [4] rfl ?_
      intro xs W hb hd K hK
      have e4 := hd.1.now
      clear hd
      change ((fun v _ => v = .slice p3 a.last.length q3)) (xs 4) W at e4
      replace e4 : xs 4 = _ := e4
      replace hK := fun v w' h1 h2 => hK.out v w' h1 h2
      simp only [Act.put, List.setIfInBounds_toArray, List.set_cons_succ, List.set_cons_zero] at hK
      rw [e4] at hK ⊢
      have HK := Lib.hid hK; clear hK
      have hwW : w.heap.size ≤ W.heap.size := Nat.le_trans hsz hb.size
      go_simp
      go_at_call 44; refine (cloneI_any a.last.length (a.last.map (Value.int .i64)) _ _ (dI_flat ▸ (hR2.grow hb).last) (intsV_one _) h3).mono ?_; rintro e w1 ⟨v', rfl, hv, hb1⟩
      exact HK.out _ _ hb1 (fun w2 hb2 => (hv.tyBase hwW).tyGrow hb2)
    case s6 =>
      refine step_plain rfl [] rfl ?_
      intro xs W hb hd K hK
      replace hK := fun v w' h1 h2 => hK.out v w' h1 h2
      simp only [Act.put, List.setIfInBounds_toArray, List.set_cons_succ, List.set_cons_zero] at hK
      have HK := Lib.hid hK; clear hK
      obtain ⟨c0, c1, c2, c3, c4⟩ := hbx2.below hb
      go_simp
      exact HK.out _ _ (Below.refl _ _) (stands_eq _ _)
    case s7 =>
      refine step_plain rfl [6] rfl ?_
      intro xs W hb hd K hK
      have e6 := hd.1.now
      clear hd
      change ((fun v _ => v = .pointer (some ⟨w.heap.size, 4, none⟩))) (xs 6) W at e6
      replace e6 : xs 6 = _ := e6
      replace hK := fun v w' h1 h2 => hK.out v w' h1 h2
      simp only [Act.put, List.setIfInBounds_toArray, List.set_cons_succ, List.set_cons_zero] at hK
      rw [e6] at hK ⊢
      have HK := Lib.hid hK; clear hK
      obtain ⟨c0, c1, c2, c3, c4⟩ := hbx2.below hb
      go_simp
      exact HK.out _ _ (Below.refl _ _) (stands_eq _ _)
    case s8 =>
      refine step_plain rfl [2, 5, 7] rfl ?_
      intro xs W hb hd K hK
      have e2 := hd.1.now
      have e5 := hd.2.1.now
      have e7 := hd.2.2.1.now
      clear hd
      change ((fun v W => RepM W (Ty w.heap.size W 3) (.s a.first.length 1 ((a.first.map (Value.int .i64)).map .v)) v)) (xs 2) W at e2
      change ((fun v W => RepM W (Ty w.heap.size W 3) (.s a.last.length 1 ((a.last.map (Value.int .i64)).map .v)) v)) (xs 5) W at e5
      change ((fun v _ => v = .bool a.empty)) (xs 7) W at e7
      replace e7 : xs 7 = _ := e7
      replace hK := fun v w' h1 h2 => hK.out v w' h1 h2
      simp only [Act.put, List.setIfInBounds_toArray, List.set_cons_succ, List.set_cons_zero] at hK
      rw [e7] at hK ⊢
      have HK := Lib.hid hK; clear hK
      generalize xs 2 = y2 at *
      generalize xs 5 = y5 at *
      replace e2 : RepM W (Ty w.heap.size W 3) (.s a.first.length 1 ((a.first.map (Value.int .i64)).map .v)) y2 := e2
      replace e5 : RepM W (Ty w.heap.size W 3) (.s a.last.length 1 ((a.last.map (Value.int .i64)).map .v)) y5 := e5
      obtain ⟨a2, b2, rfl⟩ := e2.shape
      obtain ⟨a5, b5, rfl⟩ := e5.shape
      go_simp
      exact HK.out _ _ (Below.refl _ _) (fun w2 hb2 => ⟨_, _, rfl, e2.tyGrow hb2, e5.tyGrow hb2⟩)
    case s9 =>
      refine step_plain rfl [] rfl ?_
      intro xs W hb hd K hK
      replace hK := fun v w' h1 h2 => hK.out v w' h1 h2
      simp only [Act.put, List.setIfInBounds_toArray, List.set_cons_succ, List.set_cons_zero] at hK
      have HK := Lib.hid hK; clear hK
      go_simp
      exact HK.out _ _ ((Below.refl _ _).alloc (Nat.le_refl _) _) (fun w2 hb2 => ⟨_, rfl, Nat.le_trans hsz2 hb.size, (hb2.block _ (by simp)).trans (heap_alloc_new W _)⟩)
  case last =>
    intro xs W hb hd
    refine tail_one _ rfl rfl ?_
    have e8 := (needs_sub hd 8 (by simp)).now
    have e9 := (needs_sub hd 9 (by simp)).now
    clear hd
    generalize xs 8 = y8 at *
    generalize xs 9 = y9 at *
    obtain ⟨u2, u3, rfl, r2, r3⟩ := e8
    obtain ⟨g, rfl, hg1, hg2⟩ := e9
    obtain ⟨a2, b2, rfl⟩ := r2.shape
    obtain ⟨a3, b3, rfl⟩ := r3.shape
    refine wp_store_row 79 _ _ rfl g #[.slice none 0 0, .slice none 0 0, .slice a2 a.first.length b2, .slice a3 a.last.length b3, .bool a.empty] rfl rfl 79 _ hg2 (by kernel_rfl) rfl (by simp [Value.oneCell']) ?_
    have hbx3 := hbx2.below hb
    have hres := (hb.block _ hlt2).trans hres0
    have hbel := below_setRow (hb2w.trans (hb.mono hsz)) (g := g) (by omega) #[.slice none 0 0, .slice none 0 0, .slice a2 a.first.length b2, .slice a3 a.last.length b3, .bool a.empty]
    have hg3 := setRow_heap W g _ #[.slice none 0 0, .slice none 0 0, .slice a2 a.first.length b2, .slice a3 a.last.length b3, .bool a.empty] _ _ hg2
    have hty := tyOf_row hg2
    have hsame : ∀ b, b ≠ g → (W.setRow g #[.slice none 0 0, .slice none 0 0, .slice a2 a.first.length b2, .slice a3 a.last.length b3, .bool a.empty]).heap[b]? = W.heap[b]? := fun b hb => setRow_other W g b _ hb
    have r2' := r2.tyMove (w' := W.setRow g #[.slice none 0 0, .slice none 0 0, .slice a2 a.first.length b2, .slice a3 a.last.length b3, .bool a.empty]) (fun b _ _ ht => hsame b (by rintro rfl; rw [hty] at ht; cases ht))
    have r3' := r3.tyMove (w' := W.setRow g #[.slice none 0 0, .slice none 0 0, .slice a2 a.first.length b2, .slice a3 a.last.length b3, .bool a.empty]) (fun b _ _ ht => hsame b (by rintro rfl; rw [hty] at ht; cases ht))
    have hbx4 := hbx3.move (hsame w.heap.size (by omega))
    have hres2 := (hsame (w.heap.size + 1) (by omega)).trans hres
    have harg2 := (hsame w.heap.size (by omega)).trans ((hb.block _ (by omega)).trans harg0)
    generalize xs 0 = x0, xs 1 = x1, xs 3 = x3, xs 4 = x4, xs 6 = x6, xs 7 = x7, xs 2 = x2, xs 5 = x5
    simp only [Act.put, Exit.then]
    generalize W.setRow g #[.slice none 0 0, .slice none 0 0, .slice a2 a.first.length b2, .slice a3 a.last.length b3, .bool a.empty] = W1 at *
    clear hbx3 hres hsame hty r2 r3 hb hg2 hbx2 hR2 hbx hb0 hb2w hres0 hlt2 hsz hsz2
    obtain ⟨c0, c1, c2, c3, c4⟩ := hbx4
    go_wp2
    have hI0 : CpT w W1 (autoC a (.slice p0 a.sets.length q0) (.slice p1 a.follow.length q1) (.slice p2 a.first.length q2) (.slice p3 a.last.length q3)) g a (.slice a2 a.first.length b2) (.slice a3 a.last.length b3) 0 none 0 0 none 0 [] := ⟨hg3, World.ownsRow_nil _ _ _ _, World.ownsRow_nil _ _ _ _, (fun j d u h => by simp at h), r2', r3', hres2, hbel, hg1, harg2⟩
    clear hg3 r2' r3' hres2 c0 c1 c2 c3 c4 hbel hg1 harg2
    go_loopw [20] (fun i W => ∃ (k : Nat) (ps : Option Addr) (cs : Nat), k ≤ a.sets.length ∧ i = .int .i64 k ∧ CpT w W (autoC a (.slice p0 a.sets.length q0) (.slice p1 a.follow.length q1) (.slice p2 a.first.length q2) (.slice p3 a.last.length q3)) g a (.slice a2 a.first.length b2) (.slice a3 a.last.length b3) k ps cs 0 none 0 []) (fun i _ => a.sets.length - (intOf i).toNat)
    case atStart => exact ⟨0, none, 0, by omega, rfl, hI0⟩
    case round =>
      clear hI0
      obtain ⟨k, ps, cs, hk, rfl, hI⟩ := hrel
      have hbw := hI.bel
      by_cases hlt : k < a.sets.length
      · obtain ⟨s, hs⟩ := some_at hlt
        obtain ⟨bs, os, rfl, hSs, hbs, hA⟩ := hat0 k s hs
        obtain ⟨s0, s1, s2, s3⟩ := hA.move (hbw.block bs hbs)
        have HS := Lib.hid hs
        clear hs hat0 hat1 hA hSs
        go_wp2
        have hI1 := hI.grow ((Below.refl _ _).alloc (Nat.le_refl _) (.cells #[.int .u64 (word s 0), .int .u64 (word s 1), .int .u64 (word s 2), .int .u64 (word s 3)] 38))
        have hsx := heap_alloc_new wr (.cells #[.int .u64 (word s 0), .int .u64 (word s 1), .int .u64 (word s 2), .int .u64 (word s 3)] 38)
        have hslt : wr.heap.size < (wr.alloc (.cells #[.int .u64 (word s 0), .int .u64 (word s 1), .int .u64 (word s 2), .int .u64 (word s 3)] 38)).heap.size := by simp
        have hsA : SetAt (wr.alloc (.cells #[.int .u64 (word s 0), .int .u64 (word s 1), .int .u64 (word s 2), .int .u64 (word s 3)] 38)) wr.heap.size 0 s := by
          refine ⟨?_, ?_, ?_, ?_⟩ <;> (rw [cell_of_row _ _ _ _ _ _ hsx]; rfl)
        have hglt := (Array.getElem?_eq_some_iff.1 hI1.box).1
        have hgc1 : (wr.alloc (.cells #[.int .u64 (word s 0), .int .u64 (word s 1), .int .u64 (word s 2), .int .u64 (word s 3)] 38)).cell? ⟨g, 0, none⟩ = some (.slice ps k cs) := by rw [cell_of_row _ _ 0 _ _ _ hI1.box]; rfl
        clear s0 s1 s2 s3
        refine' region_lit (by kernel_rfl) _ ?mk [(fun v _ => v = .pointer (some ⟨g, 0, none⟩)),
    (fun v _ => v = .slice ps k cs),
    (fun v _ => v = .agg (setC s)),
    (fun v _ => v = .agg (wordsC s)),
    (fun v W => ∃ gb, v = .slice (some ⟨gb, 0, none⟩) 1 1 ∧ W.heap[gb]? = some (.cells (wordsC s) 141 (0, 0)))] (by kernel_rfl) rfl ?steps ?last
        case mk =>
          intro xs
          simp only [layL, List.setIfInBounds_toArray, List.set_cons_succ, List.set_cons_zero, Nat.reduceAdd]
          exact rfl
        case steps =>
          refine ⟨?s0, ?s1, ?s2, ?s3, ?s4, trivial⟩
          case s0 =>
            refine step_plain rfl [] rfl ?_
            intro xs W hb hd K hK
            replace hK := fun v w' h1 h2 => hK.out v w' h1 h2
            simp only [Act.put, List.setIfInBounds_toArray, List.set_cons_succ, List.set_cons_zero] at hK
            have HK := Lib.hid hK; clear hK
            have g1 := (hb.cell (p := ⟨g, 0, none⟩) hglt).trans hgc1
            obtain ⟨s0, s1, s2, s3⟩ := hsA.move (hb.block _ hslt)
            go_simp
            exact HK.out _ _ (Below.refl _ _) (stands_eq _ _)
          case s1 =>
            refine step_plain rfl [0] rfl ?_
            intro xs W hb hd K hK
            have e0 := hd.1.now
            clear hd
            change ((fun v _ => v = .pointer (some ⟨g, 0, none⟩))) (xs 0) W at e0
            replace e0 : xs 0 = _ := e0
            replace hK := fun v w' h1 h2 => hK.out v w' h1 h2
            simp only [Act.put, List.setIfInBounds_toArray, List.set_cons_succ, List.set_cons_zero] at hK
            rw [e0] at hK ⊢
            have HK := Lib.hid hK; clear hK
            have g1 := (hb.cell (p := ⟨g, 0, none⟩) hglt).trans hgc1
            obtain ⟨s0, s1, s2, s3⟩ := hsA.move (hb.block _ hslt)
            go_simp
            exact HK.out _ _ (Below.refl _ _) (stands_eq _ _)
          case s2 =>
            refine step_plain rfl [] rfl ?_
            intro xs W hb hd K hK
            replace hK := fun v w' h1 h2 => hK.out v w' h1 h2
            simp only [Act.put, List.setIfInBounds_toArray, List.set_cons_succ, List.set_cons_zero] at hK
            have HK := Lib.hid hK; clear hK
            have g1 := (hb.cell (p := ⟨g, 0, none⟩) hglt).trans hgc1
            obtain ⟨s0, s1, s2, s3⟩ := hsA.move (hb.block _ hslt)
            go_simp
            exact HK.out _ _ (Below.refl _ _) (stands_eq _ _)
          case s3 =>
            refine step_plain rfl [2] rfl ?_
            intro xs W hb hd K hK
            have e2 := hd.1.now
            clear hd
            change ((fun v _ => v = .agg (setC s))) (xs 2) W at e2
            replace e2 : xs 2 = _ := e2
            replace hK := fun v w' h1 h2 => hK.out v w' h1 h2
            simp only [Act.put, List.setIfInBounds_toArray, List.set_cons_succ, List.set_cons_zero] at hK
            rw [e2] at hK ⊢
            have HK := Lib.hid hK; clear hK
            go_simp
            go_at_call 99; refine (words_any s _).mono ?_; rintro e w1 ⟨rfl, hb1⟩
            exact HK.out _ _ hb1 (stands_eq _ _)
          case s4 =>
            refine step_plain rfl [3] rfl ?_
            intro xs W hb hd K hK
            have e3 := hd.1.now
            clear hd
            change ((fun v _ => v = .agg (wordsC s))) (xs 3) W at e3
            replace e3 : xs 3 = _ := e3
            replace hK := fun v w' h1 h2 => hK.out v w' h1 h2
            simp only [Act.put, List.setIfInBounds_toArray, List.set_cons_succ, List.set_cons_zero] at hK
            rw [e3] at hK ⊢
            have HK := Lib.hid hK; clear hK
            refine wp_buildSlice _ _ 1 #[(0, .tmp 27)] rfl (wordsC s) iW zW Try.underlying77 hiW hzW (by omega) (by omega) ?_ ?_
            · rw [hiW1]; simp only [List.map_toArray, List.map_cons, List.map_nil]; show Instr.fill _ _ [(0, Value.agg (wordsC s))] = some (wordsC s); refine fill_one _ (wordsC s) 256 (wordsP_size s 256) ?_; rw [Array.size_map, Array.size_range]
            exact HK.out _ _ ((Below.refl _ _).alloc (Nat.le_refl _) _) (fun w2 hb2 => ⟨_, rfl, (hb2.block _ (by simp)).trans (heap_alloc_new W _)⟩)
        case last =>
          intro xs W hb hd
          have e0 := (needs_sub hd 0 (by simp)).now
          have e1 := (needs_sub hd 1 (by simp)).now
          have e4 := (needs_sub hd 4 (by simp)).now
          clear hd
          replace e0 : xs 0 = .pointer (some ⟨g, 0, none⟩) := e0
          replace e1 : xs 1 = .slice ps k cs := e1
          generalize xs 0 = y0, xs 1 = y1, xs 2 = y2, xs 3 = y3, xs 4 = y4 at *
          obtain ⟨gb, rfl, hgb⟩ := e4
          subst e0 e1
          have hI2 := hI1.grow hb
          refine tail_cons _ rfl rfl (fun K2 HK2 => ?_)
          refine wp_append_own _ _ _ 77 rfl w.heap.size 141 iW zW 256 2048 Try.underlying77 hiW hzW hiW1 hiW2 hzsW (by decide) (.slice ps k cs) k _ rfl hI2.ownS ⟨gb, 0, none⟩ 1 1 (wordsL s 256) rfl (wordsL_length s 256) (fun j u hj => ?_) (wordsL_one s 256) (by unfold maxLen; omega) (by omega) hI2.bel.size ?_
          · rw [show (⟨gb, 0, none⟩ : Addr).add j = ⟨gb, j, none⟩ by unfold Addr.add; split <;> simp_all, cell_of_row _ _ j _ _ _ hgb]
            simpa [wordsC, wordsP] using hj
          intro v' w3 hown hgr hnil
          obtain ⟨g3, cap3, rfl⟩ := row_succ hown
          refine HK2.out _ _ ?_
          refine tail_cons _ rfl rfl (fun K3 HK3 => ?_)
          simp only [Act.put, List.setIfInBounds_toArray, List.set_cons_succ, List.set_cons_zero]
          go_simp
          refine HK3.out _ _ ?_
          refine tail_one _ rfl rfl ?_
          have hne : some g ≠ (Value.slice ps k cs).ownBlock := fun e => by
            have h1 := ownsRow_ty hI2.ownS g e.symm
            rw [tyOf_row hI2.box] at h1
            cases h1
          have hg3 := (hgr.block g (Array.getElem?_eq_some_iff.1 hI2.box).1 hne).trans hI2.box
          have hgc3 := cell_of_row _ _ 0 _ _ _ hg3
          have hgf3 := frozen_of_row _ _ 0 _ _ hg3
          go_simp
          have hI3 := hI2.stepS HS.out hown hgr
          generalize w3.setCell ⟨g, 0, none⟩ (.slice (some ⟨g3, 0, none⟩) (k + 1) cap3) = w4 at *
          clear hgr hown hg3 hgc3 hgf3 hgb hI2 hI hI1
          go_wp2
          go_roundw
          case rel => exact ⟨k + 1, _, _, by omega, by go_num, hI3⟩
          case measure => simp [intOf]; omega
      · obtain rfl : k = a.sets.length := by omega
        clear hat0
        obtain ⟨c0, c1, c2, c3, c4⟩ := BoxA.of_row (v0 := .slice p0 a.sets.length q0) (v1 := .slice p1 a.follow.length q1) (v2 := .slice p2 a.first.length q2) (v3 := .slice p3 a.last.length q3) hI.arg
        go_wp2
        clear c0 c1 c2 c3 c4
        go_loopw [35] (fun i W => ∃ (j : Nat) (pf : Option Addr) (cf : Nat) (us : List Value), j ≤ a.follow.length ∧ i = .int .i64 j ∧ CpT w W (autoC a (.slice p0 a.sets.length q0) (.slice p1 a.follow.length q1) (.slice p2 a.first.length q2) (.slice p3 a.last.length q3)) g a (.slice a2 a.first.length b2) (.slice a3 a.last.length b3) a.sets.length ps cs j pf cf us) (fun i _ => a.follow.length - (intOf i).toNat)
        case atStart => exact ⟨0, none, 0, [], by omega, rfl, hI⟩
        case round =>
          clear hI hbw
          obtain ⟨j, pf, cf, us, hj, rfl, hI⟩ := hrel
          have hbw := hI.bel
          by_cases hlt : j < a.follow.length
          · obtain ⟨f, hf⟩ := some_at hlt
            obtain ⟨bf, of, rfl, hSf, hbf, u, hRf, hcu⟩ := hat1 j f hf
            obtain ⟨pu, cu, rfl⟩ := hRf.intsShape
            have hcu2 := (hbw.cell (World.block_lt_of_cell? w _ hcu)).trans hcu
            have hfl4 := h4 f (List.mem_of_getElem? hf)
            have HF := Lib.hid hf
            have hglt := (Array.getElem?_eq_some_iff.1 hI.box).1
            have hgc1 : wr.cell? ⟨g, 1, none⟩ = some (.slice pf j cf) := by rw [cell_of_row _ _ 1 _ _ _ hI.box]; rfl
            clear hf hat1 hcu hSf
            go_wp2
            refine' region_lit (by kernel_rfl) _ ?mk [(fun v _ => v = .pointer (some ⟨g, 1, none⟩)),
    (fun v _ => v = .slice pf j cf),
    (fun v _ => v = .slice pu f.length cu),
    (fun v W => RepM W (Ty w.heap.size W 3) (.s f.length 1 ((f.map (Value.int .i64)).map .v)) v),
    (fun v W => ∃ gb u, v = .slice (some ⟨gb, 0, none⟩) 1 1 ∧ W.heap[gb]? = some (.cells #[u] 24 (0, 0)) ∧ RepM W (Ty w.heap.size W 3) (.s f.length 1 ((f.map (Value.int .i64)).map .v)) u)] (by kernel_rfl) rfl ?steps ?last
            case mk =>
              intro xs
              simp only [layL, List.setIfInBounds_toArray, List.set_cons_succ, List.set_cons_zero, Nat.reduceAdd]
              exact rfl
            case steps =>
              refine ⟨?s0, ?s1, ?s2, ?s3, ?s4, trivial⟩
              case s0 =>
                refine step_plain rfl [] rfl ?_
                intro xs W hb hd K hK
                replace hK := fun v w' h1 h2 => hK.out v w' h1 h2
                simp only [Act.put, List.setIfInBounds_toArray, List.set_cons_succ, List.set_cons_zero] at hK
                have HK := Lib.hid hK; clear hK
                have g1 := (hb.cell (p := ⟨g, 1, none⟩) hglt).trans hgc1
                go_simp
                exact HK.out _ _ (Below.refl _ _) (stands_eq _ _)
              case s1 =>
                refine step_plain rfl [0] rfl ?_
                intro xs W hb hd K hK
                have e0 := hd.1.now
                clear hd
                change ((fun v _ => v = .pointer (some ⟨g, 1, none⟩))) (xs 0) W at e0
                replace e0 : xs 0 = _ := e0
                replace hK := fun v w' h1 h2 => hK.out v w' h1 h2
                simp only [Act.put, List.setIfInBounds_toArray, List.set_cons_succ, List.set_cons_zero] at hK
                rw [e0] at hK ⊢
                have HK := Lib.hid hK; clear hK
                have g1 := (hb.cell (p := ⟨g, 1, none⟩) hglt).trans hgc1
                go_simp
                exact HK.out _ _ (Below.refl _ _) (stands_eq _ _)
              case s2 =>
                refine step_plain rfl [] rfl ?_
                intro xs W hb hd K hK
                replace hK := fun v w' h1 h2 => hK.out v w' h1 h2
                simp only [Act.put, List.setIfInBounds_toArray, List.set_cons_succ, List.set_cons_zero] at hK
                have HK := Lib.hid hK; clear hK
                have g1 := (hb.cell (p := ⟨g, 1, none⟩) hglt).trans hgc1
                go_simp
                exact HK.out _ _ (Below.refl _ _) (stands_eq _ _)
              case s3 =>
                refine step_plain rfl [2] rfl ?_
                intro xs W hb hd K hK
                have e2 := hd.1.now
                clear hd
                change ((fun v _ => v = .slice pu f.length cu)) (xs 2) W at e2
                replace e2 : xs 2 = _ := e2
                replace hK := fun v w' h1 h2 => hK.out v w' h1 h2
                simp only [Act.put, List.setIfInBounds_toArray, List.set_cons_succ, List.set_cons_zero] at hK
                rw [e2] at hK ⊢
                have HK := Lib.hid hK; clear hK
                go_simp
                go_at_call 44; refine (cloneI_any f.length (f.map (Value.int .i64)) _ _ (dI_flat ▸ (hRf.grow hbw).grow hb) (intsV_one _) hfl4).mono ?_; rintro e w1 ⟨v', rfl, hv, hb1⟩
                exact HK.out _ _ hb1 (fun w2 hb2 => (hv.tyBase (Nat.le_trans hbw.size hb.size)).tyGrow hb2)
              case s4 =>
                refine step_plain rfl [3] rfl ?_
                intro xs W hb hd K hK
                have e3 := hd.1.now
                clear hd
                change ((fun v W => RepM W (Ty w.heap.size W 3) (.s f.length 1 ((f.map (Value.int .i64)).map .v)) v)) (xs 3) W at e3
                replace hK := fun v w' h1 h2 => hK.out v w' h1 h2
                simp only [Act.put, List.setIfInBounds_toArray, List.set_cons_succ, List.set_cons_zero] at hK
                have HK := Lib.hid hK; clear hK
                generalize xs 3 = y3 at *
                replace e3 : RepM W (Ty w.heap.size W 3) (.s f.length 1 ((f.map (Value.int .i64)).map .v)) y3 := e3
                obtain ⟨a3', b3', rfl⟩ := e3.shape
                go_simp
                exact HK.out _ _ ((Below.refl _ _).alloc (Nat.le_refl _) _) (fun w2 hb2 => ⟨_, _, rfl, (hb2.block _ (by simp)).trans (heap_alloc_new W _), (e3.tyGrow ((Below.refl _ _).alloc (Nat.le_refl _) _)).tyGrow hb2⟩)
            case last =>
              intro xs W hb hd
              have e0 := (needs_sub hd 0 (by simp)).now
              have e1 := (needs_sub hd 1 (by simp)).now
              have e4 := (needs_sub hd 4 (by simp)).now
              clear hd
              replace e0 : xs 0 = .pointer (some ⟨g, 1, none⟩) := e0
              replace e1 : xs 1 = .slice pf j cf := e1
              generalize xs 0 = y0, xs 1 = y1, xs 2 = y2, xs 3 = y3, xs 4 = y4 at *
              obtain ⟨gb, u, rfl, hgb, hu⟩ := e4
              subst e0 e1
              have hI2 := hI.grow hb
              obtain ⟨a3', b3', rfl⟩ := hu.shape
              refine tail_cons _ rfl rfl (fun K2 HK2 => ?_)
              refine wp_append_own _ _ _ 23 rfl w.heap.size 24 i0 (.slice none 0 0) 1 24 Try.underlying23 hi hz hi1 hi2 rfl (by decide) (.slice pf j cf) j us rfl hI2.own ⟨gb, 0, none⟩ 1 1 [.slice a3' f.length b3'] rfl rfl (fun jj u hj => ?_) (fun u hu => by simp at hu; subst hu; rfl) (by unfold maxLen; omega) (by omega) (Nat.le_trans hbw.size hb.size) ?_
              · cases jj with
                | zero => simp at hj; subst hj; show W.cell? ⟨gb, 0, none⟩ = _; rw [cell_of_row _ _ 0 _ _ _ hgb]; rfl
                | succ jj => simp at hj
              intro v' w3 hown hgr hnil
              obtain ⟨g3, cap3, rfl⟩ := row_succ hown
              refine HK2.out _ _ ?_
              refine tail_cons _ rfl rfl (fun K3 HK3 => ?_)
              simp only [Act.put, List.setIfInBounds_toArray, List.set_cons_succ, List.set_cons_zero]
              go_simp
              refine HK3.out _ _ ?_
              refine tail_one _ rfl rfl ?_
              have hne : some g ≠ (Value.slice pf j cf).ownBlock := fun e => by
                have h1 := ownsRow_ty hI2.own g e.symm
                rw [tyOf_row hI2.box] at h1
                cases h1
              have hg3 := (hgr.block g (Array.getElem?_eq_some_iff.1 hI2.box).1 hne).trans hI2.box
              have hgc3 := cell_of_row _ _ 1 _ _ _ hg3
              have hgf3 := frozen_of_row _ _ 1 _ _ hg3
              go_simp
              have hI3 := hI2.stepF HF.out hu hown hgr
              generalize w3.setCell ⟨g, 1, none⟩ (.slice (some ⟨g3, 0, none⟩) (j + 1) cap3) = w4 at *
              clear hgr hown hg3 hgc3 hgf3 hu hgb hI2 hI
              go_wp2
              go_roundw
              case rel => exact ⟨j + 1, _, _, _, by omega, by go_num, hI3⟩
              case measure => simp [intOf]; omega
          · obtain rfl : j = a.follow.length := by omega
            clear hat1
            have hag := hI.box
            have hac := hI.res
            go_wp2_with (first
              | (refine wpList_load_row rfl 79 _ rfl g rfl 79 #[.slice ps a.sets.length cs, .slice pf a.follow.length cf, .slice a2 a.first.length b2, .slice a3 a.last.length b3, .bool a.empty] (0, 0) _ hag Try.underlying79 rfl (by kernel_rfl) ?_)
              | (refine wpList_store_row rfl 79 _ _ rfl (w.heap.size + 1) #[.slice ps a.sets.length cs, .slice pf a.follow.length cf, .slice a2 a.first.length b2, .slice a3 a.last.length b3, .bool a.empty] rfl rfl 79 _ hac (by kernel_rfl) rfl (by simp [Value.oneCell']) ?_))
            have hrow := setRow_heap wr (w.heap.size + 1) _ #[.slice ps a.sets.length cs, .slice pf a.follow.length cf, .slice a2 a.first.length b2, .slice a3 a.last.length b3, .bool a.empty] _ _ hac
            (try simp only [Exit.inBlock, Exit.then])
            refine bodyPost_ret (results_cell_row rfl _ _ (w.heap.size + 1) 79 #[.slice ps a.sets.length cs, .slice pf a.follow.length cf, .slice a2 a.first.length b2, .slice a3 a.last.length b3, .bool a.empty] (0, 0) _ rfl hrow Try.underlying79 rfl (by kernel_rfl)) rfl ?_
            exact ⟨_, _, _, _, rfl, hI.fin (by omega) _, below_setRow hI.bel (by omega) _⟩
end Go.Proofs.Ytlagablcopmhkaa
/- slices.Equal at sets, slices.EqualFunc at lists; nfa.Same. -/
namespace Go.Proofs.Ytlagablcopmhkaa
open Go.RowKit

theorem eq_sets (s t : BitVec 256) (w : World) : (Op.equalIn 10000 38 (.agg #[.int .u64 (word s 0), .int .u64 (word s 1), .int .u64 (word s 2), .int .u64 (word s 3)]) (.agg #[.int .u64 (word t 0), .int .u64 (word t 1), .int .u64 (word t 2), .int .u64 (word t 3)])).run Try.prog w = .ok (eqSet s t) w := by
  have h := eq_set 9998 (word s 0) (word s 1) (word s 2) (word s 3) (word t 0) (word t 1) (word t 2) (word t 3) w
  rw [eqSet_words] at h
  exact h

set_option maxRecDepth 100000 in
set_option maxHeartbeats 1000000 in
theorem equalS_any {S S' : Nat → Prop} (l k : List (BitVec 256)) (v u : Value) (w : World) (hl : RepSets w S l v) (hk : RepSets w S' k u) :
    Calls Try.prog 71 #[v, u] w fun e w' => e = .returned (.bool (decide (l = k))) ∧ Below w.heap.size w w' := by
  obtain ⟨p, cap, rfl, hm, hcap, hcm, hc⟩ := hl.at
  obtain ⟨p', cap', rfl, hm', hcap', hcm', hc'⟩ := hk.at
  clear hl hk
  rcases eqb2 (l.length : Int) k.length with ⟨h1, h2, h3⟩ | ⟨h1, h2, h3⟩
  · have h3' := h3.out
    have HL := Lib.hid (show l.length = k.length by omega)
    clear h3'
    go_enter Try.func71, Try.ntmps71
    go_wp2
    go_loopw [13] (fun i W => ∃ j : Nat, j ≤ l.length ∧ i = .int .i64 j ∧ Hid (l.take j = k.take j) ∧ Below w.heap.size w W) (fun i _ => l.length - (intOf i).toNat)
    case atStart => exact ⟨0, by omega, rfl, rfl, Below.refl _ _⟩
    case round =>
      obtain ⟨j, hj, rfl, hi, hb⟩ := hrel
      by_cases hlt : j < l.length
      · obtain ⟨x, hx⟩ := some_at hlt
        obtain ⟨y, hy⟩ := some_at (show j < k.length by have := HL.out; omega)
        obtain ⟨b, off, rfl, hS, hbl, hA⟩ := hc j x hx
        obtain ⟨b', off', rfl, hS', hbl', hA'⟩ := hc' j y hy
        obtain ⟨c0, c1, c2, c3⟩ := hA.move (hb.block b hbl)
        obtain ⟨d0, d1, d2, d3⟩ := hA'.move (hb.block b' hbl')
        have HX := Lib.hid hx
        have HY := Lib.hid hy
        have hjk : (j : Int) < k.length := by have := HL.out; omega
        have hq := eq_sets x y
        clear hx hy hc hc' hA hA'
        cases hxy : eqSet x y
        · go_wp2
          go_quiet (fail)
          go_wp2
          go_ret
          refine ⟨ret_bool ?_, ⟨hb.os, hb.tape, hb.output, hb.size, hb.block⟩⟩
          have hne : l ≠ k := by
            rintro rfl
            have h1 := HX.out
            rw [HY.out] at h1
            exact eqSet_false hxy (by cases h1; rfl)
          simp [hne]
        · go_wp2
          go_quiet (fail)
          go_wp2
          go_roundw
          case rel => exact ⟨j + 1, by omega, by go_num, by rw [Hid, take_succ_of HX.out, take_succ_of HY.out, hi.out, eqSet_true hxy], ⟨hb.os, hb.tape, hb.output, hb.size, hb.block⟩⟩
          case measure => simp [intOf]; omega
      · go_wp2
        go_ret
        refine ⟨ret_bool ?_, hb⟩
        have e := hi.out
        rw [List.take_of_length_le (by omega), List.take_of_length_le (by have := HL.out; omega)] at e
        simp [e]
  · go_enter Try.func71, Try.ntmps71
    go_wp2
    go_ret
    exact ⟨ret_bool (by simp; rintro rfl; exact h3.out rfl), Below.refl _ _⟩

set_option maxRecDepth 100000 in
set_option maxHeartbeats 1000000 in
theorem equalL_any {S S' : Nat → Prop} (l k : List (List Int)) (v u : Value) (w : World) (hl : RepLists w S l v) (hk : RepLists w S' k u) :
    Calls Try.prog 72 #[v, u, .func (.func 23) #[] #[]] w fun e w' => e = .returned (.bool (decide (l = k))) ∧ Below w.heap.size w w' := by
  obtain ⟨p, cap, rfl, hm, hcap, hcm, hc⟩ := hl.at
  obtain ⟨p', cap', rfl, hm', hcap', hcm', hc'⟩ := hk.at
  clear hl hk
  rcases eqb2 (l.length : Int) k.length with ⟨h1, h2, h3⟩ | ⟨h1, h2, h3⟩
  · have h3' := h3.out
    have HL := Lib.hid (show l.length = k.length by omega)
    clear h3'
    go_enter Try.func72, Try.ntmps72
    go_wp2
    go_loopw [17] (fun i W => ∃ j : Nat, j ≤ l.length ∧ i = .int .i64 j ∧ Hid (l.take j = k.take j) ∧ Below w.heap.size w W) (fun i _ => l.length - (intOf i).toNat)
    case atStart => exact ⟨0, by omega, rfl, rfl, Below.refl _ _⟩
    case round =>
      obtain ⟨j, hj, rfl, hi, hb⟩ := hrel
      by_cases hlt : j < l.length
      · obtain ⟨x, hx⟩ := some_at hlt
        obtain ⟨y, hy⟩ := some_at (show j < k.length by have := HL.out; omega)
        obtain ⟨b, off, rfl, hS, hbl, ux, hRx, hcx⟩ := hc j x hx
        obtain ⟨b', off', rfl, hS', hbl', uy, hRy, hcy⟩ := hc' j y hy
        have hcx2 := (hb.cell (World.block_lt_of_cell? w _ hcx)).trans hcx
        have hcy2 := (hb.cell (World.block_lt_of_cell? w _ hcy)).trans hcy
        obtain ⟨px, nx, rfl⟩ := hRx.intsShape
        obtain ⟨py, ny, rfl⟩ := hRy.intsShape
        have heq := equalI_any x y _ _ wr (hRx.grow (hb.mono (by omega))) (hRy.grow (hb.mono (by omega)))
        have HX := Lib.hid hx
        have HY := Lib.hid hy
        have hjk : (j : Int) < k.length := by have := HL.out; omega
        clear hx hy hc hc' hcx hcy
        cases hxy : decide (x = y)
        · rw [hxy] at heq
          go_wp2_with (go_at_call 23; refine heq.mono ?_; rintro e w2 ⟨rfl, hb2⟩)
          go_ret
          refine ⟨ret_bool ?_, hb.trans (hb2.mono hb.size)⟩
          have hne : l ≠ k := by
            rintro rfl
            have h1 := HX.out
            rw [HY.out] at h1
            simp at hxy
            exact hxy (by cases h1; rfl)
          simp [hne]
        · rw [hxy] at heq
          go_wp2_with (go_at_call 23; refine heq.mono ?_; rintro e w2 ⟨rfl, hb2⟩)
          go_roundw
          case rel => exact ⟨j + 1, by omega, by go_num, by rw [Hid, take_succ_of HX.out, take_succ_of HY.out, hi.out, of_decide_eq_true hxy], hb.trans (hb2.mono hb.size)⟩
          case measure => simp [intOf]; omega
      · go_wp2
        go_ret
        refine ⟨ret_bool ?_, hb⟩
        have e := hi.out
        rw [List.take_of_length_le (by omega), List.take_of_length_le (by have := HL.out; omega)] at e
        simp [e]
  · go_enter Try.func72, Try.ntmps72
    go_wp2
    go_ret
    exact ⟨ret_bool (by simp; rintro rfl; exact h3.out rfl), Below.refl _ _⟩

def sameA (a b : Auto) : Bool := decide (a.sets = b.sets) && decide (a.follow = b.follow) && decide (a.first = b.first) && decide (a.last = b.last) && (a.empty == b.empty)

/-- two automata in boxes of a call -/
structure St2 (w W : World) (S S' : Nat → Prop) (a b : Auto) (v0 v1 v2 v3 u0 u1 u2 u3 : Value) : Prop where
  ra : RepA W S a v0 v1 v2 v3
  rb : RepA W S' b u0 u1 u2 u3
  ba : BoxA W w.heap.size a v0 v1 v2 v3
  bb : BoxA W (w.heap.size + 1) b u0 u1 u2 u3
  bel : Below w.heap.size w W
theorem St2.next {w W W' : World} {S S' : Nat → Prop} {a b : Auto} {v0 v1 v2 v3 u0 u1 u2 u3 : Value} (h : St2 w W S S' a b v0 v1 v2 v3 u0 u1 u2 u3) (hb : Below W.heap.size W W') : St2 w W' S S' a b v0 v1 v2 v3 u0 u1 u2 u3 :=
  ⟨h.ra.grow hb, h.rb.grow hb, h.ba.below hb, h.bb.below hb, h.bel.trans (hb.mono h.bel.size)⟩
theorem St2.new {w : World} {S S' : Nat → Prop} {a b : Auto} {v0 v1 v2 v3 u0 u1 u2 u3 : Value} (hA : RepA w S a v0 v1 v2 v3) (hB : RepA w S' b u0 u1 u2 u3) (t : TypeId) : St2 w ((w.alloc (.cells (autoC a v0 v1 v2 v3) t)).alloc (.cells (autoC b u0 u1 u2 u3) t)) S S' a b v0 v1 v2 v3 u0 u1 u2 u3 := by
  have hb : Below w.heap.size w ((w.alloc (.cells (autoC a v0 v1 v2 v3) t)).alloc (.cells (autoC b u0 u1 u2 u3) t)) := ((Below.refl _ w).alloc (Nat.le_refl _) _).alloc (by simp) _
  exact ⟨hA.grow hb, hB.grow hb, (BoxA.new w a v0 v1 v2 v3 t).below ((Below.refl _ _).alloc (Nat.le_refl _) _), .of_row (heap_alloc2_new w _ _), hb⟩

set_option maxRecDepth 100000 in
set_option maxHeartbeats 4000000 in
theorem sameA_any {S S' : Nat → Prop} (a b : Auto) (v0 v1 v2 v3 u0 u1 u2 u3 : Value) (w : World) (hA : RepA w S a v0 v1 v2 v3) (hB : RepA w S' b u0 u1 u2 u3) :
    Calls Try.prog 22 #[.agg (autoC a v0 v1 v2 v3), .agg (autoC b u0 u1 u2 u3)] w fun e w' => e = .returned (.bool (sameA a b)) ∧ Below w.heap.size w w' := by
  obtain ⟨p0, q0, rfl, _⟩ := hA.sets.at
  obtain ⟨p1, q1, rfl, _⟩ := hA.follow.at
  obtain ⟨p2, q2, rfl⟩ := hA.first.intsShape
  obtain ⟨p3, q3, rfl⟩ := hA.last.intsShape
  obtain ⟨r0, t0, rfl, _⟩ := hB.sets.at
  obtain ⟨r1, t1, rfl, _⟩ := hB.follow.at
  obtain ⟨r2, t2, rfl⟩ := hB.first.intsShape
  obtain ⟨r3, t3, rfl⟩ := hB.last.intsShape
  have s0 := St2.new hA hB 26
  obtain ⟨c0, c1, c2, c3, c4⟩ := s0.ba
  obtain ⟨d0, d1, d2, d3, d4⟩ := s0.bb
  have hS : Hid (sameA a b = (decide (a.sets = b.sets) && decide (a.follow = b.follow) && decide (a.first = b.first) && decide (a.last = b.last) && (a.empty == b.empty))) := rfl
  cases h0 : decide (a.sets = b.sets)
  · go_enter Try.func22, Try.ntmps22
    go_wp2_with (go_at_call 71; refine (equalS_any _ _ _ _ _ s0.ra.sets s0.rb.sets).mono ?_; rintro e w1 ⟨rfl, hb1⟩; rw [h0]; have s1 := s0.next hb1)
    go_ret
    exact ⟨ret_bool (by rw [hS.out, h0]; simp), s1.bel⟩
  · cases h1 : decide (a.follow = b.follow)
    · go_enter Try.func22, Try.ntmps22
      go_wp2_with (first
        | (go_at_call 71; refine (equalS_any _ _ _ _ _ s0.ra.sets s0.rb.sets).mono ?_; rintro e w1 ⟨rfl, hb1⟩; rw [h0]; have s1 := s0.next hb1; clear c0 c1 c2 c3 c4 d0 d1 d2 d3 d4; obtain ⟨c0, c1, c2, c3, c4⟩ := s1.ba; obtain ⟨d0, d1, d2, d3, d4⟩ := s1.bb)
        | (go_at_call 72; refine (equalL_any _ _ _ _ _ s1.ra.follow s1.rb.follow).mono ?_; rintro e w2 ⟨rfl, hb2⟩; rw [h1]; have s2 := s1.next hb2))
      go_ret
      exact ⟨ret_bool (by rw [hS.out, h0, h1]; simp), s2.bel⟩
    · cases h2 : decide (a.first = b.first)
      · go_enter Try.func22, Try.ntmps22
        go_wp2_with (first
          | (go_at_call 71; refine (equalS_any _ _ _ _ _ s0.ra.sets s0.rb.sets).mono ?_; rintro e w1 ⟨rfl, hb1⟩; rw [h0]; have s1 := s0.next hb1; clear c0 c1 c2 c3 c4 d0 d1 d2 d3 d4; obtain ⟨c0, c1, c2, c3, c4⟩ := s1.ba; obtain ⟨d0, d1, d2, d3, d4⟩ := s1.bb)
          | (go_at_call 72; refine (equalL_any _ _ _ _ _ s1.ra.follow s1.rb.follow).mono ?_; rintro e w2 ⟨rfl, hb2⟩; rw [h1]; have s2 := s1.next hb2; clear c0 c1 c2 c3 c4 d0 d1 d2 d3 d4; obtain ⟨c0, c1, c2, c3, c4⟩ := s2.ba; obtain ⟨d0, d1, d2, d3, d4⟩ := s2.bb)
          | (go_at_call 23; (with_reducible (refine (equalI_any _ _ _ _ _ s2.ra.first s2.rb.first).mono ?_)); rintro e w3 ⟨rfl, hb3⟩; rw [h2]; have s3 := s2.next hb3))
        go_ret
        exact ⟨ret_bool (by rw [hS.out, h0, h1, h2]; simp), s3.bel⟩
      · cases h3 : decide (a.last = b.last)
        · go_enter Try.func22, Try.ntmps22
          go_wp2_with (first
            | (go_at_call 71; refine (equalS_any _ _ _ _ _ s0.ra.sets s0.rb.sets).mono ?_; rintro e w1 ⟨rfl, hb1⟩; rw [h0]; have s1 := s0.next hb1; clear c0 c1 c2 c3 c4 d0 d1 d2 d3 d4; obtain ⟨c0, c1, c2, c3, c4⟩ := s1.ba; obtain ⟨d0, d1, d2, d3, d4⟩ := s1.bb)
            | (go_at_call 72; refine (equalL_any _ _ _ _ _ s1.ra.follow s1.rb.follow).mono ?_; rintro e w2 ⟨rfl, hb2⟩; rw [h1]; have s2 := s1.next hb2; clear c0 c1 c2 c3 c4 d0 d1 d2 d3 d4; obtain ⟨c0, c1, c2, c3, c4⟩ := s2.ba; obtain ⟨d0, d1, d2, d3, d4⟩ := s2.bb)
            | (go_at_call 23; (with_reducible (refine (equalI_any _ _ _ _ _ s2.ra.first s2.rb.first).mono ?_)); rintro e w3 ⟨rfl, hb3⟩; rw [h2]; have s3 := s2.next hb3; clear c0 c1 c2 c3 c4 d0 d1 d2 d3 d4; obtain ⟨c0, c1, c2, c3, c4⟩ := s3.ba; obtain ⟨d0, d1, d2, d3, d4⟩ := s3.bb)
            | (go_at_call 23; (with_reducible (refine (equalI_any _ _ _ _ _ s3.ra.last s3.rb.last).mono ?_)); rintro e w4 ⟨rfl, hb4⟩; rw [h3]; have s4 := s3.next hb4))
          go_ret
          exact ⟨ret_bool (by rw [hS.out, h0, h1, h2, h3]; simp), s4.bel⟩
        · have hfin : Hid (sameA a b = (a.empty == b.empty)) := by rw [Hid, hS.out, h0, h1, h2, h3]; simp
          clear hS
          cases he : a.empty
          all_goals cases hf : b.empty
          all_goals
            go_enter Try.func22, Try.ntmps22
            go_wp2_with (first
              | (go_at_call 71; refine (equalS_any _ _ _ _ _ s0.ra.sets s0.rb.sets).mono ?_; rintro e w1 ⟨rfl, hb1⟩; rw [h0]; have s1 := s0.next hb1; clear c0 c1 c2 c3 c4 d0 d1 d2 d3 d4; obtain ⟨c0, c1, c2, c3, c4⟩ := s1.ba; obtain ⟨d0, d1, d2, d3, d4⟩ := s1.bb)
              | (go_at_call 72; refine (equalL_any _ _ _ _ _ s1.ra.follow s1.rb.follow).mono ?_; rintro e w2 ⟨rfl, hb2⟩; rw [h1]; have s2 := s1.next hb2; clear c0 c1 c2 c3 c4 d0 d1 d2 d3 d4; obtain ⟨c0, c1, c2, c3, c4⟩ := s2.ba; obtain ⟨d0, d1, d2, d3, d4⟩ := s2.bb)
              | (go_at_call 23; (with_reducible (refine (equalI_any _ _ _ _ _ s2.ra.first s2.rb.first).mono ?_)); rintro e w3 ⟨rfl, hb3⟩; rw [h2]; have s3 := s2.next hb3; clear c0 c1 c2 c3 c4 d0 d1 d2 d3 d4; obtain ⟨c0, c1, c2, c3, c4⟩ := s3.ba; obtain ⟨d0, d1, d2, d3, d4⟩ := s3.bb)
              | (go_at_call 23; (with_reducible (refine (equalI_any _ _ _ _ _ s3.ra.last s3.rb.last).mono ?_)); rintro e w4 ⟨rfl, hb4⟩; rw [h3]; have s4 := s3.next hb4; clear c0 c1 c2 c3 c4 d0 d1 d2 d3 d4; obtain ⟨c0, c1, c2, c3, c4⟩ := s4.ba; obtain ⟨d0, d1, d2, d3, d4⟩ := s4.bb; rw [he] at c4; rw [hf] at d4))
            go_ret
            exact ⟨ret_bool (by rw [hfin.out, he, hf]; rfl), s4.bel⟩
end Go.Proofs.Ytlagablcopmhkaa
/- Contracts by worlds, as contracts by descriptions; nfa and the reference. -/
namespace Go.Proofs.Ytlagablcopmhkaa
open Go.RowKit

def Snew (S : Nat → Prop) (w w' : World) : Nat → Prop := fun b => S b ∨ (w.heap.size ≤ b ∧ b < w'.heap.size)
/-- a call that leaves memory as it is -/
theorem ac_real {P : Program} {f : FuncId} {args : List V} {c : V} (h : ∀ (w : World) (S : Nat → Prop) (vs : List Value), RL w S args vs → Calls P f vs.toArray w fun e w' => ∃ v, e = .returned v ∧ R w' (Snew S w w') c v ∧ Below w.heap.size w w') :
    AC P f args [] fun r L' => r = c ∧ L' = [] := fun w S vs hp hr => by
  refine (h w S vs hr).mono ?_
  rintro e w' ⟨v, rfl, hv, hb⟩
  exact ⟨v, c, Snew S w w', [], rfl, ⟨rfl, rfl⟩, hv, ⟨by simp, List.Pairwise.nil, fun b hb => absurd hb inL_nil, fun b hb' => hb'.elim (fun h => Nat.lt_of_lt_of_le (hp.lt b h) hb.size) (·.2)⟩,
    ⟨hb.os, hb.tape, hb.output, hb.size, fun b hlt _ => hb.block b hlt, fun _ h => .inl h, fun b h hlt => .inl (h.elim id fun h => by omega), fun b h => absurd h inL_nil⟩⟩
theorem RepM.toR {w w' : World} {S : Nat → Prop} {t : TypeId} {d : D} {v : Value} (h : RepM w' (Ty w.heap.size w' t) d v) : R w' (Snew S w w') (.d d) v := .d (h.rep.mono fun _ hb hlt => .inr ⟨hb.1, hlt⟩)
theorem R.und {w : World} {S : Nat → Prop} {d : D} {v : Value} (h : R w S (.d d) v) : Rep w S d v := by cases h with | d h => exact h
theorem R.auto {w : World} {S : Nat → Prop} {a : Auto} {v : Value} (h : R w S (.a (cellsA a)) v) : ∃ v0 v1 v2 v3, v = .agg (autoC a v0 v1 v2 v3) ∧ RepA w S a v0 v1 v2 v3 := by
  cases h with
  | a us hl hr =>
    have hh : RL w S (cellsA a) us := ⟨hl, hr⟩
    obtain ⟨u0, r0, rfl, h0, t0⟩ := hh.uncons
    obtain ⟨u1, r1, rfl, h1, t1⟩ := t0.uncons
    obtain ⟨u2, r2, rfl, h2, t2⟩ := t1.uncons
    obtain ⟨u3, r3, rfl, h3, t3⟩ := t2.uncons
    obtain ⟨u4, r4, rfl, h4, t4⟩ := t3.uncons
    obtain rfl := t4.unnil
    obtain rfl := h4.unv
    exact ⟨u0, u1, u2, u3, rfl, ⟨h0.und, h1.und, h2.und, h3.und⟩⟩
theorem RL.one {w : World} {S : Nat → Prop} {c : V} {us : List Value} (h : RL w S [c] us) : ∃ v, us = [v] ∧ R w S c v := by
  obtain ⟨u, r, rfl, h1, h2⟩ := h.uncons; obtain rfl := h2.unnil; exact ⟨u, rfl, h1⟩
theorem RL.two {w : World} {S : Nat → Prop} {c c' : V} {us : List Value} (h : RL w S [c, c'] us) : ∃ v v', us = [v, v'] ∧ R w S c v ∧ R w S c' v' := by
  obtain ⟨u, r, rfl, h1, h2⟩ := h.uncons; obtain ⟨v', rfl, h3⟩ := h2.one; exact ⟨u, v', rfl, h1, h3⟩
theorem RL.three {w : World} {S : Nat → Prop} {c c' c2 : V} {us : List Value} (h : RL w S [c, c', c2] us) : ∃ v v' v2, us = [v, v', v2] ∧ R w S c v ∧ R w S c' v' ∧ R w S c2 v2 := by
  obtain ⟨u, r, rfl, h1, h2⟩ := h.uncons; obtain ⟨v', v2, rfl, h3, h4⟩ := h2.two; exact ⟨u, v', v2, rfl, h1, h3, h4⟩
theorem R.pair {w : World} {S : Nat → Prop} {c c' : V} {v v' : Value} (h : R w S c v) (h' : R w S c' v') : R w S (.t [c, c']) (.tuple #[v, v']) := by
  have := RL.cons h (RL.cons h' (RL.nil w S))
  exact .t _ this.1 this.2
theorem R.agg5 {w : World} {S : Nat → Prop} {a : Auto} {v0 v1 v2 v3 : Value} {c0 c1 c2 c3 : V} (h0 : R w S c0 v0) (h1 : R w S c1 v1) (h2 : R w S c2 v2) (h3 : R w S c3 v3) : R w S (.a [c0, c1, c2, c3, .b a.empty]) (.agg (autoC a v0 v1 v2 v3)) := by
  have := RL.cons h0 (RL.cons h1 (RL.cons h2 (RL.cons h3 (RL.cons (.v (.bool a.empty)) (RL.nil w S)))))
  exact .a _ this.1 this.2

theorem right_a (a : Auto) : AC Try.prog 21 [.a (cellsA a)] [] fun r L' => r = .b (rightA a) ∧ L' = [] :=
  ac_real fun w S vs hr => by
    obtain ⟨v, rfl, h⟩ := hr.one
    obtain ⟨v0, v1, v2, v3, rfl, hA⟩ := h.auto
    exact (rightA_any a _ _ _ _ w hA).mono fun e w' ⟨h1, h2⟩ => ⟨_, h1, .v _, h2⟩
theorem same_a (a b : Auto) : AC Try.prog 22 [.a (cellsA a), .a (cellsA b)] [] fun r L' => r = .b (sameA a b) ∧ L' = [] :=
  ac_real fun w S vs hr => by
    obtain ⟨v, v', rfl, h, h'⟩ := hr.two
    obtain ⟨v0, v1, v2, v3, rfl, hA⟩ := h.auto
    obtain ⟨u0, u1, u2, u3, rfl, hB⟩ := h'.auto
    exact (sameA_any a b _ _ _ _ _ _ _ _ w hA hB).mono fun e w' ⟨h1, h2⟩ => ⟨_, h1, .v _, h2⟩
theorem step_a (a : Auto) (l : List Int) (c : Nat) (hc : c < 256) : AC Try.prog 27 [.a (cellsA a), .d (dI l), .v (.int .u8 c)] [] fun r L' => r = .t [.d (dI (stepR a l c)), .i (checkA a l)] ∧ L' = [] :=
  ac_real fun w S vs hr => by
    obtain ⟨v, v', v2, rfl, h, h', h2⟩ := hr.three
    obtain ⟨v0, v1, v2, v3, rfl, hA⟩ := h.auto
    obtain rfl := h2.unv
    exact (Step_any a _ _ _ _ l _ c w hA h'.und hc).mono fun e w' ⟨v, h1, h3, h2⟩ => ⟨_, h1, h3.toR.pair (.v _), h2⟩
theorem eqI_a (l k : List Int) : AC Try.prog 23 [.d (dI l), .d (dI k)] [] fun r L' => r = .b (decide (l = k)) ∧ L' = [] :=
  ac_real fun w S vs hr => by
    obtain ⟨v, v', rfl, h, h'⟩ := hr.two
    exact (equalI_any l k _ _ w h.und h'.und).mono fun e w' ⟨h1, h2⟩ => ⟨_, h1, .v _, h2⟩
theorem theirs_a (a : Auto) (h0 : a.sets.length ≤ 1000000) (h1 : a.follow.length ≤ 1000000) (h2 : a.first.length ≤ 1000000) (h3 : a.last.length ≤ 1000000) (h4 : ∀ f ∈ a.follow, f.length ≤ 1000000) :
    AC Try.prog 43 [.a (cellsA a)] [] fun r L' => r = .a (cellsR a) ∧ L' = [] :=
  ac_real fun w S vs hr => by
    obtain ⟨v, rfl, h⟩ := hr.one
    obtain ⟨v0, v1, v2, v3, rfl, hA⟩ := h.auto
    refine (theirs_any a _ _ _ _ w hA h0 h1 h2 h3 h4).mono ?_
    rintro e w' ⟨u0, u1, u2, u3, rfl, hO, hb⟩
    obtain ⟨us, ho, he⟩ := hO.r1
    have hf : RepM w' (fun b => w.heap.size ≤ b) (dLists a.follow) u1 := RepM.of_owns ho (by omega) (by simp) (fun b h _ => h) (fun j d u h1 h2 => by
      rw [List.getElem?_map] at h1
      cases hj : a.follow[j]? with
      | none => rw [hj] at h1; cases h1
      | some x => rw [hj] at h1; cases h1; rw [dI_flat]; exact (he j x u hj h2).mono fun b hb _ => hb.1)
    have h2 := hO.r2.toR (S := S)
    have h3 := hO.r3.toR (S := S)
    rw [← dI_flat] at h2 h3
    exact ⟨_, rfl, R.agg5 hO.r0.toR (.d (hf.rep.mono fun b hb hlt => .inr ⟨hb, hlt⟩)) h2 h3, hb⟩
theorem risingR_a (l : List Int) (lo n : Int) : AC Try.prog 100 [.d (dI l), .i lo, .i n] [] fun r L' => r = .b (risesB (lo - 1) (n - 1) l) ∧ L' = [] :=
  ac_real fun w S vs hr => by
    obtain ⟨v, v', v2, rfl, h, h', h2⟩ := hr.three
    obtain rfl := h'.unv
    obtain rfl := h2.unv
    exact (risingR_any l lo n _ w h.und).mono fun e w' ⟨h1, h2⟩ => ⟨_, h1, .v _, h2⟩
theorem hasR_a (l : List Int) (x : Int) : AC Try.prog 104 [.d (dI l), .i x] [] fun r L' => r = .b (decide (x ∈ l)) ∧ L' = [] :=
  ac_real fun w S vs hr => by
    obtain ⟨v, v', rfl, h, h'⟩ := hr.two
    obtain rfl := h'.unv
    refine (hasR_any l x _ w h.und).mono ?_
    rintro e w' ⟨h1, rfl⟩
    exact ⟨_, h1, .v _, Below.refl _ _⟩
theorem listR_a (m n : Nat) (hn : n ≤ 1000000) : AC Try.prog 103 [.d (dI (flags m n))] [] fun r L' => r = .d (dI (ints (upTo m n))) ∧ L' = [] :=
  ac_real fun w S vs hr => by
    obtain ⟨v, rfl, h⟩ := hr.one
    exact (listR_any m n hn _ w h.und).mono fun e w' ⟨v, h1, h3, h4⟩ => ⟨_, h1, h3.toR, h4⟩
theorem sizeR_a (s : BitVec 256) : AC Try.prog 101 [.a ((wordsL s 256).map V.v)] [] fun r L' => r = .i (sumW s 256) ∧ L' = [] :=
  ac_real fun w S vs hr => by
    obtain ⟨v, rfl, h⟩ := hr.one
    have e : v = .agg (wordsC s) := by
      cases h with
      | a us hl hr2 =>
        have : us = wordsL s 256 := by
          apply List.ext_getElem?
          intro j
          cases hj : (wordsL s 256)[j]? with
          | none => rw [List.getElem?_eq_none_iff] at hj ⊢; simp at hl; omega
          | some x =>
            obtain ⟨u, hu⟩ : ∃ u, us[j]? = some u := ⟨us[j]'(by have := (List.getElem?_eq_some_iff.1 hj).1; simp at hl; omega), by simp⟩
            have := hr2 j (V.v x) u (by simp [hj]) hu
            rw [hu, this.unv]
        rw [this]; rfl
    subst e
    exact (size_ref s w).mono fun e w' ⟨h1, h2⟩ => ⟨_, h1, .v _, h2⟩
end Go.Proofs.Ytlagablcopmhkaa
