/- Packed: AlRange, AlTy, AlGo, Na, Rx -/
import Derived.Test.YtlagablcopmhkaaProg
import Derived.Test.YtlagablcopmhkaaKRowRuns1
import Derived.Test.YtlagablcopmhkaaKRowRuns2
import Derived.Test.YtlagablcopmhkaaKRowRuns4
import Derived.Test.YtlagablcopmhkaaKRowRuns6
set_option linter.unusedVariables false
set_option linter.unusedSimpArgs false
/- Walking with descriptions: a range over a function. -/
namespace Go.Proofs.Ytlagablcopmhkaa
open Go.RowKit
variable {P : Program} {n : Nat}

theorem Le.eqs' {sl sl' : Sl} {L L' : List Ch} (h : sl'.map (fun p => look sl p.1) = sl'.map (·.2)) (hL : L = L') : Le n sl L sl' L' := hL ▸ .eqs h
theorem aw_meet {ro : Option Nat} {ι : Type} {x y : Code} {sl : Sl} {L : List Ch} {Q1 Q2 : Exit → Sl → List Ch → Prop} (Sf : ι → Sl) (Hf : ι → List Ch) (p : ι → Prop) (h1 : AW P n ro x sl L (thenQ (fun sl1 L1 => ∃ i, p i ∧ Le n sl1 L1 (Sf i) (Hf i)) Q1)) (h2 : ∀ i, p i → AW P n ro y (Sf i) (Hf i) Q2) :
    AW P n ro x sl L (thenQ (fun sl' L' => AW P n ro y sl' L' Q2) Q1) :=
  aw_mono h1 fun ex sl1 L1 h => by
    cases ex with
    | normal => obtain ⟨i, a1, a2⟩ := h; exact aw_le a2 (h2 i a1)
    | _ => exact h
/-- how a round may end -/
def rndQ (I : List Ch → Prop) (X : Code → List Ch → Prop) : Exit → Sl → List Ch → Prop
  | .normal, _, O => I O
  | .ret, _, O => X .ret O
  | .exit id, _, O => X (.exit id) O
  | _, _, _ => False
/-- the slots of a round -/
def rndSl (sl : Sl) (l : List (Nat × Value)) : Sl := l.foldl (fun s p => (p.1, V.v p.2) :: s) sl
theorem rndSl_ok {w : World} {S : Nat → Prop} : ∀ (l : List (Nat × Value)) (sl : Sl) (t : Array Value), t.size = n → (l.all fun p => Nat.blt p.1 n) = true → (∀ x, R w S (look sl x) (t.getD x undef)) →
    (l.foldl (fun t p => t.setIfInBounds p.1 p.2) t).size = n ∧ ∀ x, R w S (look (rndSl sl l) x) ((l.foldl (fun t p => t.setIfInBounds p.1 p.2) t).getD x undef)
  | [], sl, t, h1, _, h3 => ⟨h1, h3⟩
  | (p, v) :: l, sl, t, h1, h2, h3 => by
    simp only [List.all_cons, Bool.and_eq_true] at h2
    have hp : p < n := by simpa using h2.1
    refine rndSl_ok l ((p, V.v v) :: sl) (t.setIfInBounds p v) (by simpa using h1) h2.2 fun x => ?_
    show R w S (bif Nat.beq p x then V.v v else look sl x) _
    by_cases e : p = x
    · subst e
      have : (t.setIfInBounds p v).getD p undef = v := by simp [h1, hp]
      rw [this]; simpa using R.v v
    · have hb : Nat.beq p x = false := by cases hb : Nat.beq p x with | false => rfl | true => exact absurd (Nat.eq_of_beq_eq_true hb) e
      have h4 : (t.setIfInBounds p v).getD x undef = t.getD x undef := by simp [Array.getElem?_setIfInBounds_ne e]
      rw [hb, h4]; exact h3 x

/-- what stands between the rounds -/
structure Rnd (w : World) (S : Nat → Prop) (L C O : List Ch) (Rel : Nat → Prop) (J : List Ch → Prop) (G : Nat → Prop) (W : World) : Prop where
  ex : ∃ (S' : Nat → Prop) (O' : List Ch), J O' ∧ Hp W S' (C ++ O') ∧ Fr w S L W S' (C ++ O') ∧ (∀ b, S' b → w.heap.size ≤ b → G b) ∧ (∀ b, inL O' b → G b)
  g : ∀ b, G b → b < W.heap.size ∧ ¬ Rel b ∧ ¬ inL C b ∧ (w.heap.size ≤ b ∨ inL O b)
theorem Rnd.keep {w : World} {S : Nat → Prop} {L C O : List Ch} {Rel : Nat → Prop} {J : List Ch → Prop} {G : Nat → Prop} {W W' : World} (hC : ∀ b, inL C b → b < w.heap.size) (h : Rnd w S L C O Rel J G W) {B : Nat} (hB : w.heap.size ≤ B) (hk : Keeps B G W W') : Rnd w S L C O Rel J G W' := by
  obtain ⟨⟨S', O', h1, h2, h3, h4, h5⟩, hg⟩ := h
  have hS : ∀ b, S' b → W'.heap[b]? = W.heap[b]? := fun b hb => hk.same b (h2.lt b hb) (by
    rcases Nat.lt_or_ge b w.heap.size with h | h
    · exact .inl (by omega)
    · exact .inr (h4 b hb h))
  have hCO : ∀ b, inL (C ++ O') b → W'.heap[b]? = W.heap[b]? := fun b hb => hk.same b (h2.blt hb) (by
    rcases inL_append.1 hb with h | h
    · have := hC b h; exact .inl (by omega)
    · exact .inr (h5 b h))
  have hkk : Kept W S' W' S' := fun b hb _ => ⟨hS b hb, hb⟩
  refine ⟨⟨S', O', h1, ⟨fun c hc => (h2.ok c hc).move (fun b hb => hCO b ⟨c, hc, hb⟩) hkk, h2.ap, h2.out, fun b hb => Nat.lt_of_lt_of_le (h2.lt b hb) hk.size⟩, ?_, h4, h5⟩, fun b hb => ⟨Nat.lt_of_lt_of_le (hg b hb).1 hk.size, (hg b hb).2⟩⟩
  exact ⟨hk.os.trans h3.os, hk.tape.trans h3.tape, hk.output.trans h3.output, Nat.le_trans h3.size hk.size, fun b hb hn => (hk.same b (Nat.lt_of_lt_of_le hb h3.size) (.inl (by omega))).trans (h3.same b hb hn), h3.SS, h3.Sn, h3.Ln⟩

theorem aw_range {g : Operand} {ps : Array Tmp} {assign body : Code} {sl : Sl} {L C O : List Ch} {Q : Exit → Sl → List Ch → Prop} {gf : Nat} {cap : List V} {N : Nat} (vals : Nat → Array Value) (I : Nat → List Ch → Prop) (Xp : Code → List Ch → Prop)
    (hg : ev sl g = .f (.func gf) [] cap) (eg : ∀ args w, (callFunc gf args).run P w = .ok (.enter gf args) w) (hL : L.Perm (C ++ O))
    (hseq : ∀ (w : World) (S : Nat → Prop) (lb : List Value), Hp w S C → RL w S cap lb → ∃ Rel, Seq P gf lb.toArray N vals w Rel ∧ ∀ b, Rel b → b < w.heap.size ∧ (S b ∨ inL C b))
    (hps : ∀ k, (vals k).size = ps.size) (hpn : (ps.toList.all fun p => Nat.blt p n) = true) (hI0 : I 0 O)
    (hround : ∀ (l k : Nat) (O' : List Ch), k < N → I k O' → AW P n (some l) assign (rndSl sl (ps.toList.zip (vals k).toList)) [] fun ex sl1 O1 => ex = .normal ∧ O1 = [] ∧ AW P n (some l) body sl1 O' (rndQ (I (k + 1)) Xp))
    (hdone : ∀ O', I N O' → Q .normal sl (C ++ O')) (hX : ∀ c O', Xp c O' → (c = .ret ∧ Q .ret sl (C ++ O')) ∨ ∃ id, c = .exit id ∧ Q (.exit id) sl (C ++ O')) : AW P n none (.rangeFunc g ps assign body) sl L Q := by
  intro w S a B hs hb Qr hQr
  have h1 := hs.ev g
  rw [hg] at h1
  generalize hv : a.eval g = v at h1
  cases h1 with
  | f us lb hl hr hl2 hr2 =>
    have hus : us = [] := List.length_eq_zero_iff.1 hl
    subst hus
    have hp0 := hs.hp.perm hL
    obtain ⟨Rel, hsq, hRel⟩ := hseq w S lb hp0.left ⟨hl2, hr2⟩
    have hClt : ∀ b, inL C b → b < w.heap.size := fun b hb => hp0.blt (inL_append.2 (.inl hb))
    have hap := List.pairwise_append.1 hp0.ap
    have hCO : ∀ b, inL O b → ¬ inL C b := fun b ⟨c, hc, hb⟩ ⟨c', hc', hb'⟩ => hap.2.2 c' hc' c hc b hb' hb
    have hOR : ∀ b, inL O b → ¬ Rel b := fun b hb hR => (hRel b hR).2.elim (hp0.out b (inL_append.2 (.inr hb))) (hCO b hb)
    have hend : ∀ (J : List Ch → Prop) (D : Nat) (G : Nat → Prop) (W : World), w.heap.size ≤ D → ¬ G D → Rnd w S L C O Rel J G W → W.heap[D]? = some (.deferred (some [])) →
        ∃ (S' : Nat → Prop) (O' : List Ch), J O' ∧ St n W S' sl (C ++ O') { a with defers := mark D :: a.defers } ∧ Fr w S L W S' (C ++ O') ∧ MB B W { a with defers := mark D :: a.defers } := fun J D G W hD hGD hR hWD => by
      obtain ⟨⟨S', O', h1, h2, h3, h4, h5⟩, hgg⟩ := hR
      have hk := h3.kept hs.hp
      obtain ⟨U, m1, m2, m3⟩ := hs.df.move h3
      have hDW : D < W.heap.size := (Array.getElem?_eq_some_iff.1 hWD).1
      obtain ⟨U0, n1, n2, n3⟩ := hs.df
      have n4 : Marks W D a.defers := n1.move (by omega) fun b hb hm => h3.same b (by omega) (n3 b hm).2
      refine ⟨S', O', h1, ⟨h2, hs.size, fun t => (hs.sl t).move hk, D + 1, ⟨D, rfl, by omega, hWD, n4⟩, hDW, fun D' hm => ?_⟩, h3, ⟨Nat.le_trans hb.1 h3.size, fun D' hm => ?_⟩⟩
      · rcases List.mem_cons.1 hm with e | e
        · cases e
          exact ⟨fun hS => hGD (h4 D hS hD), fun hL => (inL_append.1 hL).elim (fun h => by have := hClt D h; omega) (fun h => hGD (h5 D h))⟩
        · exact m3 D' e
      · rcases List.mem_cons.1 hm with e | e
        · cases e; exact Nat.le_trans hb.1 hD
        · exact hb.2 D' e
    refine wpIn_range (gf := gf) (lb := lb.toArray) (by rw [hv]) eg hsq (Nat.le_refl _) (fun b hb => (hRel b hb).1) (fun _ _ => rfl) hps
      (fun k => Rnd w S L C O Rel (I k)) (fun c => Rnd w S L C O Rel (Xp c)) (inL O) hOR
      (fun k G A W' h hk => h.keep hClt (Nat.le_refl _) hk) (fun c G A W' h hk => h.keep hClt (Nat.le_refl _) hk) (fun k G A h b hb => (h.g b hb).1) ?h0 ?hround ?hdone ?hstop
    case h0 =>
      exact ⟨⟨S, O, hI0, hp0, (Fr.refl w S L).perm (.refl _) hL, fun b hb h => by have := hs.hp.lt b hb; omega, fun _ h => h⟩, fun b hb => ⟨hp0.blt (inL_append.2 (.inr hb)), hOR b hb, hCO b hb, .inr hb⟩⟩
    case hdone =>
      intro D G W hD hDW hGD hR hWD
      obtain ⟨S', O', h1, h2, h3, h4⟩ := hend _ D G W hD hGD hR hWD
      exact hQr _ _ _ _ _ _ (hdone O' h1) h2 h3 h4
    case hstop =>
      intro D c G W hD hDW hGD hR hWD
      obtain ⟨S', O', h1, h2, h3, h4⟩ := hend _ D G W hD hGD hR hWD
      rcases hX c O' h1 with ⟨rfl, h5⟩ | ⟨id, rfl, h5⟩
      · exact wpIn_ret (hQr _ _ _ _ _ _ h5 h2 h3 h4)
      · exact wpIn_exit (hQr _ _ _ _ _ _ h5 h2 h3 h4)
    case hround =>
      intro l k G W hl hlW hGl hk hR
      obtain ⟨⟨S', O', h1, h2, h3, h4, h5⟩, hgg⟩ := hR
      have hkp := h3.kept hs.hp
      have hz : (ps.zip (vals k)).foldl (fun t (p, v) => t.setIfInBounds p v) a.tmps = (ps.toList.zip (vals k).toList).foldl (fun t p => t.setIfInBounds p.1 p.2) a.tmps := by
        rw [← Array.foldl_toList, Array.toList_zip]
      obtain ⟨s1, s2⟩ := rndSl_ok (w := W) (S := S') (n := n) (ps.toList.zip (vals k).toList) sl a.tmps hs.size (List.all_eq_true.2 fun p hp => List.all_eq_true.1 hpn p.1 (List.of_mem_zip hp).1) (fun x => (hs.sl x).move hkp)
      rw [hz]
      have hp2 : Hp W S' [] := ⟨by simp, List.Pairwise.nil, fun b hb => absurd hb inL_nil, h2.lt⟩
      refine wpIn_mono (hround l k O' hk h1 W S' _ W.heap.size ⟨hp2, s1, s2, .nil _ _ _⟩ ⟨Nat.le_refl _, fun D hm => (by cases hm)⟩ (fun ex a1 W1 => ex = .normal ∧ ∃ sl1 S1, AW P n (some l) body sl1 O' (rndQ (I (k + 1)) Xp) ∧ St n W1 S1 sl1 [] a1 ∧ Fr W S' [] W1 S1 [] ∧ MB W.heap.size W1 a1) ?_) ?_
      · rintro ex sl1 O1 S1 a1 W1 ⟨rfl, rfl, q1⟩ q2 q3 q4
        exact ⟨rfl, sl1, S1, q1, q2, q3, q4⟩
      · rintro ex a1 W1 ⟨rfl, sl1, S1, q1, q2, q3, q4⟩
        have hsame : ∀ b, b < W.heap.size → W1.heap[b]? = W.heap[b]? := fun b hb => q3.same b hb inL_nil
        refine ⟨⟨q3.os, q3.tape, q3.output, q3.size, hsame⟩, fun W2 e1 e2 e3 e4 e5 => ?_⟩
        have hlS : ¬ S1 l := fun h => by
          rcases q3.Sn l h hlW with h | h
          · exact hGl (h4 l h hl)
          · exact inL_nil h
        have hlC : ¬ inL C l := fun h => by have := hClt l h; omega
        have hlO : ¬ inL O' l := fun h => hGl (h5 l h)
        have hk12 : Kept W1 S1 W2 S1 := fun b hb _ => ⟨e5 b (by rintro rfl; exact hlS hb), hb⟩
        have hkS : Kept W S' W2 S1 := fun b hb hlt => ⟨(e5 b (by rintro rfl; exact hGl (h4 b hb hl))).trans (hsame b hlt), q3.SS b hb⟩
        have hblk : ∀ b, inL (C ++ O') b → W2.heap[b]? = W.heap[b]? := fun b hb => (e5 b (by rintro rfl; exact (inL_append.1 hb).elim hlC hlO)).trans (hsame b (h2.blt hb))
        have hp3 : Hp W2 S1 (O' ++ C) := by
          have : Hp W2 S1 (C ++ O') := ⟨fun c hc => (h2.ok c hc).move (fun b hb => hblk b ⟨c, hc, hb⟩) hkS, h2.ap, fun b hb hS => (by
            rcases q3.Sn b hS (h2.blt hb) with h | h
            · exact h2.out b hb h
            · exact inL_nil h), fun b hb => by rw [e4]; exact q2.hp.lt b hb⟩
          exact this.perm List.perm_append_comm
        have hst : St n W2 S1 sl1 O' a1 := ⟨hp3.left, q2.size, fun t => (q2.sl t).move hk12, by
          obtain ⟨U, m1, m2, m3⟩ := q2.df
          refine ⟨U, m1.move (Nat.le_refl _) fun b _ hm => e5 b (by rintro rfl; have := q4.2 b hm; omega), by omega, fun D hm => ⟨(m3 D hm).1, fun hL => ?_⟩⟩
          have := q4.2 D hm
          have := h2.blt (inL_append.2 (.inr hL) : inL (C ++ O') D)
          omega⟩
        refine q1 W2 S1 a1 W.heap.size hst ⟨by rw [e4]; exact q3.size, q4.2⟩ _ fun ex sl2 O2 S2 a2 W3 k1 k2 k3 k4 => ?_
        -- the end of a round
        obtain ⟨f1, f2⟩ := hp3.frame k2.hp k3
        have hfW : Fr w S L W2 S1 (O' ++ C) := by
          refine ⟨e1.trans (q3.os.trans h3.os), e2.trans (q3.tape.trans h3.tape), e3.trans (q3.output.trans h3.output), by rw [e4]; exact Nat.le_trans h3.size q3.size, fun b hb hn => ?_, fun b hb => q3.SS b (h3.SS b hb), fun b hb hlt => ?_, fun b hb hlt => ?_⟩
          · exact (e5 b (by omega)).trans ((hsame b (Nat.lt_of_lt_of_le hb h3.size)).trans (h3.same b hb hn))
          · rcases q3.Sn b hb (Nat.lt_of_lt_of_le hlt h3.size) with h | h
            · exact h3.Sn b h hlt
            · exact absurd h inL_nil
          · exact h3.Ln b (inL_append.2 ((inL_append.1 hb).symm)) hlt
        have hfin := hfW.trans f2
        have mk : ∀ J : List Ch → Prop, J O2 → ∃ G', Own W.heap.size G G' W2 W3 ∧ Rnd w S L C O Rel J G' W3 := fun J hJ => by
          refine ⟨fun b => (G b ∨ (W.heap.size ≤ b ∧ (S2 b ∨ inL O2 b))), ⟨k3.os, k3.tape, k3.output, k3.size, fun b h => .inl h, fun b h => h.imp id (·.1), fun b hb hg => k3.same b (by rw [e4]; exact Nat.lt_of_lt_of_le hb q3.size) fun hi => hg (h5 b hi)⟩, ⟨S2, O2, hJ, f1.perm List.perm_append_comm, hfin.perm (.refl _) List.perm_append_comm, fun b hb hlt => ?_, fun b hb => ?_⟩, fun b hb => ?_⟩
          · by_cases hbW : W.heap.size ≤ b
            · exact .inr ⟨hbW, .inl hb⟩
            · left
              rcases k3.Sn b hb (by rw [e4]; have := q3.size; omega) with h | h
              · rcases q3.Sn b h (by omega) with h | h
                · exact h4 b h hlt
                · exact absurd h inL_nil
              · exact h5 b h
          · by_cases hbW : W.heap.size ≤ b
            · exact .inr ⟨hbW, .inr hb⟩
            · left
              exact h5 b (k3.Ln b hb (by rw [e4]; have := q3.size; omega))
          · rcases hb with hb | ⟨hb, hb2⟩
            · obtain ⟨a1, a2⟩ := hgg b hb
              exact ⟨Nat.lt_of_lt_of_le a1 (Nat.le_trans q3.size (by rw [← e4]; exact k3.size)), a2⟩
            · have hwb : w.heap.size ≤ b := Nat.le_trans h3.size hb
              refine ⟨hb2.elim (k2.hp.lt b) (fun h => k2.hp.blt h), fun h => ?_, fun h => ?_, .inl hwb⟩
              · have := (hRel b h).1; omega
              · have := hClt b h; omega
        cases ex with
        | normal => exact mk _ k1
        | ret => exact mk _ k1
        | exit id => exact mk _ k1
        | _ => exact k1.elim
end Go.Proofs.Ytlagablcopmhkaa
/- The types of this seat, as instances. Printed by gen_ty.py. -/
namespace Go.Proofs.Ytlagablcopmhkaa
open Go.RowKit
instance : TyS Try.prog 3 1 false := ⟨Try.sizeOf3, Try.isAgg3⟩
instance : TyS Try.prog 4 1 false := ⟨Try.sizeOf4, Try.isAgg4⟩
instance : TyS Try.prog 5 1 false := ⟨Try.sizeOf5, Try.isAgg5⟩
instance : TyS Try.prog 9 1 false := ⟨Try.sizeOf9, Try.isAgg9⟩
instance : TyS Try.prog 22 1 false := ⟨Try.sizeOf22, Try.isAgg22⟩
instance : TyS Try.prog 23 1 false := ⟨Try.sizeOf23, Try.isAgg23⟩
instance : TyS Try.prog 24 1 false := ⟨Try.sizeOf24, Try.isAgg24⟩
instance : TyS Try.prog 26 5 true := ⟨Try.sizeOf26, Try.isAgg26⟩
instance : TyS Try.prog 30 1 false := ⟨Try.sizeOf30, Try.isAgg30⟩
instance : TyS Try.prog 33 1 false := ⟨Try.sizeOf33, Try.isAgg33⟩
instance : TyS Try.prog 36 1 false := ⟨Try.sizeOf36, Try.isAgg36⟩
instance : TyS Try.prog 37 4 true := ⟨Try.sizeOf37, Try.isAgg37⟩
instance : TyS Try.prog 38 4 true := ⟨Try.sizeOf38, Try.isAgg38⟩
instance : TyS Try.prog 39 1 false := ⟨Try.sizeOf39, Try.isAgg39⟩
instance : TyS Try.prog 41 8 true := ⟨Try.sizeOf41, Try.isAgg41⟩
instance : TyS Try.prog 66 10 true := ⟨Try.sizeOf66, Try.isAgg66⟩
instance : TyS Try.prog 77 1 false := ⟨Try.sizeOf77, Try.isAgg77⟩
instance : TyS Try.prog 79 5 true := ⟨Try.sizeOf79, Try.isAgg79⟩
instance : TyS Try.prog 94 1 false := ⟨Try.sizeOf94, Try.isAgg94⟩
instance : TyS Try.prog 95 1 false := ⟨Try.sizeOf95, Try.isAgg95⟩
instance : TyS Try.prog 96 1 false := ⟨Try.sizeOf96, Try.isAgg96⟩
instance : TyS Try.prog 98 2 true := ⟨Try.sizeOf98, Try.isAgg98⟩
instance : TyS Try.prog 100 7 true := ⟨Try.sizeOf100, Try.isAgg100⟩
instance : TyS Try.prog 102 15 true := ⟨Try.sizeOf102, Try.isAgg102⟩
instance : TyS Try.prog 103 1 false := ⟨Try.sizeOf103, Try.isAgg103⟩
instance : TyS Try.prog 106 3 true := ⟨Try.sizeOf106, Try.isAgg106⟩
instance : TyS Try.prog 127 9 true := ⟨Try.sizeOf127, Try.isAgg127⟩
instance : TyS Try.prog 129 2 true := ⟨Try.sizeOf129, Try.isAgg129⟩
instance : TyS Try.prog 130 1 false := ⟨Try.sizeOf130, Try.isAgg130⟩
instance : TyS Try.prog 141 256 true := ⟨Try.sizeOf141, Try.isAgg141⟩
instance : TyS Try.prog 148 7 true := ⟨Try.sizeOf148, Try.isAgg148⟩
instance : TyS Try.prog 150 1 false := ⟨Try.sizeOf150, Try.isAgg150⟩
instance : TyS Try.prog 161 7 true := ⟨Try.sizeOf161, Try.isAgg161⟩
instance : TyS Try.prog 163 1 false := ⟨Try.sizeOf163, Try.isAgg163⟩
instance : TyS Try.prog 181 1 false := ⟨Try.sizeOf181, Try.isAgg181⟩
instance : TyZ Try.prog 3 [Value.int IntKind.i64 0] := ⟨fun w => ⟨_, Try.zeroValue3 w, rfl⟩, rfl⟩
instance : TyZL Try.prog 3 [Value.int IntKind.i64 0] := ⟨(by
           have h : (Try.prog.info? 3).bind (·.zero) = some (Value.int IntKind.i64 0) := by kernel_rfl
           cases hi : Try.prog.info? 3 with
           | none => rw [hi] at h; cases h
           | some i => rw [hi] at h; exact ⟨i, _, rfl, h, rfl⟩), rfl, by decide⟩
instance : TyZ Try.prog 4 [Value.bool false] := ⟨fun w => ⟨_, Try.zeroValue4 w, rfl⟩, rfl⟩
instance : TyZL Try.prog 4 [Value.bool false] := ⟨(by
           have h : (Try.prog.info? 4).bind (·.zero) = some (Value.bool false) := by kernel_rfl
           cases hi : Try.prog.info? 4 with
           | none => rw [hi] at h; cases h
           | some i => rw [hi] at h; exact ⟨i, _, rfl, h, rfl⟩), rfl, by decide⟩
instance : TyZL Try.prog 5 [Value.int IntKind.u8 0] := ⟨(by
           have h : (Try.prog.info? 5).bind (·.zero) = some (Value.int IntKind.u8 0) := by kernel_rfl
           cases hi : Try.prog.info? 5 with
           | none => rw [hi] at h; cases h
           | some i => rw [hi] at h; exact ⟨i, _, rfl, h, rfl⟩), rfl, by decide⟩
instance : TyZL Try.prog 9 [Value.string { data := #[] }] := ⟨(by
           have h : (Try.prog.info? 9).bind (·.zero) = some (Value.string { data := #[] }) := by kernel_rfl
           cases hi : Try.prog.info? 9 with
           | none => rw [hi] at h; cases h
           | some i => rw [hi] at h; exact ⟨i, _, rfl, h, rfl⟩), rfl, by decide⟩
instance : TyZ Try.prog 24 [Value.slice none 0 0] := ⟨fun w => ⟨_, Try.zeroValue24 w, rfl⟩, rfl⟩
instance : TyZL Try.prog 24 [Value.slice none 0 0] := ⟨(by
           have h : (Try.prog.info? 24).bind (·.zero) = some (Value.slice none 0 0) := by kernel_rfl
           cases hi : Try.prog.info? 24 with
           | none => rw [hi] at h; cases h
           | some i => rw [hi] at h; exact ⟨i, _, rfl, h, rfl⟩), rfl, by decide⟩
instance : TyZ Try.prog 26 [Value.slice none 0 0, Value.slice none 0 0, Value.slice none 0 0, Value.slice none 0 0, Value.bool false] := ⟨fun w => ⟨_, Try.zeroValue26 w, rfl⟩, rfl⟩
instance : TyZL Try.prog 30 [Value.slice none 0 0] := ⟨(by
           have h : (Try.prog.info? 30).bind (·.zero) = some (Value.slice none 0 0) := by kernel_rfl
           cases hi : Try.prog.info? 30 with
           | none => rw [hi] at h; cases h
           | some i => rw [hi] at h; exact ⟨i, _, rfl, h, rfl⟩), rfl, by decide⟩
instance : TyZL Try.prog 33 [Value.int IntKind.i64 0] := ⟨(by
           have h : (Try.prog.info? 33).bind (·.zero) = some (Value.int IntKind.i64 0) := by kernel_rfl
           cases hi : Try.prog.info? 33 with
           | none => rw [hi] at h; cases h
           | some i => rw [hi] at h; exact ⟨i, _, rfl, h, rfl⟩), rfl, by decide⟩
instance : TyZ Try.prog 38 [Value.int IntKind.u64 0, Value.int IntKind.u64 0, Value.int IntKind.u64 0, Value.int IntKind.u64 0] := ⟨fun w => ⟨_, Try.zeroValue38 w, rfl⟩, rfl⟩
instance : TyZL Try.prog 38 [Value.int IntKind.u64 0, Value.int IntKind.u64 0, Value.int IntKind.u64 0, Value.int IntKind.u64 0] := ⟨(by
           have h : (Try.prog.info? 38).bind (·.zero) = some (Value.agg #[Value.int IntKind.u64 0, Value.int IntKind.u64 0, Value.int IntKind.u64 0, Value.int IntKind.u64 0]) := by kernel_rfl
           cases hi : Try.prog.info? 38 with
           | none => rw [hi] at h; cases h
           | some i => rw [hi] at h; exact ⟨i, _, rfl, h, rfl⟩), rfl, by decide⟩
instance : TyZ Try.prog 41 [Value.int IntKind.u8 0, Value.int IntKind.u64 0, Value.int IntKind.u64 0, Value.int IntKind.u64 0, Value.int IntKind.u64 0, Value.int IntKind.i64 0, Value.int IntKind.i64 0, Value.slice none 0 0] := ⟨fun w => ⟨_, Try.zeroValue41 w, rfl⟩, rfl⟩
instance : TyZL Try.prog 41 [Value.int IntKind.u8 0, Value.int IntKind.u64 0, Value.int IntKind.u64 0, Value.int IntKind.u64 0, Value.int IntKind.u64 0, Value.int IntKind.i64 0, Value.int IntKind.i64 0, Value.slice none 0 0] := ⟨(by
           have h : (Try.prog.info? 41).bind (·.zero) = some (Value.agg #[Value.int IntKind.u8 0, Value.int IntKind.u64 0, Value.int IntKind.u64 0, Value.int IntKind.u64 0, Value.int IntKind.u64 0, Value.int IntKind.i64 0, Value.int IntKind.i64 0, Value.slice none 0 0]) := by kernel_rfl
           cases hi : Try.prog.info? 41 with
           | none => rw [hi] at h; cases h
           | some i => rw [hi] at h; exact ⟨i, _, rfl, h, rfl⟩), rfl, by decide⟩
instance : TyZ Try.prog 79 [Value.slice none 0 0, Value.slice none 0 0, Value.slice none 0 0, Value.slice none 0 0, Value.bool false] := ⟨fun w => ⟨_, Try.zeroValue79 w, rfl⟩, rfl⟩
instance : TyZ Try.prog 100 [Value.int IntKind.u64 0, Value.int IntKind.u64 0, Value.int IntKind.u64 0, Value.int IntKind.u64 0, Value.int IntKind.u64 0, Value.int IntKind.u64 0, Value.int IntKind.u64 0] := ⟨fun w => ⟨_, Try.zeroValue100 w, rfl⟩, rfl⟩
instance : TyZL Try.prog 100 [Value.int IntKind.u64 0, Value.int IntKind.u64 0, Value.int IntKind.u64 0, Value.int IntKind.u64 0, Value.int IntKind.u64 0, Value.int IntKind.u64 0, Value.int IntKind.u64 0] := ⟨(by
           have h : (Try.prog.info? 100).bind (·.zero) = some (Value.agg #[Value.int IntKind.u64 0, Value.int IntKind.u64 0, Value.int IntKind.u64 0, Value.int IntKind.u64 0, Value.int IntKind.u64 0, Value.int IntKind.u64 0, Value.int IntKind.u64 0]) := by kernel_rfl
           cases hi : Try.prog.info? 100 with
           | none => rw [hi] at h; cases h
           | some i => rw [hi] at h; exact ⟨i, _, rfl, h, rfl⟩), rfl, by decide⟩
instance : TyZ Try.prog 102 [Value.int IntKind.u64 0, Value.int IntKind.u64 0, Value.int IntKind.u64 0, Value.int IntKind.u64 0, Value.int IntKind.u64 0, Value.int IntKind.u64 0, Value.int IntKind.u64 0, Value.int IntKind.u64 0, Value.int IntKind.u64 0, Value.int IntKind.u64 0, Value.int IntKind.u64 0, Value.int IntKind.u64 0, Value.int IntKind.u64 0, Value.int IntKind.u64 0, Value.bool false] := ⟨fun w => ⟨_, Try.zeroValue102 w, rfl⟩, rfl⟩
instance : TyZ Try.prog 106 [Value.int IntKind.u8 0, Value.int IntKind.u8 0, Value.int IntKind.u8 0] := ⟨fun w => ⟨_, Try.zeroValue106 w, rfl⟩, rfl⟩
instance : TyZL Try.prog 106 [Value.int IntKind.u8 0, Value.int IntKind.u8 0, Value.int IntKind.u8 0] := ⟨(by
           have h : (Try.prog.info? 106).bind (·.zero) = some (Value.agg #[Value.int IntKind.u8 0, Value.int IntKind.u8 0, Value.int IntKind.u8 0]) := by kernel_rfl
           cases hi : Try.prog.info? 106 with
           | none => rw [hi] at h; cases h
           | some i => rw [hi] at h; exact ⟨i, _, rfl, h, rfl⟩), rfl, by decide⟩
instance : TyZ Try.prog 127 [Value.int IntKind.u64 0, Value.int IntKind.u64 0, Value.int IntKind.u64 0, Value.int IntKind.u64 0, Value.int IntKind.u64 0, Value.int IntKind.u64 0, Value.int IntKind.u64 0, Value.int IntKind.u64 0, Value.int IntKind.u64 0] := ⟨fun w => ⟨_, Try.zeroValue127 w, rfl⟩, rfl⟩
instance : TyZ Try.prog 148 [Value.nilFunc, Value.nilFunc, Value.nilFunc, Value.nilFunc, Value.nilFunc, Value.nilFunc, Value.nilFunc] := ⟨fun w => ⟨_, Try.zeroValue148 w, rfl⟩, rfl⟩
instance : TyZ Try.prog 161 [Value.nilFunc, Value.nilFunc, Value.nilFunc, Value.nilFunc, Value.nilFunc, Value.nilFunc, Value.nilFunc] := ⟨fun w => ⟨_, Try.zeroValue161 w, rfl⟩, rfl⟩
instance : TyZ Try.prog 181 [Value.int IntKind.u64 0] := ⟨fun w => ⟨_, Try.zeroValue181 w, rfl⟩, rfl⟩
instance : TyBool Try.prog 4 := ⟨Try.underlying4⟩
instance : TyL Try.prog 22 38 4 32 := ⟨Try.underlying22, (by
           have h : (Try.prog.info? 38).map (fun i => (i.zero.map (·.cells.size), i.size, i.bytes)) = some (some 4, 4, 32) := by kernel_rfl
           cases hi : Try.prog.info? 38 with
           | none => rw [hi] at h; cases h
           | some i =>
             rw [hi] at h
             simp only [Option.map_some, Option.some.injEq, Prod.mk.injEq] at h
             cases hz : i.zero with
             | none => rw [hz] at h; simp at h
             | some z => rw [hz] at h; exact ⟨i, z, rfl, hz, by simpa using h.1, h.2.1, h.2.2⟩), by decide⟩
instance : TyL Try.prog 23 24 1 24 := ⟨Try.underlying23, (by
           have h : (Try.prog.info? 24).map (fun i => (i.zero.map (·.cells.size), i.size, i.bytes)) = some (some 1, 1, 24) := by kernel_rfl
           cases hi : Try.prog.info? 24 with
           | none => rw [hi] at h; cases h
           | some i =>
             rw [hi] at h
             simp only [Option.map_some, Option.some.injEq, Prod.mk.injEq] at h
             cases hz : i.zero with
             | none => rw [hz] at h; simp at h
             | some z => rw [hz] at h; exact ⟨i, z, rfl, hz, by simpa using h.1, h.2.1, h.2.2⟩), by decide⟩
instance : TyL Try.prog 24 3 1 8 := ⟨Try.underlying24, (by
           have h : (Try.prog.info? 3).map (fun i => (i.zero.map (·.cells.size), i.size, i.bytes)) = some (some 1, 1, 8) := by kernel_rfl
           cases hi : Try.prog.info? 3 with
           | none => rw [hi] at h; cases h
           | some i =>
             rw [hi] at h
             simp only [Option.map_some, Option.some.injEq, Prod.mk.injEq] at h
             cases hz : i.zero with
             | none => rw [hz] at h; simp at h
             | some z => rw [hz] at h; exact ⟨i, z, rfl, hz, by simpa using h.1, h.2.1, h.2.2⟩), by decide⟩
instance : TyF Try.prog 26 0 0 := ⟨fun w b o => by simp [Instr.fieldAt, run_underlying Try.underlying26, Instr.sureAddr, fieldPlace, Try.sizeOf22, Addr.add_mid]⟩
instance : TyF Try.prog 26 1 1 := ⟨fun w b o => by simp [Instr.fieldAt, run_underlying Try.underlying26, Instr.sureAddr, fieldPlace, Try.sizeOf23, Addr.add_mid]⟩
instance : TyF Try.prog 26 2 2 := ⟨fun w b o => by simp [Instr.fieldAt, run_underlying Try.underlying26, Instr.sureAddr, fieldPlace, Try.sizeOf24, Addr.add_mid]⟩
instance : TyF Try.prog 26 3 3 := ⟨fun w b o => by simp [Instr.fieldAt, run_underlying Try.underlying26, Instr.sureAddr, fieldPlace, Try.sizeOf24, Addr.add_mid]⟩
instance : TyF Try.prog 26 4 4 := ⟨fun w b o => by simp [Instr.fieldAt, run_underlying Try.underlying26, Instr.sureAddr, fieldPlace, Try.sizeOf4, Addr.add_mid]⟩
instance : TyB Try.prog 26 [Value.slice none 0 0, Value.slice none 0 0, Value.slice none 0 0, Value.slice none 0 0, Value.bool false] (fun i => ([(0, 1), (1, 1), (2, 1), (3, 1), (4, 1)] : List (Nat × Nat))[i]?) := ⟨(fun w parts cells h => by
  (try simp at h)
  simp [Instr.build, run_underlying Try.underlying26, Try.zeroValue26, Try.sizeOf22, Try.sizeOf23, Try.sizeOf24, Try.sizeOf4, Value.cells, h]), rfl⟩
instance : TyL Try.prog 30 5 1 1 := ⟨Try.underlying30, (by
           have h : (Try.prog.info? 5).map (fun i => (i.zero.map (·.cells.size), i.size, i.bytes)) = some (some 1, 1, 1) := by kernel_rfl
           cases hi : Try.prog.info? 5 with
           | none => rw [hi] at h; cases h
           | some i =>
             rw [hi] at h
             simp only [Option.map_some, Option.some.injEq, Prod.mk.injEq] at h
             cases hz : i.zero with
             | none => rw [hz] at h; simp at h
             | some z => rw [hz] at h; exact ⟨i, z, rfl, hz, by simpa using h.1, h.2.1, h.2.2⟩), by decide⟩
instance : TyL Try.prog 32 106 3 3 := ⟨Try.underlying32, (by
           have h : (Try.prog.info? 106).map (fun i => (i.zero.map (·.cells.size), i.size, i.bytes)) = some (some 3, 3, 3) := by kernel_rfl
           cases hi : Try.prog.info? 106 with
           | none => rw [hi] at h; cases h
           | some i =>
             rw [hi] at h
             simp only [Option.map_some, Option.some.injEq, Prod.mk.injEq] at h
             cases hz : i.zero with
             | none => rw [hz] at h; simp at h
             | some z => rw [hz] at h; exact ⟨i, z, rfl, hz, by simpa using h.1, h.2.1, h.2.2⟩), by decide⟩
instance : TyA Try.prog 37 4 36 1 := ⟨Try.underlying37, Try.sizeOf36⟩
instance : TyA Try.prog 38 4 36 1 := ⟨Try.underlying38, Try.sizeOf36⟩
instance : TyB Try.prog 38 [Value.int IntKind.u64 0, Value.int IntKind.u64 0, Value.int IntKind.u64 0, Value.int IntKind.u64 0] (fun i => some (i * 1, 1)) := ⟨(fun w parts cells h => by
  (try simp at h)
  simp [Instr.build, run_underlying Try.underlying38, Try.zeroValue38, Try.sizeOf36, Value.cells, h]), rfl⟩
instance : TyL Try.prog 39 41 8 80 := ⟨Try.underlying39, (by
           have h : (Try.prog.info? 41).map (fun i => (i.zero.map (·.cells.size), i.size, i.bytes)) = some (some 8, 8, 80) := by kernel_rfl
           cases hi : Try.prog.info? 41 with
           | none => rw [hi] at h; cases h
           | some i =>
             rw [hi] at h
             simp only [Option.map_some, Option.some.injEq, Prod.mk.injEq] at h
             cases hz : i.zero with
             | none => rw [hz] at h; simp at h
             | some z => rw [hz] at h; exact ⟨i, z, rfl, hz, by simpa using h.1, h.2.1, h.2.2⟩), by decide⟩
instance : TyF Try.prog 41 0 0 := ⟨fun w b o => by simp [Instr.fieldAt, run_underlying Try.underlying41, Instr.sureAddr, fieldPlace, Try.sizeOf5, Addr.add_mid]⟩
instance : TyF Try.prog 41 1 1 := ⟨fun w b o => by simp [Instr.fieldAt, run_underlying Try.underlying41, Instr.sureAddr, fieldPlace, Try.sizeOf38, Addr.add_mid]⟩
instance : TyF Try.prog 41 2 5 := ⟨fun w b o => by simp [Instr.fieldAt, run_underlying Try.underlying41, Instr.sureAddr, fieldPlace, Try.sizeOf3, Addr.add_mid]⟩
instance : TyF Try.prog 41 3 6 := ⟨fun w b o => by simp [Instr.fieldAt, run_underlying Try.underlying41, Instr.sureAddr, fieldPlace, Try.sizeOf3, Addr.add_mid]⟩
instance : TyF Try.prog 41 4 7 := ⟨fun w b o => by simp [Instr.fieldAt, run_underlying Try.underlying41, Instr.sureAddr, fieldPlace, Try.sizeOf39, Addr.add_mid]⟩
instance : TyB Try.prog 41 [Value.int IntKind.u8 0, Value.int IntKind.u64 0, Value.int IntKind.u64 0, Value.int IntKind.u64 0, Value.int IntKind.u64 0, Value.int IntKind.i64 0, Value.int IntKind.i64 0, Value.slice none 0 0] (fun i => ([(0, 1), (1, 4), (5, 1), (6, 1), (7, 1)] : List (Nat × Nat))[i]?) := ⟨(fun w parts cells h => by
  (try simp at h)
  simp [Instr.build, run_underlying Try.underlying41, Try.zeroValue41, Try.sizeOf3, Try.sizeOf38, Try.sizeOf39, Try.sizeOf5, Value.cells, h]), rfl⟩
instance : TyL Try.prog 60 33 1 8 := ⟨Try.underlying60, (by
           have h : (Try.prog.info? 33).map (fun i => (i.zero.map (·.cells.size), i.size, i.bytes)) = some (some 1, 1, 8) := by kernel_rfl
           cases hi : Try.prog.info? 33 with
           | none => rw [hi] at h; cases h
           | some i =>
             rw [hi] at h
             simp only [Option.map_some, Option.some.injEq, Prod.mk.injEq] at h
             cases hz : i.zero with
             | none => rw [hz] at h; simp at h
             | some z => rw [hz] at h; exact ⟨i, z, rfl, hz, by simpa using h.1, h.2.1, h.2.2⟩), by decide⟩
instance : TyF Try.prog 66 0 0 := ⟨fun w b o => by simp [Instr.fieldAt, run_underlying Try.underlying66, Instr.sureAddr, fieldPlace, Try.sizeOf4, Addr.add_mid]⟩
instance : TyF Try.prog 66 1 1 := ⟨fun w b o => by simp [Instr.fieldAt, run_underlying Try.underlying66, Instr.sureAddr, fieldPlace, Try.sizeOf4, Addr.add_mid]⟩
instance : TyF Try.prog 66 2 2 := ⟨fun w b o => by simp [Instr.fieldAt, run_underlying Try.underlying66, Instr.sureAddr, fieldPlace, Try.sizeOf41, Addr.add_mid]⟩
instance : TyB Try.prog 66 [Value.bool false, Value.bool false, Value.int IntKind.u8 0, Value.int IntKind.u64 0, Value.int IntKind.u64 0, Value.int IntKind.u64 0, Value.int IntKind.u64 0, Value.int IntKind.i64 0, Value.int IntKind.i64 0, Value.slice none 0 0] (fun i => ([(0, 1), (1, 1), (2, 8)] : List (Nat × Nat))[i]?) := ⟨(fun w parts cells h => by
  (try simp at h)
  simp [Instr.build, run_underlying Try.underlying66, Try.zeroValue66, Try.sizeOf4, Try.sizeOf41, Value.cells, h]), rfl⟩
instance : TyL Try.prog 67 4 1 1 := ⟨Try.underlying67, (by
           have h : (Try.prog.info? 4).map (fun i => (i.zero.map (·.cells.size), i.size, i.bytes)) = some (some 1, 1, 1) := by kernel_rfl
           cases hi : Try.prog.info? 4 with
           | none => rw [hi] at h; cases h
           | some i =>
             rw [hi] at h
             simp only [Option.map_some, Option.some.injEq, Prod.mk.injEq] at h
             cases hz : i.zero with
             | none => rw [hz] at h; simp at h
             | some z => rw [hz] at h; exact ⟨i, z, rfl, hz, by simpa using h.1, h.2.1, h.2.2⟩), by decide⟩
instance : TyL Try.prog 77 141 256 2048 := ⟨Try.underlying77, (by
           have h : (Try.prog.info? 141).map (fun i => (i.zero.map (·.cells.size), i.size, i.bytes)) = some (some 256, 256, 2048) := by kernel_rfl
           cases hi : Try.prog.info? 141 with
           | none => rw [hi] at h; cases h
           | some i =>
             rw [hi] at h
             simp only [Option.map_some, Option.some.injEq, Prod.mk.injEq] at h
             cases hz : i.zero with
             | none => rw [hz] at h; simp at h
             | some z => rw [hz] at h; exact ⟨i, z, rfl, hz, by simpa using h.1, h.2.1, h.2.2⟩), by decide⟩
instance : TyF Try.prog 79 0 0 := ⟨fun w b o => by simp [Instr.fieldAt, run_underlying Try.underlying79, Instr.sureAddr, fieldPlace, Try.sizeOf77, Addr.add_mid]⟩
instance : TyF Try.prog 79 1 1 := ⟨fun w b o => by simp [Instr.fieldAt, run_underlying Try.underlying79, Instr.sureAddr, fieldPlace, Try.sizeOf23, Addr.add_mid]⟩
instance : TyF Try.prog 79 2 2 := ⟨fun w b o => by simp [Instr.fieldAt, run_underlying Try.underlying79, Instr.sureAddr, fieldPlace, Try.sizeOf24, Addr.add_mid]⟩
instance : TyF Try.prog 79 3 3 := ⟨fun w b o => by simp [Instr.fieldAt, run_underlying Try.underlying79, Instr.sureAddr, fieldPlace, Try.sizeOf24, Addr.add_mid]⟩
instance : TyF Try.prog 79 4 4 := ⟨fun w b o => by simp [Instr.fieldAt, run_underlying Try.underlying79, Instr.sureAddr, fieldPlace, Try.sizeOf4, Addr.add_mid]⟩
instance : TyB Try.prog 79 [Value.slice none 0 0, Value.slice none 0 0, Value.slice none 0 0, Value.slice none 0 0, Value.bool false] (fun i => ([(0, 1), (1, 1), (2, 1), (3, 1), (4, 1)] : List (Nat × Nat))[i]?) := ⟨(fun w parts cells h => by
  (try simp at h)
  simp [Instr.build, run_underlying Try.underlying79, Try.zeroValue79, Try.sizeOf23, Try.sizeOf24, Try.sizeOf4, Try.sizeOf77, Value.cells, h]), rfl⟩
instance : TyL Try.prog 96 100 7 56 := ⟨Try.underlying96, (by
           have h : (Try.prog.info? 100).map (fun i => (i.zero.map (·.cells.size), i.size, i.bytes)) = some (some 7, 7, 56) := by kernel_rfl
           cases hi : Try.prog.info? 100 with
           | none => rw [hi] at h; cases h
           | some i =>
             rw [hi] at h
             simp only [Option.map_some, Option.some.injEq, Prod.mk.injEq] at h
             cases hz : i.zero with
             | none => rw [hz] at h; simp at h
             | some z => rw [hz] at h; exact ⟨i, z, rfl, hz, by simpa using h.1, h.2.1, h.2.2⟩), by decide⟩
instance : TyF Try.prog 98 0 0 := ⟨fun w b o => by simp [Instr.fieldAt, run_underlying Try.underlying98, Instr.sureAddr, fieldPlace, Try.sizeOf22, Addr.add_mid]⟩
instance : TyF Try.prog 98 1 1 := ⟨fun w b o => by simp [Instr.fieldAt, run_underlying Try.underlying98, Instr.sureAddr, fieldPlace, Try.sizeOf96, Addr.add_mid]⟩
instance : TyB Try.prog 98 [Value.slice none 0 0, Value.slice none 0 0] (fun i => ([(0, 1), (1, 1)] : List (Nat × Nat))[i]?) := ⟨(fun w parts cells h => by
  (try simp at h)
  simp [Instr.build, run_underlying Try.underlying98, Try.zeroValue98, Try.sizeOf22, Try.sizeOf96, Value.cells, h]), rfl⟩
instance : TyA Try.prog 99 7 36 1 := ⟨Try.underlying99, Try.sizeOf36⟩
instance : TyA Try.prog 100 7 36 1 := ⟨Try.underlying100, Try.sizeOf36⟩
instance : TyB Try.prog 100 [Value.int IntKind.u64 0, Value.int IntKind.u64 0, Value.int IntKind.u64 0, Value.int IntKind.u64 0, Value.int IntKind.u64 0, Value.int IntKind.u64 0, Value.int IntKind.u64 0] (fun i => some (i * 1, 1)) := ⟨(fun w parts cells h => by
  (try simp at h)
  simp [Instr.build, run_underlying Try.underlying100, Try.zeroValue100, Try.sizeOf36, Value.cells, h]), rfl⟩
instance : TyF Try.prog 102 0 0 := ⟨fun w b o => by simp [Instr.fieldAt, run_underlying Try.underlying102, Instr.sureAddr, fieldPlace, Try.sizeOf100, Addr.add_mid]⟩
instance : TyF Try.prog 102 1 7 := ⟨fun w b o => by simp [Instr.fieldAt, run_underlying Try.underlying102, Instr.sureAddr, fieldPlace, Try.sizeOf100, Addr.add_mid]⟩
instance : TyF Try.prog 102 2 14 := ⟨fun w b o => by simp [Instr.fieldAt, run_underlying Try.underlying102, Instr.sureAddr, fieldPlace, Try.sizeOf4, Addr.add_mid]⟩
instance : TyB Try.prog 102 [Value.int IntKind.u64 0, Value.int IntKind.u64 0, Value.int IntKind.u64 0, Value.int IntKind.u64 0, Value.int IntKind.u64 0, Value.int IntKind.u64 0, Value.int IntKind.u64 0, Value.int IntKind.u64 0, Value.int IntKind.u64 0, Value.int IntKind.u64 0, Value.int IntKind.u64 0, Value.int IntKind.u64 0, Value.int IntKind.u64 0, Value.int IntKind.u64 0, Value.bool false] (fun i => ([(0, 7), (7, 7), (14, 1)] : List (Nat × Nat))[i]?) := ⟨(fun w parts cells h => by
  (try simp at h)
  simp [Instr.build, run_underlying Try.underlying102, Try.zeroValue102, Try.sizeOf100, Try.sizeOf4, Value.cells, h]), rfl⟩
instance : TyF Try.prog 106 0 0 := ⟨fun w b o => by simp [Instr.fieldAt, run_underlying Try.underlying106, Instr.sureAddr, fieldPlace, Try.sizeOf5, Addr.add_mid]⟩
instance : TyF Try.prog 106 1 1 := ⟨fun w b o => by simp [Instr.fieldAt, run_underlying Try.underlying106, Instr.sureAddr, fieldPlace, Try.sizeOf5, Addr.add_mid]⟩
instance : TyF Try.prog 106 2 2 := ⟨fun w b o => by simp [Instr.fieldAt, run_underlying Try.underlying106, Instr.sureAddr, fieldPlace, Try.sizeOf5, Addr.add_mid]⟩
instance : TyA Try.prog 126 9 36 1 := ⟨Try.underlying126, Try.sizeOf36⟩
instance : TyA Try.prog 127 9 36 1 := ⟨Try.underlying127, Try.sizeOf36⟩
instance : TyB Try.prog 127 [Value.int IntKind.u64 0, Value.int IntKind.u64 0, Value.int IntKind.u64 0, Value.int IntKind.u64 0, Value.int IntKind.u64 0, Value.int IntKind.u64 0, Value.int IntKind.u64 0, Value.int IntKind.u64 0, Value.int IntKind.u64 0] (fun i => some (i * 1, 1)) := ⟨(fun w parts cells h => by
  (try simp at h)
  simp [Instr.build, run_underlying Try.underlying127, Try.zeroValue127, Try.sizeOf36, Value.cells, h]), rfl⟩
instance : TyF Try.prog 129 0 0 := ⟨fun w b o => by simp [Instr.fieldAt, run_underlying Try.underlying129, Instr.sureAddr, fieldPlace, Try.sizeOf30, Addr.add_mid]⟩
instance : TyF Try.prog 129 1 1 := ⟨fun w b o => by simp [Instr.fieldAt, run_underlying Try.underlying129, Instr.sureAddr, fieldPlace, Try.sizeOf4, Addr.add_mid]⟩
instance : TyB Try.prog 129 [Value.slice none 0 0, Value.bool false] (fun i => ([(0, 1), (1, 1)] : List (Nat × Nat))[i]?) := ⟨(fun w parts cells h => by
  (try simp at h)
  simp [Instr.build, run_underlying Try.underlying129, Try.zeroValue129, Try.sizeOf30, Try.sizeOf4, Value.cells, h]), rfl⟩
instance : TyL Try.prog 134 30 1 24 := ⟨Try.underlying134, (by
           have h : (Try.prog.info? 30).map (fun i => (i.zero.map (·.cells.size), i.size, i.bytes)) = some (some 1, 1, 24) := by kernel_rfl
           cases hi : Try.prog.info? 30 with
           | none => rw [hi] at h; cases h
           | some i =>
             rw [hi] at h
             simp only [Option.map_some, Option.some.injEq, Prod.mk.injEq] at h
             cases hz : i.zero with
             | none => rw [hz] at h; simp at h
             | some z => rw [hz] at h; exact ⟨i, z, rfl, hz, by simpa using h.1, h.2.1, h.2.2⟩), by decide⟩
instance : TyA Try.prog 140 256 3 1 := ⟨Try.underlying140, Try.sizeOf3⟩
instance : TyA Try.prog 141 256 3 1 := ⟨Try.underlying141, Try.sizeOf3⟩
instance : TyA Try.prog 148 7 103 1 := ⟨Try.underlying148, Try.sizeOf103⟩
instance : TyB Try.prog 148 [Value.nilFunc, Value.nilFunc, Value.nilFunc, Value.nilFunc, Value.nilFunc, Value.nilFunc, Value.nilFunc] (fun i => some (i * 1, 1)) := ⟨(fun w parts cells h => by
  (try simp at h)
  simp [Instr.build, run_underlying Try.underlying148, Try.zeroValue148, Try.sizeOf103, Value.cells, h]), rfl⟩
instance : TyL Try.prog 155 9 1 16 := ⟨Try.underlying155, (by
           have h : (Try.prog.info? 9).map (fun i => (i.zero.map (·.cells.size), i.size, i.bytes)) = some (some 1, 1, 16) := by kernel_rfl
           cases hi : Try.prog.info? 9 with
           | none => rw [hi] at h; cases h
           | some i =>
             rw [hi] at h
             simp only [Option.map_some, Option.some.injEq, Prod.mk.injEq] at h
             cases hz : i.zero with
             | none => rw [hz] at h; simp at h
             | some z => rw [hz] at h; exact ⟨i, z, rfl, hz, by simpa using h.1, h.2.1, h.2.2⟩), by decide⟩
instance : TyA Try.prog 161 7 130 1 := ⟨Try.underlying161, Try.sizeOf130⟩
instance : TyB Try.prog 161 [Value.nilFunc, Value.nilFunc, Value.nilFunc, Value.nilFunc, Value.nilFunc, Value.nilFunc, Value.nilFunc] (fun i => some (i * 1, 1)) := ⟨(fun w parts cells h => by
  (try simp at h)
  simp [Instr.build, run_underlying Try.underlying161, Try.zeroValue161, Try.sizeOf130, Value.cells, h]), rfl⟩
instance : TyA Try.prog 196 0 16 1 := ⟨Try.underlying196, Try.sizeOf16⟩
end Go.Proofs.Ytlagablcopmhkaa
/- Walking with descriptions: rules of one kind for many operations, so that the walk's script is short. -/
namespace Go.Proofs.Ytlagablcopmhkaa
open Go.RowKit

/-- a chunk at a place -/
inductive At : List Ch → Nat → Ch → Prop
  | z {c : Ch} {L : List Ch} : At (c :: L) 0 c
  | s {c x : Ch} {L : List Ch} {i : Nat} (h : At L i c) : At (x :: L) (i + 1) c
theorem At.get {L : List Ch} {i : Nat} {c : Ch} (h : At L i c) : L[i]? = some c := by
  induction h with
  | z => rfl
  | s _ ih => exact ih

section
variable {P : Program} {n : Nat} {o : Oper} {sl : Sl} {L : List Ch} {K : Sl → List Ch → Prop}
/-- what an operation that looks at no memory gives -/
def qv (sl : Sl) : Op → Option V
  | .move x => some (ev sl x)
  | .assign x => some (ev sl x)
  | .pick c x y => match ev sl c with
    | .d (.v (.bool t)) => some (bif t then ev sl x else ev sl y)
    | _ => none
  | .unOp .not _ x => match ev sl x with
    | .d (.v (.bool t)) => some (.b (!t))
    | _ => none
  | .extract x i => match ev sl x with
    | .t cs => cs[i]?
    | _ => none
  | .nilCheck x => match ev sl x with
    | .d (.v (.pointer (some ⟨b, o', none⟩))) => some (.ptr b o')
    | _ => none
  | .makeFunc fn first cap => some (.f fn (first.toList.map (ev sl)) (cap.toList.map (ev sl)))
  | _ => none
theorem gq {c : V} (hq : qv sl o.op = some c) (hd : dstOk n o.dst = true) (hK : K (put sl o.dst c) L) : AOp P n o sl L K := by
  unfold qv at hq
  split at hq
  · rename_i x ho; cases hq; exact aop_move _ ho hd rfl hK
  · rename_i x ho; cases hq; exact aop_assign _ ho hd rfl hK
  · rename_i c0 x y ho
    split at hq
    · rename_i t hc; cases hq; exact aop_pick ho hd t hc hK
    · cases hq
  · rename_i t0 x ho
    split at hq
    · rename_i t hx; cases hq; exact aop_not ho hd t hx _ rfl hK
    · cases hq
  · rename_i x i ho
    split at hq
    · rename_i cs hx; exact aop_extract ho hd hx hq hK
    · cases hq
  · rename_i x ho
    split at hq
    · rename_i b o' hx; cases hq; exact aop_nilCheck ho hd hx hK
    · cases hq
  · rename_i fn first cap ho; cases hq; exact aop_makeFunc ho hd hK
  · cases hq
theorem qd {x : D} (hq : qv sl o.op = some (.d x)) (hd : dstOk n o.dst = true) (hK : K (put sl o.dst (.d x)) L) : AOp P n o sl L K := gq hq hd hK
theorem qa {x : List V} (hq : qv sl o.op = some (.a x)) (hd : dstOk n o.dst = true) (hK : K (put sl o.dst (.a x)) L) : AOp P n o sl L K := gq hq hd hK
theorem qt {x : List V} (hq : qv sl o.op = some (.t x)) (hd : dstOk n o.dst = true) (hK : K (put sl o.dst (.t x)) L) : AOp P n o sl L K := gq hq hd hK
theorem qf {f : Fn} {x y : List V} (hq : qv sl o.op = some (.f f x y)) (hd : dstOk n o.dst = true) (hK : K (put sl o.dst (.f f x y)) L) : AOp P n o sl L K := gq hq hd hK
/-- comparisons -/
def cv (b : BinOp) (p q : Int) : Option Bool :=
  match b with
  | .lss => some (decide (p < q))
  | .leq => some (decide (p ≤ q))
  | .gtr => some (decide (q < p))
  | .geq => some (decide (q ≤ p))
  | .eql => some (decide (p = q))
  | .neq => some (!decide (p = q))
  | _ => none
theorem gc {b : BinOp} {t t' : TypeId} {x y : Operand} {k : IntKind} {p q : Int} {r0 : Bool} (ho : o.op = .binOp b t x y t') (hd : dstOk n o.dst = true) (hx : ev sl x = .v (.int k p)) (hy : ev sl y = .v (.int k q)) (hb : cv b p q = some r0) (r : Bool) (hr : r0 = r) (hK : K (put sl o.dst (.b r)) L) : AOp P n o sl L K := by
  unfold cv at hb
  split at hb
  · cases hb; exact aop_lss ho hd hx hy r hr hK
  · cases hb; exact aop_leq ho hd hx hy r hr hK
  · cases hb; exact aop_gtr ho hd hx hy r hr hK
  · cases hb; exact aop_geq ho hd hx hy r hr hK
  · cases hb; exact aop_eqi ho hd hx hy r hr hK
  · cases hb; exact aop_nei ho hd hx hy r hr hK
  · cases hb
def cvb (b : BinOp) (p q : Bool) : Option Bool :=
  match b with
  | .eql => some (p == q)
  | .neq => some (p != q)
  | _ => none
theorem gcb {b : BinOp} {t t' : TypeId} {x y : Operand} {p q : Bool} [ht : TyBool P t] {r0 : Bool} (ho : o.op = .binOp b t x y t') (hd : dstOk n o.dst = true) (hx : ev sl x = .b p) (hy : ev sl y = .b q) (hb : cvb b p q = some r0) (r : Bool) (hr : r0 = r) (hK : K (put sl o.dst (.b r)) L) : AOp P n o sl L K := by
  unfold cvb at hb
  split at hb
  · cases hb; exact aop_eqb ho hd hx hy r hr hK
  · cases hb; exact aop_neb ho hd hx hy r hr hK
  · cases hb
def av (b : BinOp) (p q : Int) : Option Int :=
  match b with
  | .add => some (p + q)
  | .sub => some (p - q)
  | _ => none
theorem ga {b : BinOp} {t t' : TypeId} {x y : Operand} {p q r : Int} (ho : o.op = .binOp b t x y t') (hd : dstOk n o.dst = true) (hx : ev sl x = .i p) (hy : ev sl y = .i q) (hb : av b p q = some r) (h1 : -9223372036854775808 ≤ r) (h2 : r ≤ 9223372036854775807) (hK : K (put sl o.dst (.i r)) L) : AOp P n o sl L K := by
  unfold av at hb
  split at hb
  · cases hb; exact aop_add ho hd hx hy h1 h2 hK
  · cases hb; exact aop_sub ho hd hx hy h1 h2 hK
  · cases hb
/-- a length that is told -/
def lenv : V → Option Nat
  | .d (.s m _ _) => some m
  | .d (.v (.slice _ m _)) => some m
  | _ => none
theorem gn0 {x : Operand} {t e : TypeId} {k' bytes m : Nat} [ht : TyL P t e k' bytes] (ho : o.op = .call { callee := .builtin .len, args := #[x], argTypes := #[t] }) (hd : dstOk n o.dst = true) (hv : lenv (ev sl x) = some m) (hK : K (put sl o.dst (.i m)) L) : AOp P n o sl L K := by
  unfold lenv at hv
  split at hv
  · rename_i hx; cases hv; exact aop_len ho hd hx hK
  · rename_i hx; cases hv; exact aop_pure hd _ (fun w S a hs => by simp [execOp, ho, resolve, invoke, builtin, Builtin.len_, run_underlying ht.und, goInt, hs.evv hx]) hK
  · cases hv
theorem gl {ty ty' : TypeId} {x : Operand} {b o' i : Nat} {cs : List V} {c : V} {m : Nat} [ht : TyS P ty m false] (ho : o.op = .load ty x) (hd : dstOk n o.dst = true) (hx : ev sl x = .ptr b o') (hi : At L i (.box b ty' cs)) (hc : cs[o']? = some c) (hK : K (put sl o.dst c) L) : AOp P n o sl L K := aop_load ho hd hx hi.get ⟨rfl, rfl⟩ hc hK
theorem gla {ty ty' : TypeId} {x : Operand} {b i : Nat} {cs : List V} {m : Nat} [ht : TyS P ty m true] (ho : o.op = .load ty x) (hd : dstOk n o.dst = true) (hx : ev sl x = .ptr b 0) (hi : At L i (.box b ty' cs)) (hm : cs.length = m) (hK : K (put sl o.dst (.a cs)) L) : AOp P n o sl L K := aop_load_all ho hd hx hi.get ⟨rfl, rfl⟩ hm hK
theorem gsa {ty ty' : TypeId} {x y : Operand} {b i m : Nat} {g : Bool} {cs xs : List V} [ht : TyS P ty m g] (ho : o.op = .store ty x y) (hd : dstOk n o.dst = true) (hx : ev sl x = .ptr b 0) (hy : ev sl y = .a xs) (hi : At L i (.box b ty' cs)) (hm : xs.length = m) (hl : cs.length = m) (h1 : xs.all V.one = true) (hK : K (put sl o.dst (.v undef)) (L.set i (.box b ty' xs))) : AOp P n o sl L K := aop_store_all ho hd hx hi.get hy hm hl h1 hK
theorem gs {ty ty' : TypeId} {x y : Operand} {b o' i : Nat} {cs : List V} {c : D} [ht : TyS P ty 1 false] (ho : o.op = .store ty x y) (hd : dstOk n o.dst = true) (hx : ev sl x = .ptr b o') (hy : ev sl y = .d c) (hi : At L i (.box b ty' cs)) (hl : Nat.blt o' cs.length = true) (h1 : c.one = true) (hK : K (put sl o.dst (.v undef)) (L.set i (.box b ty' (cs.set o' (.d c))))) : AOp P n o sl L K := aop_store1 ho hd hx hi.get hy hl h1 hK
theorem gn {x : Operand} {t e' : TypeId} {k' bytes : Nat} {i m k : Nat} {e : TypeId} {v : Value} {cs : List V} [ht : TyL P t e' k' bytes] (ho : o.op = .call { callee := .builtin .len, args := #[x], argTypes := #[t] }) (hd : dstOk n o.dst = true) (hx : ev sl x = .v v) (hi : At L i (.row v e k m cs)) (hK : K (put sl o.dst (.i m)) L) : AOp P n o sl L K := aop_len_row ho hd hx hi.get hK
end
end Go.Proofs.Ytlagablcopmhkaa
namespace Go.Proofs.Ytlagablcopmhkaa
open Go.RowKit

def risesB : Int → Int → List Int → Bool
  | _, _, [] => true
  | last, hi, p :: l => if p ≤ last ∨ hi < p then false else risesB p hi l

theorem rising_any {S : Nat → Prop} (l : List Int) (lo hi : Int) (v : Value) (w : World) (hR : Rep w S (dI l) v)
   (h1 : -9223372036854775807 ≤ lo) (h2 : lo ≤ 9223372036854775807) :
    Calls Try.prog 70 #[v, .int .i64 lo, .int .i64 hi] w fun e w' => e = .returned (.bool (risesB (lo-1) hi l)) ∧ w = w' := by
  obtain ⟨p, cap, rfl, hm, hcap, hcm, hc⟩ := hR.ints
  clear hR
  go_enter Try.func70, Try.ntmps70
  go_wp2
  go_loop [7, 14] (fun last i => ∃ (k : Nat) (m : Int), k ≤ l.length ∧ i = .int .i64 k ∧ last = .int .i64 m ∧ Hid (risesB (lo-1) hi l = risesB m hi (l.drop k))) (fun _ i => l.length - (intOf i).toNat)
  case atStart => exact ⟨0, lo-1, by omega, rfl, rfl, rfl⟩
  case round =>
    obtain ⟨k, m, hk, rfl, rfl, hrel⟩ := hrel
    by_cases hlt : k < l.length
    · obtain ⟨x, hx⟩ := some_at hlt
      obtain ⟨b, off, rfl, _, hck⟩ := hc k x hx
      have HX := Lib.hid hx; clear hx hc
      go_wp2
      · go_ret
        exact ⟨ret_bool (by rw [hrel.out, drop_cons HX.out, risesB, if_pos (by omega)]), rfl⟩
      · go_round
        case rel => exact ⟨k + 1, x, by omega, by go_num, rfl, by rw [Hid, hrel.out, drop_cons HX.out, risesB, if_neg (by omega)]⟩
        case measure => simp [intOf]; omega
      · go_ret
        exact ⟨ret_bool (by rw [hrel.out, drop_cons HX.out, risesB, if_pos (by omega)]), rfl⟩
    · go_wp2
      go_ret
      exact ⟨ret_bool (by rw [hrel.out, List.drop_of_length_le (by omega), risesB]), rfl⟩
end Go.Proofs.Ytlagablcopmhkaa
/- rx: Light, Size, Groups over the nodes of a tree. -/
namespace Go.Proofs.Ytlagablcopmhkaa
open Go.RowKit
attribute [local go_sem] Oper.semAt_some wide_fn wide_depth

def lightB (x : Node) : Bool := decide (cnt x ≤ 10000)
theorem lightB_true {x : Node} (h : lightB x = true) : cnt x ≤ 10000 := by simpa [lightB] using h
theorem lightB_false {x : Node} (h : lightB x = false) : 10000 < cnt x := by simp [lightB] at h; omega

set_option maxRecDepth 100000 in
set_option maxHeartbeats 2000000 in
theorem light_any {S : Nat → Prop} (x : Node) (sv : Value) (w : World) (hR : RepL w S x.subs sv) :
    Calls Try.prog 92 #[.agg (nodeC x sv)] w fun e w' => e = .returned (.bool (lightB x)) ∧ Below w.heap.size w w' := by
  obtain ⟨p, cap, rfl⟩ := hR.shape
  refine (callsIn_wide (n := 0)).1 (callsIn_of_wp_marks Try.func92 rfl trivial ?_)
  simp only [Try.ntmps92, List.size_toArray, List.length_cons, List.length_nil, Nat.reduceAdd, Nat.reduceSub, Array.replicate_succ, Array.replicate_zero, List.push_toArray, List.append_toArray, List.nil_append, List.cons_append]
  gi_wp2
  refine wpIn_scope ?_
  gi_wp2
  refine wpIn_label ?_
  gi_wp2_with (gi_at_call 107; refine (callsIn_wide.2 (nodes_any x _ _ _ _)).mono ?_; rintro e Wa ⟨rfl, hba, hca⟩)
  have hb0 : Below w.heap.size w Wa := (((Below.refl _ w).alloc (Nat.le_refl _) _).alloc (by simp) _).trans (hba.mono (by simp; omega))
  have hcb : Wa.heap[w.heap.size + 1]? = some (.cells #[.int .i64 ((0 : Nat) : Int)] 3 (0, 0)) := (hba.block _ (by simp)).trans (heap_alloc2_new w _ _)
  simp only [World.size_alloc] at hca
  clear hba
  refine range_nodes (w := w) (n0 := w.heap.size) (x := x) (c0 := w.heap.size + 1) (S := fun b => b < w.heap.size) (t := 3) (fun k => (k : Int) ≤ 10000) (fun k => .int .i64 (k : Nat)) (fun c u => c = .exit 0 ∧ u = .int .i64 10001 ∧ 10000 < cnt x) rfl hca (hR.move fun b _ h => ⟨hb0.block b h, h⟩) (fun _ h => h) (by omega) (by omega) (by omega) (Nat.le_refl _) hcb hb0 (by omega) ?_ ?_ ?_
  · intro l k G W q hl hl2 hGl hk hj _ _ ho
    replace hj : (k : Int) ≤ 10000 := hj
    simp only [List.setIfInBounds_toArray, List.set_cons_succ, List.set_cons_zero]
    gi_wp2
    refine ⟨Below.refl _ _, fun W2 e1 e2 e3 e4 e5 => ?_⟩
    have ho2 := ho.mid (Below.refl _ _) e1 e2 e3 e4 e5 hGl hl (Nat.le_refl _)
    have hc2 := cell_of_row _ _ 0 _ _ _ ho2.2.1
    have hf2 := frozen_of_row _ _ 0 _ _ ho2.2.1
    clear e1 e2 e3 e5
    gi_wp2
    · have hgt : 10000 < (k : Int) + 1 := by assumption
      refine ⟨G, ((Own.refl _ _ _).setCell _ (.inl (by rw [ho2.1])) _), _, ⟨rfl, ?_, by omega⟩, ho2.store (by omega) _⟩
      rw [show (k : Int) + 1 = 10001 by omega]
    · have hle : (k : Int) + 1 ≤ 10000 := by assumption
      exact ⟨G, ((Own.refl _ _ _).setCell _ (.inl (by rw [ho2.1])) _), by omega, ho2.store (by omega) _⟩
  · intro D W hD hD2 hDc hj hc hb hk
    have hcc := cell_of_row _ _ 0 _ _ _ hc
    have hb2 := hb
    clear hb0 hb
    gi_wp2
    rw [Exit.noGoto_ret]
    exact leave_one rfl hD2 hD hk hb2 fun W' hb' => ⟨ret_bool (by simp [lightB]; omega), hb'⟩
  · rintro D c u W hD hD2 hDc ⟨rfl, rfl, hx⟩ hc hb hk
    have hcc := cell_of_row _ _ 0 _ _ _ hc
    clear hb0
    gi_wp2
    rw [Exit.noGoto_ret]
    exact leave_one rfl hD2 hD hk hb fun W' hb' => ⟨ret_bool (by simp [lightB]; omega), hb'⟩

def sizeN (x : Node) : Nat := if cnt x ≤ 10000 then cnt x else 10001
mutual
theorem pre_length : ∀ x, (pre x).length = cnt x
  | .mk k s mn mx l => by simp [pre, cnt, preL_length l]; omega
theorem preL_length : ∀ l, (preL l).length = cntL l
  | [] => rfl
  | x :: l => by simp [preL, cntL, pre_length x, preL_length l]
end

set_option maxRecDepth 100000 in
set_option maxHeartbeats 2000000 in
theorem size_any {S : Nat → Prop} (x : Node) (sv : Value) (w : World) (hR : RepL w S x.subs sv) :
    Calls Try.prog 60 #[.agg (nodeC x sv)] w fun e w' => e = .returned (.int .i64 (sizeN x)) ∧ Below w.heap.size w w' := by
  obtain ⟨p, cap, rfl⟩ := hR.shape
  refine (callsIn_wide (n := 0)).1 (callsIn_of_wp_marks Try.func60 rfl trivial ?_)
  simp only [Try.ntmps60, List.size_toArray, List.length_cons, List.length_nil, Nat.reduceAdd, Nat.reduceSub, Array.replicate_succ, Array.replicate_zero, List.push_toArray, List.append_toArray, List.nil_append, List.cons_append]
  cases hl : lightB x
  · have hl2 := lightB_false hl
    gi_wp2_with (gi_at_call 92; refine (callsIn_wide.2 (light_any x _ _ (hR.grow ((Below.refl _ w).alloc (Nat.le_refl _) _)))).mono ?_; rintro e W1 ⟨rfl, hb1⟩)
    refine ⟨_, results_tmp rfl _ _ _, ?_⟩
    exact ⟨ret_int (by unfold sizeN; rw [if_neg (by omega)]; rfl), ((Below.refl _ w).alloc (Nat.le_refl _) _).trans (hb1.mono (by simp))⟩
  · have hl2 := Lib.hid (lightB_true hl)
    gi_wp2_with (first
      | (gi_at_call 92; refine (callsIn_wide.2 (light_any x _ _ (hR.grow ((Below.refl _ w).alloc (Nat.le_refl _) _)))).mono ?_; rintro e W1 ⟨rfl, hb1⟩; obtain ⟨c0, c1, c2, c3, c4, c5, c6, c7⟩ := (BoxN.new w x _ _).below hb1; have hw1 := box_lt hb1)
      | (gi_at_call 107; refine (callsIn_wide.2 (nodes_any x _ _ _ _)).mono ?_; rintro e Wa ⟨rfl, hba, hca⟩))
    have hb0 : Below w.heap.size w Wa := (((Below.refl _ w).alloc (Nat.le_refl _) _).trans (hb1.mono (by simp))).trans (((Below.refl _ _).alloc (by omega) _).trans (hba.mono (by simp; omega)))
    have hcb : Wa.heap[W1.heap.size]? = some (.cells #[.int .i64 ((0 : Nat) : Int)] 3 (0, 0)) := (hba.block _ (by simp)).trans (heap_alloc_new _ _)
    simp only [World.size_alloc] at hca
    clear hba hb1 c0 c1 c2 c3 c4 c5 c6 c7
    refine range_nodes (w := w) (n0 := w.heap.size) (x := x) (c0 := W1.heap.size) (S := fun b => b < w.heap.size) (t := 3) (fun _ => True) (fun k => .int .i64 (k : Nat)) (fun _ _ => False) rfl hca (hR.move fun b _ h => ⟨hb0.block b h, h⟩) (fun _ h => h) (by omega) (by omega) (by omega) (Nat.le_refl _) hcb hb0 trivial ?_ ?_ ?_
    · intro l k G W q hl hlw hGl hk _ _ _ ho
      simp only [List.setIfInBounds_toArray, List.set_cons_succ, List.set_cons_zero]
      gi_wp2
      refine ⟨Below.refl _ _, fun W2 e1 e2 e3 e4 e5 => ?_⟩
      have ho2 := ho.mid (Below.refl _ _) e1 e2 e3 e4 e5 hGl hl (Nat.le_refl _)
      have hc2 := cell_of_row _ _ 0 _ _ _ ho2.2.1
      have hf2 := frozen_of_row _ _ 0 _ _ ho2.2.1
      have hk3 : (k : Int) ≤ 10000 := by have := hl2.out; omega
      clear e1 e2 e3 e5
      gi_wp2
      exact ⟨G, ((Own.refl _ _ _).setCell _ (.inl (by rw [ho2.1])) _), trivial, ho2.store (by omega) _⟩
    · intro D W hD hD2 hDc _ hc hb hk
      have hcc := cell_of_row _ _ 0 _ _ _ hc
      clear hb0
      gi_wp2
      exact leave_one rfl hD2 hD hk hb fun W' hb' => ⟨ret_int (by unfold sizeN; rw [if_pos hl2.out]), hb'⟩
    · intro D c u W _ _ _ h
      exact h.elim

end Go.Proofs.Ytlagablcopmhkaa
