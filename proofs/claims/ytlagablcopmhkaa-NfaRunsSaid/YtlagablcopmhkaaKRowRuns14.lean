/- Packed: AlDrawZ, AlKinds, AlMaker -/
import Derived.Test.YtlagablcopmhkaaKRowRuns7
import Derived.Test.YtlagablcopmhkaaKRowRuns13
set_option linter.unusedVariables false
set_option linter.unusedSimpArgs false
/- Walking with descriptions: regions that draw their order, where some quiet operations may come behind a late one. -/
namespace Go.Proofs.Ytlagablcopmhkaa
open Go.RowKit
variable {P : Program} {n : Nat}

/-- what stands while the operations ahead come in any order -/
def EInv (n : Nat) (ops : List Oper) (sp : List Sp) (sl : Sl) (L : List Ch) (w : World) (S : Nat → Prop) (a : Act) (D : Nat → Bool) (a' : Act) (w' : World) : Prop :=
  ∃ (β : Nat → Nat × Value) (S' : Nat → Prop), Hp w' S' (chD D β sp 0 ++ L) ∧ a'.tmps.size = n ∧ a'.defers = a.defers ∧ Fr w S (all0 sp ++ L) w' S' (chD D β sp 0 ++ L) ∧
    (∀ i s t, sp[i]? = some s → dstOf ops.toArray i = some t → D i = true → R w' S' (s.val (β i)) (a'.tmps.getD t undef)) ∧ (∀ t, (∀ i, i < sp.length → dstOf ops.toArray i ≠ some t) → R w' S' (look sl t) (a'.tmps.getD t undef))
theorem EInv.start {ops : List Oper} {sp : List Sp} {sl : Sl} {L : List Ch} {w : World} {S : Nat → Prop} {a : Act} (hs : St n w S sl (all0 sp ++ L) a) : EInv n ops sp sl L w S a (fun _ => false) a { w with drawn := w.drawn + 1 } := by
  have hk : Kept w S { w with drawn := w.drawn + 1 } S := fun b hb _ => ⟨rfl, hb⟩
  refine ⟨fun _ => (0, undef), S, ?_, hs.size, rfl, ?_, fun i s t _ _ h => (by cases h), fun t _ => (hs.sl t).move hk⟩
  · rw [chD_none]; exact ⟨fun c hc => (hs.hp.ok c hc).move (fun _ _ => rfl) hk, hs.hp.ap, hs.hp.out, hs.hp.lt⟩
  · rw [chD_none]; exact ⟨rfl, rfl, rfl, Nat.le_refl _, fun _ _ _ => rfl, fun _ h => h, fun _ h _ => .inl h, fun _ h _ => h⟩
theorem EInv.ext {ops : List Oper} {sp : List Sp} {sl : Sl} {L : List Ch} {w : World} {S : Nat → Prop} {a : Act} {D D' : Nat → Bool} (hDD : ∀ k, k < sp.length → D k = D' k) {a' : Act} {w' : World} (h : EInv n ops sp sl L w S a D a' w') : EInv n ops sp sl L w S a D' a' w' := by
  obtain ⟨β, S', h1, h2, h3, h4, h5, h6⟩ := h
  have e := chD_ext (D := D) (D' := D') β sp 0 (fun k hk => hDD k (by omega))
  exact ⟨β, S', by rw [← e]; exact h1, h2, h3, by rw [← e]; exact h4, fun i s t q1 q2 q3 => h5 i s t q1 q2 (by rw [hDD i (List.getElem?_eq_some_iff.1 q1).1]; exact q3), h6⟩
theorem EInv.step {ro : Option Nat} {ops : List Oper} {sp : List Sp} {sl : Sl} {L : List Ch} {w : World} {S : Nat → Prop} {a : Act} {M : Nat} (hf : fit ops.toArray M = true) (hmn : sp.length ≤ ops.length) (hs : St n w S sl (all0 sp ++ L) a) (hq : StepsQ P n ops sl L sp.length sp ops sp 0) {Qr : Exit → Act → World → Prop}
    {i : Nat} {D : Nat → Bool} {a' : Act} {w' : World} (hi : i < sp.length) (hI : EInv n ops sp sl L w S a D a' w') (hdeps : ∀ d ∈ depsOf ops.toArray i, d < sp.length ∧ D d = true) (hDi : D i = false) :
    wpOpIn (fen ro) 0 P ops.toArray Qr i (EInv n ops sp sl L w S a fun k => D k || Nat.beq k i) a' w' := by
  obtain ⟨β, S', h1, h2, h3, h4, h5, h6⟩ := hI
  obtain ⟨o, ho⟩ : ∃ o, ops[i]? = some o := ⟨ops[i]'(by omega), by simp⟩
  obtain ⟨s, hsp⟩ : ∃ s, sp[i]? = some s := ⟨sp[i]'hi, by simp⟩
  have ho2 : ops.toArray[i]? = some o := by simpa using ho
  have hdst : dstOf ops.toArray i = o.dst := by simp [dstOf, ho]
  have hstep := stepsQ_at hq i o s ho hsp
  rw [Nat.zero_add] at hstep
  unfold wpOpIn
  simp only [ho2]
  -- the weaker state
  obtain ⟨R0, hR1, hR2⟩ := chD_split (D := D) (β := β) (i := i) (s := s) hDi sp 0 (Nat.zero_le _) (by simpa using hsp)
  have hfr0 : Hp w' S' ((s.ch0 ++ L) ++ R0) := h1.perm ((List.Perm.append_right L hR1).trans (by rw [List.append_assoc, List.append_assoc]; exact List.Perm.append_left _ List.perm_append_comm))
  have hinL : ∀ b, inL (s.ch0 ++ L) b → inL (chD D β sp 0 ++ L) b := fun b ⟨c, hc, hb⟩ => by
    rcases List.mem_append.1 hc with hc | hc
    · exact inL_append.2 (.inl ⟨c, hR1.mem_iff.2 (List.mem_append.2 (.inl hc)), hb⟩)
    · exact inL_append.2 (.inr ⟨c, hc, hb⟩)
  have hst : St n w' S' (depSl ops sp.length (sp.take i) i ++ sl) (s.ch0 ++ L) a' := by
    refine ⟨hfr0.left, h2, fun t => ?_, by rw [h3]; exact (hs.df.move h4).sub hinL⟩
    by_cases hex : ∃ c, (t, c) ∈ depSl ops sp.length (sp.take i) i
    · rw [look_append_in hex]
      have hmem := look_mem _ t hex
      generalize look (depSl ops sp.length (sp.take i) i) t = c at hmem
      rcases List.mem_append.1 hmem with hm1 | hm1
      · obtain ⟨d, hd1, hd2⟩ := List.mem_filterMap.1 hm1
        cases hsd : (sp.take i)[d]? with
        | none => rw [hsd] at hd2; cases hd2
        | some s' =>
          cases hdd : dstOf ops.toArray d with
          | none => rw [hsd, hdd] at hd2; cases s' <;> cases hd2
          | some t' =>
            rw [hsd, hdd] at hd2
            cases s' with
            | q c2 => simp at hd2; obtain ⟨rfl, rfl⟩ := hd2; exact h5 d (.q c2) _ (by rw [List.getElem?_take] at hsd; split at hsd; exact hsd; cases hsd) hdd (hdeps d hd1).2
            | al _ _ => cases hd2
            | ap _ _ => cases hd2
      · obtain ⟨d, _, hd2⟩ := List.mem_filterMap.1 hm1
        cases hdd : dstOf ops.toArray d with
        | none => rw [hdd] at hd2; cases hd2
        | some t' => rw [hdd] at hd2; cases hd2; exact .j _
    · rw [look_append_out hex]
      refine h6 t fun k hk hkt => hex ⟨.j, List.mem_append.2 (.inr (List.mem_filterMap.2 ⟨k, List.mem_range.2 hk, by rw [hkt]; rfl⟩))⟩
  have hne : ∀ {k t : Nat}, dstOf ops.toArray k = some t → k ≠ i → o.dst ≠ some t := fun {k t} hk hki e => hki (fit_dst hf hk (by rw [hdst]; exact e))
  have hput : ∀ {t : Nat} (v : Value), o.dst ≠ some t → (a'.put o.dst v).tmps.getD t undef = a'.tmps.getD t undef := fun {t} v ht => by
    cases hd : o.dst with
    | none => rfl
    | some d => simp [Act.put, Array.getElem?_setIfInBounds_ne (show d ≠ t by rintro rfl; exact ht hd)]
  -- what is done with the result
  have fin : ∀ (b : Nat × Value) (v : Value) (w2 : World) (S2 : Nat → Prop) (X : List Ch), (X.Perm (s.ch b ++ L)) → Hp w2 S2 X → Fr w' S' (s.ch0 ++ L) w2 S2 X → R w2 S2 (s.val b) ((a'.put o.dst v).tmps.getD (o.dst.getD 0) undef) ∨ o.dst = none → EInv n ops sp sl L w S a (fun k => D k || Nat.beq k i) (a'.put o.dst v) w2 := by
    intro b v w2 S2 X hX hp2 hf2 hr
    obtain ⟨q1, q2⟩ := hfr0.frame (hp2.perm hX) (hf2.perm (.refl _) hX)
    have hk := q2.kept hfr0
    have hperm : ((s.ch b ++ L) ++ R0).Perm (chD (fun k => D k || Nat.beq k i) (fun k => if k = i then b else β k) sp 0 ++ L) := by
      refine List.Perm.trans ?_ (List.Perm.append_right L (hR2 b).symm)
      rw [List.append_assoc, List.append_assoc]
      exact List.Perm.append_left _ List.perm_append_comm
    have hperm0 : ((s.ch0 ++ L) ++ R0).Perm (chD D β sp 0 ++ L) := by
      refine List.Perm.trans ?_ (List.Perm.append_right L hR1.symm)
      rw [List.append_assoc, List.append_assoc]
      exact List.Perm.append_left _ List.perm_append_comm
    refine ⟨fun k => if k = i then b else β k, S2, q1.perm hperm, ?_, ?_, h4.trans (q2.perm hperm0 hperm), fun k s' t e1 e2 e3 => ?_, fun t ht => ?_⟩
    · cases o.dst <;> simp [Act.put, h2]
    · rw [put_defers, h3]
    · by_cases hki : k = i
      · subst hki
        rw [hsp] at e1; cases e1
        show R w2 S2 (s.val (if k = k then b else β k)) _
        rw [if_pos rfl]
        rw [hdst] at e2
        rcases hr with hr | hr
        · rw [e2] at hr; simp only [Option.getD_some] at hr; rw [e2]; exact hr
        · rw [e2] at hr; cases hr
      · have hb : Nat.beq k i = false := by cases hb : Nat.beq k i with | false => rfl | true => exact absurd (Nat.eq_of_beq_eq_true hb) hki
        simp only [hb, Bool.or_false] at e3
        show R w2 S2 (s'.val (if k = i then b else β k)) _
        rw [if_neg hki, hput v (hne e2 hki)]
        exact (h5 k s' t e1 e2 e3).move hk
    · rw [hput v (by rw [← hdst]; exact ht i hi)]
      exact (h6 t ht).move hk
  cases s with
  | al ty z =>
    obtain ⟨ha, hz, hg, hdk⟩ := hstep
    rw [if_pos (by simp [Region.wanted, hg])]
    refine AOp.wpIn (aop_alloc (hz := hz) (K := fun sl' L' => ∃ b, sl' = put (depSl ops sp.length (sp.take i) i ++ sl) o.dst (.ptr b 0) ∧ L' = .box b ty (zV z) :: L) ha hdk (fun b => ⟨b, rfl, rfl⟩)) ro hst _ Qr ?_
    rintro sl' L' S2 a2 w2 ⟨b, rfl, rfl⟩ hs2 hf2 ⟨v, rfl⟩
    refine fin (b, undef) v w2 S2 _ (.refl _) hs2.hp hf2 ?_
    cases hd : o.dst with
    | none => exact .inr rfl
    | some d =>
      refine .inl ?_
      have := hs2.sl d
      rw [hd] at this
      simpa [put, look, Sp.val] using this
  | ap c0 c1 =>
    obtain ⟨hg, hdk, hop⟩ := hstep
    rw [if_pos (by simp [Region.wanted, hg])]
    refine AOp.wpIn hop ro hst _ Qr ?_
    rintro sl' L' S2 a2 w2 ⟨u, rfl, rfl⟩ hs2 hf2 ⟨v, rfl⟩
    refine fin (0, u) v w2 S2 _ (.refl _) hs2.hp hf2 ?_
    cases hd : o.dst with
    | none => exact .inr rfl
    | some d =>
      refine .inl ?_
      have := hs2.sl d
      rw [hd] at this
      simpa [put, look, Sp.val] using this
  | q c =>
    have go : AOp P n o (depSl ops sp.length (sp.take i) i ++ sl) L (fun sl' L' => sl' = put (depSl ops sp.length (sp.take i) i ++ sl) o.dst c ∧ L' = L) → o.wpIn (fen ro) 0 P a' w' (EInv n ops sp sl L w S a fun k => D k || Nat.beq k i) Qr := fun hop => by
      refine hop.wpIn ro hst _ Qr ?_
      rintro sl' L' S2 a2 w2 ⟨rfl, rfl⟩ hs2 hf2 ⟨v, rfl⟩
      refine fin (0, undef) v w2 S2 _ (.refl _) hs2.hp hf2 ?_
      cases hd : o.dst with
      | none => exact .inr rfl
      | some d =>
        refine .inl ?_
        have := hs2.sl d
        rw [hd] at this
        simpa [put, look, Sp.val] using this
    have skip : o.guard ≠ none → Region.wanted o (yielded ops.toArray a'.tmps) = false → dstOk n o.dst = true → c = .v undef → EInv n ops sp sl L w S a (fun k => D k || Nat.beq k i) (a'.put o.dst undef) w' := fun _ _ hdk hc => by
      subst hc
      refine fin (0, undef) undef w' S' L (.refl _) hst.hp (.refl _ _ _) ?_
      cases hdd : o.dst with
      | none => exact .inr rfl
      | some d =>
        refine .inl ?_
        have := (hst.put hdk (c := .v undef) (v := undef) (.refl _ _ _) hst.hp (.v _)).sl d
        rw [hdd] at this
        simpa [put, look, Sp.val] using this
    rcases hstep with ⟨hg, hop⟩ | ⟨j, want, g, d, hg, hj, hd, h7⟩ | ⟨j, want, d, hg, hj, hd, hdk, hc⟩
    · rw [if_pos (by simp [Region.wanted, hg])]
      exact go hop
    · have hy := yielded_of hst hj hd
      rcases h7 with ⟨hgw, hop⟩ | ⟨hgw, hdk, rfl⟩
      · rw [if_pos (by simp [Region.wanted, hg, hy, hgw])]
        exact go hop
      · have hwn : Region.wanted o (yielded ops.toArray a'.tmps) = false := by simp [Region.wanted, hg, hy, hgw]
        rw [if_neg (by rw [hwn]; simp)]
        exact ⟨fun _ _ => trivial, skip (by rw [hg]; simp) hwn hdk rfl⟩
    · have hwn : Region.wanted o (yielded ops.toArray a'.tmps) = false := by simp [Region.wanted, hg, yielded_undef hst hj hd]
      rw [if_neg (by rw [hwn]; simp)]
      exact ⟨fun _ _ => trivial, skip (by rw [hg]; simp) hwn hdk hc⟩

/-- what the late operation leans on -/
def clo (ops : Array Oper) : Nat → List Nat → List Nat
  | 0, acc => acc
  | i + 1, acc => clo ops i (if acc.contains i then acc ++ depsOf ops i else acc)
theorem clo_in {ops : Array Oper} {D : Nat → Bool} (hD : ∀ i, D i = true → ∀ d ∈ depsOf ops i, D d = true) : ∀ (k : Nat) (acc : List Nat), (∀ d ∈ acc, D d = true) → ∀ d ∈ clo ops k acc, D d = true
  | 0, _, h, d, hd => h d hd
  | i + 1, acc, h, d, hd => by
    refine clo_in hD i _ (fun x hx => ?_) d hd
    split at hx
    · rename_i hc
      rcases List.mem_append.1 hx with hx | hx
      · exact h x hx
      · exact hD i (h i (by simpa using hc)) x hx
    · exact h x hx
def lateOk (ops : List Oper) (m : Nat) (Z : List Nat) : Bool := (List.range m).all fun i => Z.contains i || (clo ops.toArray m (depsOf ops.toArray m)).contains i

/-- the slots, without those of the lazy operations -/
def zSl (ops : List Oper) (β : Nat → Nat × Value) (Z : List Nat) : List Sp → Nat → Sl
  | [], _ => []
  | s :: r, i => (match dstOf ops.toArray i with | some t => [(t, bif Z.contains i then V.j else s.val (β i))] | none => []) ++ zSl ops β Z r (i + 1)
theorem zSl_mem {ops : List Oper} {β : Nat → Nat × Value} {Z : List Nat} : ∀ (sp : List Sp) (j : Nat) (t : Nat) (c : V), (t, c) ∈ zSl ops β Z sp j ↔ ∃ i s, sp[i]? = some s ∧ dstOf ops.toArray (j + i) = some t ∧ c = bif Z.contains (j + i) then V.j else s.val (β (j + i))
  | [], j, t, c => by simp [zSl]
  | s :: r, j, t, c => by
    simp only [zSl, List.mem_append]
    rw [zSl_mem r (j + 1) t c]
    constructor
    · rintro (h | ⟨i, s', h1, h2, h3⟩)
      · cases hd : dstOf ops.toArray j with
        | none => rw [hd] at h; cases h
        | some t' =>
          rw [hd] at h
          have h := List.mem_singleton.1 h
          cases h
          exact ⟨0, s, rfl, hd, rfl⟩
      · exact ⟨i + 1, s', by simpa using h1, by rwa [show j + (i + 1) = j + 1 + i by omega], by rwa [show j + (i + 1) = j + 1 + i by omega]⟩
    · rintro ⟨i, s', h1, h2, h3⟩
      cases i with
      | zero => simp at h1; subst h1; refine .inl ?_; rw [Nat.add_zero] at h2 h3; rw [h2, h3]; exact List.mem_singleton.2 rfl
      | succ i => exact .inr ⟨i, s', by simpa using h1, by rwa [show j + 1 + i = j + (i + 1) by omega], by rwa [show j + 1 + i = j + (i + 1) by omega]⟩
theorem chD_Z {D : Nat → Bool} (β : Nat → Nat × Value) : ∀ (sp : List Sp) (j : Nat), (∀ i s, sp[i]? = some s → D (j + i) = true ∨ ∃ c, s = .q c) → chD D β sp j = allF β sp j
  | [], _, _ => rfl
  | s :: r, j, h => by
    have ih := chD_Z (D := D) β r (j + 1) fun i s' hs => by
      have := h (i + 1) s' (by simpa using hs)
      rwa [show j + (i + 1) = j + 1 + i by omega] at this
    simp only [chD, allF, ih]
    rcases h 0 s rfl with h0 | ⟨c, rfl⟩
    · rw [Nat.add_zero] at h0; rw [h0]; rfl
    · cases D j <;> rfl
theorem put_tmps {n : Nat} {a : Act} {o : Oper} {t : Nat} (v : Value) (h : o.dst ≠ some t) : (a.put o.dst v).tmps.getD t undef = a.tmps.getD t undef := by
  cases hd : o.dst with
  | none => rfl
  | some d => simp [Act.put, Array.getElem?_setIfInBounds_ne (show d ≠ t by rintro rfl; exact h hd)]
theorem dst_of {n : Nat} {w : World} {S : Nat → Prop} {sl : Sl} {L : List Ch} {a : Act} {o : Oper} {c : V} {t : Nat} (hs : St n w S (put sl o.dst c) L a) (h : o.dst = some t) : R w S c (a.tmps.getD t undef) := by
  have := hs.sl t
  rw [h] at this
  simpa [put, look] using this

theorem aw_drawZ {ro : Option Nat} {id : Nat} {ops : List Oper} {sl : Sl} {L : List Ch} (Lz : List Ch) {Q : Exit → Sl → List Ch → Prop} (m : Nat) (Z js : List Nat) (sp : List Sp) (hl : sp.length = m) (hm : P.follows .mixedOrders = true) (hf : fit ops.toArray (m + 1) = true) (hmn : Nat.ble (m + 1) ops.length = true) (hz : lateOk ops m Z = true) (hj : junkOk ops (m + 1) js = true)
    (hq : StepsQ P n ops sl L m sp ops sp 0)
    (hZ : ∀ z ∈ Z, ∃ o c ys, ops[z]? = some o ∧ sp[z]? = some (.q c) ∧ o.guard = none ∧ (∀ p ∈ ys, ∃ y, y ∈ depsOf ops.toArray z ∧ sp[y]? = some (.q p.2) ∧ dstOf ops.toArray y = some p.1) ∧ AOp P n o (ys ++ (junk js ++ sl)) Lz fun sl' L' => sl' = put (ys ++ (junk js ++ sl)) o.dst c ∧ L' = Lz)
    (om : Oper) (hom : ops[m]? = some om) (hgm : om.guard = none)
    (hlate : ∀ β, AOp P n om (zSl ops β Z sp 0 ++ sl) (allF β sp 0 ++ L) fun sl' L' => ∃ cm slT R, (∀ t, om.dst = some t → look sl' t = cm) ∧ L'.Perm (Lz ++ R) ∧ (∀ t, look slT t = look (put (fullSl ops β sp 0 ++ sl) om.dst cm) t) ∧ AOs P n ops.toArray (ops.drop (m + 1)) slT L' (Q .normal)) :
    AW P n ro (.region id ops.toArray true) sl (all0 sp ++ L) Q := fun w S a B hs hb Qr hQr => by
  subst hl
  have hmn := Nat.le_of_ble_eq_true hmn
  have hdm : dstOf ops.toArray sp.length = om.dst := by simp [dstOf, hom]
  have hom2 : ops.toArray[sp.length]? = some om := by simpa using hom
  let Late : (Nat → Bool) → Act → World → Prop := fun D a' w' => (∀ i, i < sp.length → i ∉ Z → D i = true) ∧ ∃ (β : Nat → Nat × Value) (S' : Nat → Prop) (Lm : List Ch) (cm : V), (∃ slT R, Lm.Perm (Lz ++ R) ∧ (∀ t, look slT t = look (put (fullSl ops β sp 0 ++ sl) om.dst cm) t) ∧ AOs P n ops.toArray (ops.drop (sp.length + 1)) slT Lm (Q .normal)) ∧
    Hp w' S' Lm ∧ a'.tmps.size = n ∧ a'.defers = a.defers ∧ Fr w S (all0 sp ++ L) w' S' Lm ∧ (∀ i s t, sp[i]? = some s → dstOf ops.toArray i = some t → D i = true → R w' S' (s.val (β i)) (a'.tmps.getD t undef)) ∧
    (∀ t, om.dst = some t → R w' S' cm (a'.tmps.getD t undef)) ∧ (∀ t, (∀ i, i < sp.length + 1 → dstOf ops.toArray i ≠ some t) → R w' S' (look sl t) (a'.tmps.getD t undef))
  let Inv : (Nat → Bool) → Act → World → Prop := fun D a' w' => (∀ i, i < sp.length + 1 → D i = true → ∀ d ∈ depsOf ops.toArray i, D d = true) ∧ ((D sp.length = false ∧ EInv n ops sp sl L w S a D a' w') ∨ (D sp.length = true ∧ Late D a' w'))
  have beqf : ∀ {x y : Nat}, x ≠ y → Nat.beq x y = false := fun {x y} h => by cases hb : Nat.beq x y with | false => rfl | true => exact absurd (Nat.eq_of_beq_eq_true hb) h
  refine wp_region_inv hm (sp.length + 1) hf (by simpa using hmn) Inv ?_ ?_ ?_ ?_
  · exact ⟨fun _ _ h => (by cases h), .inl ⟨rfl, .start hs⟩⟩
  · rintro D D' a' w' hDD ⟨h1, h2⟩
    have hdl : ∀ i, i < sp.length + 1 → ∀ d ∈ depsOf ops.toArray i, d < sp.length + 1 := fun i hi d hd => by
      have := fit_dep hf (show i < ops.toArray.size by simp; omega) hd; omega
    refine ⟨fun i hi hD d hd => by rw [← hDD d (hdl i hi d hd)]; exact h1 i hi (by rw [hDD i hi]; exact hD) d hd, ?_⟩
    rcases h2 with ⟨h2, h3⟩ | ⟨h2, h3, β, S', Lm, cm, k1, k2, k3, k4, k5, k6, k7, k8⟩
    · exact .inl ⟨by rw [← hDD _ (by omega)]; exact h2, h3.ext fun k hk => hDD k (by omega)⟩
    · refine .inr ⟨by rw [← hDD _ (by omega)]; exact h2, fun i hi hiZ => by rw [← hDD i (by omega)]; exact h3 i hi hiZ, β, S', Lm, cm, k1, k2, k3, k4, k5, fun i s t q1 q2 q3 => k6 i s t q1 q2 (by rw [hDD i (by have := (List.getElem?_eq_some_iff.1 q1).1; omega)]; exact q3), k7, k8⟩
  · rintro i D a' w' hi ⟨hcl, hI⟩ hdeps hDi
    have hcl' : ∀ k, k < sp.length + 1 → (D k || Nat.beq k i) = true → ∀ d ∈ depsOf ops.toArray k, (D d || Nat.beq d i) = true := fun k hk hD d hd => by
      rw [Bool.or_eq_true] at hD ⊢
      rcases hD with hD | hD
      · exact .inl (hcl k hk hD d hd)
      · have := Nat.eq_of_beq_eq_true hD
        subst this
        exact .inl (hdeps d hd).2
    by_cases him : i = sp.length
    · subst him
      rcases hI with ⟨_, hE⟩ | ⟨h, _⟩
      · have hdone : ∀ i, i < sp.length → i ∉ Z → D i = true := fun i hi hiZ => by
          have h1 := List.all_eq_true.1 hz i (List.mem_range.2 hi)
          have h2 : i ∈ clo ops.toArray sp.length (depsOf ops.toArray sp.length) := by simpa [hiZ] using h1
          have h3 := clo_in (ops := ops.toArray) (D := fun k => D k && Nat.ble k sp.length) (fun k hk d hd => by
            simp only [Bool.and_eq_true] at hk ⊢
            have hk2 := Nat.le_of_ble_eq_true hk.2
            have := fit_dep hf (show k < ops.toArray.size by simp; omega) hd
            exact ⟨hcl k (by omega) hk.1 d hd, by simp; omega⟩) sp.length (depsOf ops.toArray sp.length) (fun d hd => by
            have := fit_dep hf (show sp.length < ops.toArray.size by simp; omega) hd
            simp only [Bool.and_eq_true]
            exact ⟨(hdeps d hd).2, by simp; omega⟩) i h2
          simp only [Bool.and_eq_true] at h3
          exact h3.1
        obtain ⟨β, S', h1, h2, h3, h4, h5, h6⟩ := hE
        rw [chD_Z β sp 0 (fun i s hs => by
          rw [Nat.zero_add]
          by_cases hiZ : i ∈ Z
          · obtain ⟨o, c, _, _, hc, _⟩ := hZ i hiZ
            rw [hs] at hc; cases hc
            exact .inr ⟨c, rfl⟩
          · exact .inl (hdone i (List.getElem?_eq_some_iff.1 hs).1 hiZ))] at h1 h4
        have hop := hlate β
        have hst : St n w' S' (zSl ops β Z sp 0 ++ sl) (allF β sp 0 ++ L) a' := by
          refine ⟨h1, h2, fun t => ?_, by rw [h3]; exact hs.df.move h4⟩
          by_cases hex : ∃ c, (t, c) ∈ zSl ops β Z sp 0
          · rw [look_append_in hex]
            obtain ⟨i, s, e1, e2, e3⟩ := (zSl_mem sp 0 t _).1 (look_mem _ t hex)
            rw [Nat.zero_add] at e2 e3
            rw [e3]
            cases hc : Z.contains i with
            | true => exact .j _
            | false => exact h5 i s t e1 e2 (hdone i (List.getElem?_eq_some_iff.1 e1).1 (by intro h; simp [h] at hc))
          · rw [look_append_out hex]
            refine h6 t fun k hk hkt => ?_
            obtain ⟨s, hsk⟩ : ∃ s, sp[k]? = some s := ⟨sp[k]'hk, by simp⟩
            exact hex ⟨_, (zSl_mem sp 0 t _).2 ⟨k, s, hsk, by rw [Nat.zero_add]; exact hkt, rfl⟩⟩
        unfold wpOpIn
        simp only [hom2]
        rw [if_pos (by simp [Region.wanted, hgm])]
        refine AOp.wpIn hop ro hst _ Qr ?_
        rintro sl' L' S2 a2 w2 ⟨cm, slT, R1, hcm, hpR, hlk, htail⟩ hs2 hf2 ⟨v, rfl⟩
        have hk := hf2.kept h1
        refine ⟨hcl', .inr ⟨by simp, fun i hi hiZ => by simp [hdone i hi hiZ], β, S2, _, cm, ⟨slT, R1, hpR, hlk, htail⟩, hs2.hp, hs2.size, by rw [put_defers, h3], h4.trans hf2, fun i s t q1 q2 q3 => ?_, fun t ht => (by have := hs2.sl t; rwa [hcm t ht] at this), fun t ht => ?_⟩⟩
        · have hi := (List.getElem?_eq_some_iff.1 q1).1
          have hDi : D i = true := by
            rw [Bool.or_eq_true] at q3
            rcases q3 with q3 | q3
            · exact q3
            · have := Nat.eq_of_beq_eq_true q3; omega
          have hne : om.dst ≠ some t := fun e => by
            have := fit_dst hf q2 (hdm.trans e); omega
          rw [put_tmps (n := n) (o := om) (t := t) v hne]
          exact (h5 i s t q1 q2 hDi).move hk
        · rw [put_tmps (n := n) (o := om) (t := t) v (by rw [← hdm]; exact ht _ (by omega))]
          exact (h6 t fun i hi => ht i (by omega)).move hk
      · rw [h] at hDi; cases hDi
    · have hi2 : i < sp.length := by omega
      rcases hI with ⟨hDm, hE⟩ | ⟨hDm, hdone, β, S', Lm, cm, k1, k2, k3, k4, k5, k6, k7, k8⟩
      · refine wpOpIn_mono (fun a2 w2 h => ⟨hcl', .inl ⟨by show (D sp.length || Nat.beq sp.length i) = false; rw [hDm, beqf (Ne.symm him)]; rfl, h⟩⟩) (hE.step (ro := ro) hf (by omega) hs hq hi2 (fun d hd => ⟨?_, (hdeps d hd).2⟩) hDi)
        have := fit_dep hf (show i < ops.toArray.size by simp; omega) hd
        omega
      · have hiZ : i ∈ Z := by
          by_cases h : i ∈ Z
          · exact h
          · rw [hdone i hi2 h] at hDi; cases hDi
        obtain ⟨o, c, ys, ho, hc, hg, hys, hop⟩ := hZ i hiZ
        have ho2 : ops.toArray[i]? = some o := by simpa using ho
        have hdo : dstOf ops.toArray i = o.dst := by simp [dstOf, ho]
        obtain ⟨slT, R1, hpR, hlk, htail⟩ := k1
        have hp0 : Hp w' S' (Lz ++ R1) := k2.perm hpR
        have hst : St n w' S' (ys ++ (junk js ++ sl)) Lz a' := by
          refine ⟨hp0.left, k3, fun t => ?_, by rw [k4]; exact (hs.df.move k5).sub fun b ⟨c, hc, hb⟩ => ⟨c, hpR.mem_iff.2 (List.mem_append.2 (.inl hc)), hb⟩⟩
          by_cases hty : ∃ c, (t, c) ∈ ys
          · rw [look_append_in hty]
            obtain ⟨y, y1, y2, y3⟩ := hys _ (look_mem _ t hty)
            exact k6 y _ t y2 y3 (hdeps y y1).2
          rw [look_append_out hty]
          by_cases ht : t ∈ js
          · rw [look_junk_in js sl t ht]; exact .j _
          · rw [look_junk_out js sl t ht]
            refine k8 t fun i hi hit => ht ?_
            have h1 := List.all_eq_true.1 hj i (List.mem_range.2 hi)
            rw [hit] at h1
            simpa using h1
        unfold wpOpIn
        simp only [ho2]
        rw [if_pos (by simp [Region.wanted, hg])]
        refine AOp.wpIn hop ro hst _ Qr ?_
        rintro sl' L' S2 a2 w2 ⟨rfl, rfl⟩ hs2 hf2 ⟨v, rfl⟩
        obtain ⟨q1, q2⟩ := hp0.frame hs2.hp hf2
        have hk := q2.kept hp0
        have q1 := q1.perm hpR.symm
        have q2 := q2.perm hpR.symm hpR.symm
        refine ⟨hcl', .inr ⟨by show (D sp.length || Nat.beq sp.length i) = true; rw [hDm]; rfl, fun k hk hkZ => by show (D k || Nat.beq k i) = true; rw [hdone k hk hkZ]; rfl, β, S2, Lm, cm, ⟨slT, R1, hpR, hlk, htail⟩, q1, ?_, by rw [put_defers, k4], k5.trans q2, fun k s t e1 e2 e3 => ?_, fun t ht => ?_, fun t ht => ?_⟩⟩
        · exact hs2.size
        · by_cases hki : k = i
          · subst hki
            rw [hc] at e1; cases e1
            exact dst_of hs2 (hdo.symm.trans e2)
          · have e3 : (D k || Nat.beq k i) = true := e3
            rw [beqf hki, Bool.or_false] at e3
            have e9 : (a'.put o.dst v).tmps.getD t undef = a'.tmps.getD t undef := put_tmps (n := n) v fun e => hki (fit_dst hf e2 (hdo.trans e))
            exact e9 ▸ (k6 k s t e1 e2 e3).move hk
        · rw [put_tmps (n := n) (a := a') (o := o) (t := t) v fun e => him (fit_dst hf (hdo.trans e) (hdm.trans ht))]
          exact (k7 t ht).move hk
        · rw [put_tmps (n := n) (o := o) (t := t) v (by rw [← hdo]; exact ht i hi)]
          exact (k8 t ht).move hk
  · rintro a' w' ⟨_, hI⟩
    rcases hI with ⟨h, _⟩ | ⟨_, _, β, S', Lm, cm, k1, k2, k3, k4, k5, k6, k7, k8⟩
    · cases h
    obtain ⟨slT, R1, _, hlk, k1⟩ := k1
    have hst : St n w' S' slT Lm a' := by
      refine ⟨k2, k3, fun t => ?_, by rw [k4]; exact hs.df.move k5⟩
      rw [hlk]
      have base : (om.dst ≠ some t) → R w' S' (look (fullSl ops β sp 0 ++ sl) t) (a'.tmps.getD t undef) := fun hne => by
        by_cases hex : ∃ c, (t, c) ∈ fullSl ops β sp 0
        · rw [look_append_in hex]
          obtain ⟨i, s, e1, e2, e3⟩ := (fullSl_mem sp 0 t _).1 (look_mem _ t hex)
          rw [Nat.zero_add] at e2 e3
          rw [e3]
          exact k6 i s t e1 e2 rfl
        · rw [look_append_out hex]
          refine k8 t fun k hk hkt => ?_
          by_cases hkm : k = sp.length
          · subst hkm; exact hne (hdm.symm.trans hkt)
          · obtain ⟨s, hsk⟩ : ∃ s, sp[k]? = some s := ⟨sp[k]'(by omega), by simp⟩
            exact hex ⟨_, (fullSl_mem sp 0 t _).2 ⟨k, s, hsk, by rw [Nat.zero_add]; exact hkt, rfl⟩⟩
      cases hd : om.dst with
      | none => exact base (by rw [hd]; simp)
      | some d =>
        show R w' S' (bif Nat.beq d t then cm else look (fullSl ops β sp 0 ++ sl) t) _
        by_cases e : d = t
        · subst e; simpa using k7 d hd
        · rw [beqf e]; exact base (by rw [hd]; simpa using e)
    have := AOs.sound ro (ops.drop (sp.length + 1)) (sp.length + 1) _ _ (by simp) k1 w' S' a' hst Qr fun sl2 L2 S2 a2 w2 j1 j2 j3 j4 => hQr _ _ _ _ _ _ j1 j2 (k5.trans j3) (hb.same (k5.trans j3) (j4.trans k4))
    rw [List.size_toArray]
    rwa [List.length_drop] at this
def DrawG (P : Program) (n : Nat) (all : List Oper) (sl : Sl) (L : List Ch) (m : Nat) (js : List Nat) (N : Pre → Prop) : Nat → List Oper → Pre → Prop
  | _, [], pre => N pre
  | i, o :: r, pre => (∃ c ts t, o.dst = some t ∧ isAl o.op = false ∧ dstOk n o.dst = true ∧ tsOk all i ts = true ∧ AQ P n all.toArray o (selS pre ts ++ (junk js ++ sl)) L c ∧ DrawG P n all sl L m js N (i + 1) r ((t, i, .q c) :: pre)) ∨
      (∃ ty z t, o.dst = some t ∧ (o.op = .alloc ty ∧ TyZ P ty z ∧ o.guard = none ∧ dstOk n o.dst = true) ∧ DrawG P n all sl L m js N (i + 1) r ((t, i, .al ty z) :: pre)) ∨
      (∃ c0 c1 ts t, o.dst = some t ∧ isAl o.op = true ∧ o.guard = none ∧ dstOk n o.dst = true ∧ tsOk all i ts = true ∧ (AOp P n o (selS pre ts ++ (junk js ++ sl)) (c0 :: L) fun sl' L' => ∃ c, sl' = put (selS pre ts ++ (junk js ++ sl)) o.dst c ∧ ∃ v, c = .v v ∧ L' = c1 v :: L) ∧ DrawG P n all sl L m js N (i + 1) r ((t, i, .ap c0 c1) :: pre))
structure PreOk (all : List Oper) (pre : Pre) (sp : List Sp) : Prop where
  mem : ∀ t j s, (t, j, s) ∈ pre ↔ sp[j]? = some s ∧ dstOf all.toArray j = some t
  ch : ∀ β, (gch β pre).Perm (allF β sp 0)
  ch0 : (gch0 pre).Perm (all0 sp)
theorem drawG_steps {all : List Oper} {sl : Sl} {L : List Ch} {N : Pre → Prop} {m M : Nat} {js : List Nat} (hf : fit all.toArray M = true) (hj : junkOk all m js = true) (hmn : m ≤ all.length) : ∀ (r : List Oper) (i : Nat) (pre : Pre) (sp : List Sp), sp.length = i → i + r.length = m → (∀ k o, r[k]? = some o → all[i + k]? = some o) →
    (∀ t j s, (t, j, s) ∈ pre ↔ sp[j]? = some s ∧ dstOf all.toArray j = some t) → (∀ (j : Nat) (s : Sp), sp[j]? = some s → ∀ o : Oper, all[j]? = some o → isAl o.op = (match s with | .q _ => false | _ => true)) → (∀ β, (gch β pre).Perm (allF β sp 0)) → (gch0 pre).Perm (all0 sp) → DrawG P n all sl L m js N i r pre →
    ∃ (q : List Sp) (pre' : Pre), q.length = r.length ∧ PreOk all pre' (sp ++ q) ∧ StepsQ P n all sl L m (sp ++ q) r q i ∧ N pre'
  | [], i, pre, sp, hi, hm, _, hpre, _, hch, hch0, h => ⟨[], pre, rfl, ⟨by simpa using hpre, by simpa using hch, by simpa using hch0⟩, trivial, h⟩
  | o :: r, i, pre, sp, hi, hm, hall, hpre, hal, hch, hch0, h => by
    have hoi : all[i]? = some o := by simpa using hall 0 o rfl
    have hdst : dstOf all.toArray i = o.dst := by simp [dstOf, hoi]
    have next : ∀ (s : Sp) (t : Nat), o.dst = some t → isAl o.op = (match s with | .q _ => false | _ => true) → DrawG P n all sl L m js N (i + 1) r ((t, i, s) :: pre) → (match s with
      | .q c => AQ P n all.toArray o (depSl all m sp i ++ sl) L c
      | .al ty z => o.op = .alloc ty ∧ TyZ P ty z ∧ o.guard = none ∧ dstOk n o.dst = true
      | .ap c0 c1 => o.guard = none ∧ dstOk n o.dst = true ∧ AOp P n o (depSl all m sp i ++ sl) (c0 :: L) fun sl' L' => ∃ v, sl' = put (depSl all m sp i ++ sl) o.dst (.v v) ∧ L' = c1 v :: L) →
      ∃ (q : List Sp) (pre' : Pre), q.length = (o :: r).length ∧ PreOk all pre' (sp ++ q) ∧ StepsQ P n all sl L m (sp ++ q) (o :: r) q i ∧ N pre' := by
      intro s t ht hsa hd hs
      obtain ⟨q, pre', a1, a0, a2, a3⟩ := drawG_steps hf hj hmn r (i + 1) ((t, i, s) :: pre) (sp ++ [s]) (by simp [hi]) (by simp at hm; omega) (fun k o' hk => by have := hall (k + 1) o' (by simpa using hk); rwa [show i + (k + 1) = i + 1 + k by omega] at this) (fun t' j s' => by
        simp only [List.mem_cons, Prod.mk.injEq, hpre]
        constructor
        · rintro (⟨rfl, rfl, rfl⟩ | ⟨h1, h2⟩)
          · exact ⟨by rw [List.getElem?_append_right (by omega)]; simp [hi], by rw [hdst]; exact ht⟩
          · exact ⟨by rw [List.getElem?_append_left (List.getElem?_eq_some_iff.1 h1).1]; exact h1, h2⟩
        · rintro ⟨h1, h2⟩
          by_cases hji : j < sp.length
          · rw [List.getElem?_append_left hji] at h1; exact .inr ⟨h1, h2⟩
          · rw [List.getElem?_append_right (by omega)] at h1
            have hj0 : j = i := by
              have := (List.getElem?_eq_some_iff.1 h1).1
              simp at this; omega
            subst hj0
            rw [hdst, ht] at h2
            simp [hi] at h1
            cases h2
            exact .inl ⟨rfl, rfl, h1.symm⟩) (fun j s' h1 o' ho' => by
        by_cases hji : j < sp.length
        · rw [List.getElem?_append_left hji] at h1; exact hal j s' h1 o' ho'
        · rw [List.getElem?_append_right (by omega)] at h1
          have hj0 : j = i := by
            have := (List.getElem?_eq_some_iff.1 h1).1
            simp at this; omega
          subst hj0
          rw [hoi] at ho'; cases ho'
          simp [hi] at h1
          subst h1
          exact hsa) (fun β => by
        rw [allF_append]
        simp only [gch, allF, List.append_nil, hi, Nat.zero_add]
        exact (List.Perm.append_left _ (hch β)).trans List.perm_append_comm) (by
        simp only [gch0, all0, List.flatMap_append, List.flatMap_cons, List.flatMap_nil, List.append_nil]
        exact (List.Perm.append_left _ hch0).trans List.perm_append_comm) hd
      rw [List.append_assoc] at a0 a2
      refine ⟨s :: q, pre', by simp [a1], a0, ⟨?_, a2⟩, a3⟩
      cases s with
      | q c =>
        show AQ P n all.toArray o (depSl all m ((sp ++ .q c :: q).take i) i ++ sl) L c
        rw [← hi, List.take_left, hi]; exact hs
      | al ty z => exact hs
      | ap c0 c1 =>
        obtain ⟨h1, h2, h3⟩ := hs
        refine ⟨h1, h2, ?_⟩
        rw [← hi, List.take_left, hi]; exact h3
    have hlook : ∀ ts : List Nat, tsOk all i ts = true → ∀ x, look (selS pre ts ++ (junk js ++ sl)) x = look (depSl all m sp i ++ sl) x ∨ look (selS pre ts ++ (junk js ++ sl)) x = .j := fun ts hts x => by
      rw [look_sel]
      by_cases hx : x ∈ ts
      · rw [if_pos hx]
        left
        have h1 := List.all_eq_true.1 hts x hx
        simp only [List.any_eq_true, Bool.and_eq_true, beq_iff_eq] at h1
        obtain ⟨d, hdi, hdd, hdal⟩ := h1
        have hdlt : d < i := fit_dep hf (by have := (List.getElem?_eq_some_iff.1 hoi).1; simpa using this) hdi
        obtain ⟨s, hs⟩ : ∃ s, sp[d]? = some s := ⟨sp[d]'(by omega), by simp⟩
        obtain ⟨od, hod⟩ : ∃ od, all[d]? = some od := ⟨all[d]'(by omega), by simp⟩
        have hsa := hal d s hs od hod
        simp only [hod, Option.map_some, Option.getD_some, Bool.not_eq_true'] at hdal
        rw [hdal] at hsa
        cases s with
        | al _ _ => cases hsa
        | ap _ _ => cases hsa
        | q cd =>
          have hmem : (x, cd) ∈ depSl all m sp i := List.mem_append.2 (.inl (List.mem_filterMap.2 ⟨d, hdi, by rw [hs, hdd]⟩))
          have hmem2 : (x, cd) ∈ gsl (fun _ => (0, undef)) pre := gsl_mem.2 ⟨d, .q cd, (hpre x d _).2 ⟨hs, hdd⟩, rfl⟩
          have l1 : look (gsl (fun _ => (0, undef)) pre) x = cd := by
            obtain ⟨j, s', h1, h2⟩ := gsl_mem.1 (look_mem _ x ⟨cd, hmem2⟩)
            obtain ⟨h3, h4⟩ := (hpre x j s').1 h1
            have := fit_dst hf hdd h4
            subst this
            rw [hs] at h3; cases h3
            exact h2
          have hfil : ∀ d', d' ∈ depsOf all.toArray i → ∀ c', (match sp[d']?, dstOf all.toArray d' with | some (Sp.q c), some t => some (t, c) | _, _ => none) = some (x, c') → c' = cd := fun d' _ c' h => by
            cases hs' : sp[d']? with
            | none => rw [hs'] at h; cases h
            | some s' =>
              cases hd' : dstOf all.toArray d' with
              | none => rw [hs', hd'] at h; cases s' <;> cases h
              | some t' =>
                rw [hs', hd'] at h
                cases s' with
                | al _ _ => cases h
                | ap _ _ => cases h
                | q c2 =>
                  simp at h
                  obtain ⟨rfl, rfl⟩ := h
                  have := fit_dst hf hdd hd'
                  subst this
                  rw [hs] at hs'; cases hs'; rfl
          rw [l1, look_append_in ⟨cd, hmem⟩]
          -- the first entry of x is one of the deps
          unfold depSl
          have hin : ∃ c, (x, c) ∈ ((depsOf all.toArray i).filterMap fun d => match sp[d]?, dstOf all.toArray d with | some (Sp.q c), some t => some (t, c) | _, _ => none) := ⟨cd, List.mem_filterMap.2 ⟨d, hdi, by rw [hs, hdd]⟩⟩
          refine Eq.trans ?_ (look_append_in hin).symm
          obtain ⟨d', hd1, hd2⟩ := List.mem_filterMap.1 (look_mem _ x hin)
          exact (hfil d' hd1 _ hd2).symm
      · rw [if_neg hx]
        by_cases hxj : x ∈ js
        · right; exact look_junk_in js sl x hxj
        · left
          rw [look_junk_out js sl x hxj]
          refine (look_append_out ?_).symm
          rintro ⟨c', hc⟩
          apply hxj
          have key : ∀ d', d' < m → dstOf all.toArray d' = some x → x ∈ js := fun d' hd' hdx => by
            have h1 := List.all_eq_true.1 hj d' (List.mem_range.2 hd')
            rw [hdx] at h1
            simpa using h1
          rcases List.mem_append.1 hc with h1 | h1
          · obtain ⟨d', hd1, hd2⟩ := List.mem_filterMap.1 h1
            have hlt := fit_dep hf (by have := (List.getElem?_eq_some_iff.1 hoi).1; simpa using this) hd1
            cases hs' : sp[d']? with
            | none => rw [hs'] at hd2; cases hd2
            | some s' =>
              cases hd' : dstOf all.toArray d' with
              | none => rw [hs', hd'] at hd2; cases s' <;> cases hd2
              | some t' =>
                rw [hs', hd'] at hd2
                cases s' with
                | al _ _ => cases hd2
                | ap _ _ => cases hd2
                | q c2 => simp at hd2; obtain ⟨rfl, _⟩ := hd2; exact key d' (by simp at hm; omega) hd'
          · obtain ⟨d', hd1, hd2⟩ := List.mem_filterMap.1 h1
            cases hd' : dstOf all.toArray d' with
            | none => rw [hd'] at hd2; cases hd2
            | some t' => rw [hd'] at hd2; cases hd2; exact key d' (List.mem_range.1 hd1) hd'
    rcases h with ⟨c, ts, t, ht, hna, hdk, hts, hq, hd⟩ | ⟨ty, z, t, ht, hz, hd⟩ | ⟨c0, c1, ts, t, ht, hia, hg, hdk, hts, hop, hd⟩
    · exact next (.q c) t ht hna hd (AQ.weaken (hlook ts hts) hq hdk)
    · exact next (.al ty z) t ht (by rw [hz.1]; rfl) hd hz
    · refine next (.ap c0 c1) t ht hia hd ⟨hg, hdk, ?_⟩
      have h1 := AOp.weakenS (W := fun c L' => ∃ v, c = .v v ∧ L' = c1 v :: L) (hlook ts hts) hop hdk
      intro w S a hs nx Qr hnx
      refine h1 w S a hs nx Qr ?_
      rintro sl' L' S2 a2 w2 ⟨c, rfl, v, rfl, rfl⟩ k1 k2 k3
      exact hnx _ _ S2 a2 w2 ⟨v, rfl, rfl⟩ k1 k2 k3

def zg (β : Nat → Nat × Value) (Z : List Nat) : Pre → Sl
  | [] => []
  | (t, i, s) :: r => (t, bif Z.contains i then V.j else s.val (β i)) :: zg β Z r
theorem zg_mem {β : Nat → Nat × Value} {Z : List Nat} : ∀ {pre : Pre} {t : Nat} {c : V}, (t, c) ∈ zg β Z pre ↔ ∃ i s, (t, i, s) ∈ pre ∧ c = bif Z.contains i then V.j else s.val (β i)
  | [], t, c => by simp [zg]
  | (t', i', s') :: r, t, c => by
    simp only [zg, List.mem_cons, zg_mem (pre := r)]
    constructor
    · rintro (h | ⟨i, s, h1, h2⟩)
      · cases h; exact ⟨i', s', .inl rfl, rfl⟩
      · exact ⟨i, s, .inr h1, h2⟩
    · rintro ⟨i, s, h | h, h2⟩
      · cases h; exact .inl (by rw [h2])
      · exact .inr ⟨i, s, h, h2⟩
theorem look_same {a b sl : Sl} (h : ∀ t c, (t, c) ∈ a ↔ (t, c) ∈ b) (hu : ∀ t c c', (t, c) ∈ b → (t, c') ∈ b → c = c') (t : Nat) : look (a ++ sl) t = look (b ++ sl) t := by
  by_cases hex : ∃ c, (t, c) ∈ a
  · have hex2 : ∃ c, (t, c) ∈ b := hex.imp fun c hc => (h t c).1 hc
    rw [look_append_in hex, look_append_in hex2]
    exact hu t _ _ ((h t _).1 (look_mem _ t hex)) (look_mem _ t hex2)
  · rw [look_append_out hex, look_append_out fun ⟨c, hc⟩ => hex ⟨c, (h t c).2 hc⟩]

/-- what is asked behind the operations ahead: the lazy ones, the late one, and the rest -/
structure LateN (P : Program) (n : Nat) (all : List Oper) (sl : Sl) (Lz As L : List Ch) (K : Sl → List Ch → Prop) (m : Nat) (js Z : List Nat) (pre : Pre) : Prop where
  asP : As.Perm (gch0 pre)
  z : ∀ z ∈ Z, ∃ o c t ys, all[z]? = some o ∧ (t, z, Sp.q c) ∈ pre ∧ o.guard = none ∧ (∀ p ∈ ys, ∃ y, y ∈ depsOf all.toArray z ∧ (p.1, y, Sp.q p.2) ∈ pre) ∧ AOp P n o (ys ++ (junk js ++ sl)) Lz fun sl' L' => sl' = put (ys ++ (junk js ++ sl)) o.dst c ∧ L' = Lz
  late : ∃ om, all[m]? = some om ∧ om.guard = none ∧ ∀ β, AOp P n om (zg β Z pre ++ sl) (gch β pre ++ L) fun sl' L' => ∃ cm R, sl' = put (zg β Z pre ++ sl) om.dst cm ∧ L'.Perm (Lz ++ R) ∧ AOs P n all.toArray (all.drop (m + 1)) (put (gsl β pre ++ sl) om.dst cm) L' K

theorem aw_drawGZ {ro : Option Nat} {id : Nat} {ops : List Oper} {sl : Sl} {L As L0 : List Ch} {Q : Exit → Sl → List Ch → Prop} (hL : L.Perm (As ++ L0)) (Lz : List Ch) (m : Nat) (Z js : List Nat) (hm : P.follows .mixedOrders = true) (hf : fit ops.toArray (m + 1) = true) (hmn : Nat.ble (m + 1) ops.length = true) (hz : lateOk ops m Z = true) (hj : junkOk ops (m + 1) js = true)
    (h : DrawG P n ops sl L0 m js (LateN P n ops sl Lz As L0 (Q .normal) m js Z) 0 (ops.take m) []) : AW P n ro (.region id ops.toArray true) sl L Q := by
  have hml := Nat.le_of_ble_eq_true hmn
  have hj2 : junkOk ops m js = true := List.all_eq_true.2 fun i hi => List.all_eq_true.1 hj i (List.mem_range.2 (by have := List.mem_range.1 hi; omega))
  obtain ⟨q, pre, a1, ⟨a2, a3, a4⟩, a5, hN⟩ := drawG_steps hf hj2 (by omega) (ops.take m) 0 [] [] rfl (by rw [List.length_take]; omega) (fun k o hk => by
    rw [List.getElem?_take] at hk
    split at hk
    · rw [Nat.zero_add]; exact hk
    · cases hk) (fun t j s => by simp) (fun j s h => by simp at h) (fun β => by simp [gch, allF]) (by simp [gch0, all0]) h
  have hq : q.length = m := by rw [a1, List.length_take]; omega
  rw [List.nil_append] at a2 a3 a4 a5
  obtain ⟨n1, n2, om, n3, n4, n5⟩ := hN
  refine aw_le (.perm (hL.trans (List.Perm.append_right L0 (n1.trans a4)))) (aw_drawZ Lz m Z js q hq hm hf hmn hz hj (stepsQ_take _ _ _ m hq a5) (fun z hzZ => ?_) om n3 n4 fun β => ?_)
  · obtain ⟨o, c, t, ys, k1, k2, k3, k5, k4⟩ := n2 z hzZ
    exact ⟨o, c, ys, k1, ((a2 _ _ _).1 k2).1, k3, fun p hp => by
      obtain ⟨y, y1, y2⟩ := k5 p hp
      exact ⟨y, y1, ((a2 _ _ _).1 y2).1, ((a2 _ _ _).1 y2).2⟩, k4⟩
  · have k1 := n5 β
    have e1 : ∀ t, look (zg β Z pre ++ sl) t = look (zSl ops β Z q 0 ++ sl) t := look_same (fun t c => by
      rw [zg_mem, zSl_mem]
      constructor
      · rintro ⟨i, s, h1, h2⟩
        obtain ⟨h3, h4⟩ := (a2 t i s).1 h1
        exact ⟨i, s, h3, by rw [Nat.zero_add]; exact h4, by rw [Nat.zero_add]; exact h2⟩
      · rintro ⟨i, s, h1, h2, h3⟩
        rw [Nat.zero_add] at h2 h3
        exact ⟨i, s, (a2 t i s).2 ⟨h1, h2⟩, h3⟩) fun t c c' h1 h2 => by
      obtain ⟨i, s, b1, b2, b3⟩ := (zSl_mem q 0 t c).1 h1
      obtain ⟨i', s', d1, d2, d3⟩ := (zSl_mem q 0 t c').1 h2
      rw [Nat.zero_add] at b2 b3 d2 d3
      have := fit_dst hf b2 d2
      subst this
      rw [b1] at d1; cases d1
      rw [b3, d3]
    have e2 : ∀ t, look (gsl β pre ++ sl) t = look (fullSl ops β q 0 ++ sl) t := look_same (fun t c => by
      rw [gsl_mem, fullSl_mem]
      constructor
      · rintro ⟨i, s, h1, h2⟩
        obtain ⟨h3, h4⟩ := (a2 t i s).1 h1
        exact ⟨i, s, h3, by rw [Nat.zero_add]; exact h4, by rw [Nat.zero_add]; exact h2⟩
      · rintro ⟨i, s, h1, h2, h3⟩
        rw [Nat.zero_add] at h2 h3
        exact ⟨i, s, (a2 t i s).2 ⟨h1, h2⟩, h3⟩) fun t c c' h1 h2 => by
      obtain ⟨i, s, b1, b2, b3⟩ := (fullSl_mem q 0 t c).1 h1
      obtain ⟨i', s', d1, d2, d3⟩ := (fullSl_mem q 0 t c').1 h2
      rw [Nat.zero_add] at b2 b3 d2 d3
      have := fit_dst hf b2 d2
      subst this
      rw [b1] at d1; cases d1
      rw [b3, d3]
    intro w S a hs nx Qr hnx
    have hp := List.Perm.append_right L0 (a3 β).symm
    have f0 : Fr w S (allF β q 0 ++ L0) w S (gch β pre ++ L0) := (Fr.refl w S _).perm (.refl _) hp
    refine k1 w S a ⟨hs.hp.perm hp, hs.size, fun t => by rw [e1]; exact hs.sl t, hs.df.move f0⟩ nx Qr ?_
    rintro sl' L' S2 a2 w2 ⟨cm, R1, rfl, hpR, k2⟩ b1 b2 b3
    refine hnx _ _ S2 a2 w2 ⟨cm, put (gsl β pre ++ sl) om.dst cm, R1, fun t ht => ?_, hpR, fun t => ?_, k2⟩ b1 (f0.trans b2) b3
    · rw [ht]
      show (bif Nat.beq t t then cm else _) = cm
      simp
    · cases hd : om.dst with
      | none => exact e2 t
      | some d =>
        show (bif Nat.beq d t then cm else look (gsl β pre ++ sl) t) = (bif Nat.beq d t then cm else look (fullSl ops β q 0 ++ sl) t)
        rw [e2]
section
variable {all : List Oper} {sl : Sl} {L : List Ch} {N : Pre → Prop} {m : Nat} {js : List Nat} {i : Nat} {o : Oper} {r : List Oper} {pre : Pre}
theorem drawg_q (ts : List Nat) {c : V} {t : Nat} (ht : o.dst = some t) (ha : isAl o.op = false) (hd : dstOk n o.dst = true) (hts : tsOk all i ts = true) (h : AQ P n all.toArray o (selS pre ts ++ (junk js ++ sl)) L c) (h2 : DrawG P n all sl L m js N (i + 1) r ((t, i, .q c) :: pre)) : DrawG P n all sl L m js N i (o :: r) pre := .inl ⟨c, ts, t, ht, ha, hd, hts, h, h2⟩
theorem drawg_ap (ts : List Nat) {t : Nat} (c0 : Ch) (c1 : Value → Ch) (ht : o.dst = some t) (ha : isAl o.op = true) (hg : o.guard = none) (hd : dstOk n o.dst = true) (hts : tsOk all i ts = true) (h : AOp P n o (selS pre ts ++ (junk js ++ sl)) (c0 :: L) fun sl' L' => ∃ c, sl' = put (selS pre ts ++ (junk js ++ sl)) o.dst c ∧ ∃ v, c = .v v ∧ L' = c1 v :: L) (h2 : DrawG P n all sl L m js N (i + 1) r ((t, i, .ap c0 c1) :: pre)) : DrawG P n all sl L m js N i (o :: r) pre := .inr (.inr ⟨c0, c1, ts, t, ht, ha, hg, hd, hts, h, h2⟩)
end
end Go.Proofs.Ytlagablcopmhkaa
/- nfa: the maker's state; the leaves. -/
namespace Go.Proofs.Ytlagablcopmhkaa
open Go.RowKit

theorem AC.fr {P : Program} {f : FuncId} {args : List V} {L L1 F : List Ch} {Q Q' : V → List Ch → Prop} (h : AC P f args L1 Q) (hp : L.Perm (L1 ++ F)) (hq : ∀ r L1', Q r L1' → ∃ L', (L1' ++ F).Perm L' ∧ Q' r L') : AC P f args L Q' := fun w S vs hp0 hr => by
  have hp1 := hp0.perm hp
  refine (h w S vs hp1.left hr).mono ?_
  rintro e w' ⟨v, c, S', L1', rfl, hQ, hv, hp', hf'⟩
  obtain ⟨q1, q2⟩ := hp1.frame hp' hf'
  obtain ⟨L', k1, k2⟩ := hq c L1' hQ
  exact ⟨v, c, S', L', rfl, k2, hv, q1.perm k1, q2.perm hp.symm k1⟩

theorem aop_rowOne {P : Program} {n : Nat} {o : Oper} {sl : Sl} {L : List Ch} {K : Sl → List Ch → Prop} {v : Value} {e : TypeId} {k m : Nat} {cs : List V} (j : Nat) (hj : L[j]? = some (.row v e k m cs)) (h : v.oneCell' = true → AOp P n o sl L K) : AOp P n o sl L K := fun w S a hs => by
  obtain ⟨us, hown, _⟩ := (hs.hp.mem hj).1
  refine h ?_ w S a hs
  rcases hown.2 with ⟨rfl, _⟩ | ⟨g, cap, cur, rfl, _⟩ <;> rfl
/-- a node's cells -/
def nodeV (x : Node) : List V := (nodeD x).map V.d
def setV (s : BitVec 256) : List V := (setC s).toList.map V.v
def setsV (l : List (BitVec 256)) : List V := l.flatMap setV
theorem setsV_append (l : List (BitVec 256)) (s : BitVec 256) : setsV (l ++ [s]) = setsV l ++ setV s := by simp [setsV]
theorem folV_append (l : List Nat) (m : Nat) : folV (l ++ [m]) = folV l ++ bitsV m := by simp [folV]
/-- the state of the maker -/
structure MS where
  sets : List (BitVec 256)
  fol : List Nat
structure Pt where
  f : Nat
  l : Nat
  e : Bool
def Pt.V (p : Pt) : List V := partV p.f p.l p.e
abbrev mk3 (bm : Nat) (sv fv : Value) (M : MS) : List Ch := [.row fv 100 7 M.fol.length (folV M.fol), .row sv 38 4 M.sets.length (setsV M.sets), .box bm 98 [.v sv, .v fv]]

set_option exponentiation.threshold 1000 in
set_option maxRecDepth 100000 in
theorem kinds2_a (x : Node) : AC Try.prog 136 [.a (nodeV x)] [] fun r L' => r = .a (partV 0 0 true) ∧ L' = [] := by
  cases x
  refine ac_body _ Try.func136 rfl Try.ntmps136 Try.results136 rfl ?_
  refine aw_seq (aw_region ?_)
  refine aos_cons rfl (aop_box_a rfl rfl rfl rfl ?_)
  intro b1
  refine aos_cons rfl (aop_alloc rfl rfl ?_)
  intro b2
  (repeat (first | ((refine aos_cons rfl ?_); refine aop_build rfl rfl (partV 0 0 true) rfl ?_; show AOs _ _ _ _ ((_, _) :: _) _ _) | refine aos_nil ?_ | ((refine aos_cons rfl ?_); (refine gsa rfl rfl rfl rfl (by repeat first | exact .z | apply At.s) rfl (by rfl) rfl ?_); show AOs _ _ _ _ ((_, _) :: _) _ _) | refine aw_seq ?_ | refine aw_region ?_ | refine aw_ret ?_))
  exact fpost0 (.inr rfl) (res_cell (i := 0) rfl rfl rfl) rfl

set_option exponentiation.threshold 1000 in
set_option maxRecDepth 100000 in
set_option maxHeartbeats 2000000 in
theorem kinds3_a {bm : Nat} {sv fv : Value} {M : MS} {k : Nat} {s : BitVec 256} {mn mx : Int} {subs : List Node} (hM : M.sets.length < 448) (hf : M.fol.length = M.sets.length) :
    AC Try.prog 137 [.a (nodeV (.mk k s mn mx subs)), .e [.v (.pointer (some ⟨bm, 0, none⟩))] 0] (mk3 bm sv fv M) fun r L' => ∃ sv' fv', r = .a (partV (2 ^ M.sets.length) (2 ^ M.sets.length) false) ∧ L' = mk3 bm sv' fv' ⟨M.sets ++ [s], M.fol ++ [0]⟩ := by
  have hnl : 0 + 1 + 4 ≤ (nodeV (.mk k s mn mx subs)).length := by show 5 ≤ 8; omega
  refine ac_body _ Try.func137 rfl Try.ntmps137 Try.results137 rfl ?_
  refine aw_seq (aw_region ?_)
  refine aos_cons rfl (aop_box_a rfl rfl rfl rfl ?_)
  intro b2
  refine aos_cons rfl (aop_alloc rfl rfl ?_)
  intro b3
  (repeat (first | refine aos_nil ?_ | refine aw_seq ?_ | refine aw_region ?_))
  refine aos_cons rfl (aop_alloc rfl rfl ?_)
  intro b4
  (repeat (first | ((refine aos_cons rfl ?_); refine aop_load_e rfl rfl rfl rfl ?_; show AOs _ _ _ _ ((_, _) :: _) _ _) | refine aos_nil ?_ | ((refine aos_cons rfl ?_); (first | refine qd rfl rfl ?_ | refine gl rfl rfl rfl (by repeat first | exact .z | apply At.s) (by rfl) ?_ | refine aop_fieldAddr rfl rfl rfl ?_ | refine gn rfl rfl rfl (by repeat first | exact .z | apply At.s) ?_); show AOs _ _ _ _ ((_, _) :: _) _ _) | refine aw_seq ?_ | refine aw_region ?_))
  refine aw_drawGZ (show List.Perm _ ([_, _] ++ [_, _, _, _]) from (List.perm_append_comm (l₁ := [_, _, _]) (l₂ := [_, _])).append_right [_]) ([]) 19 [1] [11, 12, 13, 14, 15, 16, 17, 18, 19, 20, 21, 22, 23, 24, 25, 26, 27, 28, 29] (by kernel_rfl) (by kernel_rfl) rfl (by kernel_rfl) (by kernel_rfl) ?_; refine drawg_q [] rfl rfl rfl (by kernel_rfl) (aq_plain rfl (by exact aop_load_e rfl rfl rfl rfl ⟨rfl, rfl⟩)) ?_; refine drawg_q [] rfl rfl rfl (by kernel_rfl) (aq_plain rfl (by exact aop_load_e rfl rfl rfl rfl ⟨rfl, rfl⟩)) ?_; refine drawg_q [] rfl rfl rfl (by kernel_rfl) (aq_plain rfl (by exact aop_load_e rfl rfl rfl rfl ⟨rfl, rfl⟩)) ?_; refine drawg_q [13] rfl rfl rfl (by kernel_rfl) (aq_plain rfl (by exact qd rfl rfl ⟨rfl, rfl⟩)) ?_; refine drawg_q [14] rfl rfl rfl (by kernel_rfl) (aq_plain rfl (aop_fieldAddr rfl rfl rfl ⟨rfl, rfl⟩)) ?_; refine drawg_q [15] rfl rfl rfl (by kernel_rfl) (aq_plain rfl (by exact gl rfl rfl rfl (by repeat first | exact .z | apply At.s) (by rfl) ⟨rfl, rfl⟩)) ?_; refine drawg_q [] rfl rfl rfl (by kernel_rfl) (aq_plain rfl (aop_fieldAddr rfl rfl rfl ⟨rfl, rfl⟩)) ?_; refine drawg_q [17] rfl rfl rfl (by kernel_rfl) (aq_plain rfl (by exact aop_load_agg (i := 2) rfl rfl rfl rfl ⟨rfl, rfl⟩ hnl ⟨rfl, rfl⟩)) ?_; refine drawg_q [18] rfl rfl rfl (by kernel_rfl) (aq_plain rfl (aop_buildSlice rfl rfl _ rfl rfl (by decide) (by decide) ⟨rfl, rfl⟩)) ?_; refine drawg_ap [16, 19] (.row sv 38 4 M.sets.length (setsV M.sets)) (fun v => .row v 38 4 (M.sets.length + 1) (setsV M.sets ++ setV s)) rfl rfl rfl rfl (by kernel_rfl) (aop_append (j := 0) rfl rfl rfl rfl rfl rfl (by omega) (by omega) (fun v' => ⟨_, rfl, v', rfl, rfl⟩)) ?_; refine drawg_q [] rfl rfl rfl (by kernel_rfl) (aq_plain rfl (by exact aop_load_e rfl rfl rfl rfl ⟨rfl, rfl⟩)) ?_; refine drawg_q [21] rfl rfl rfl (by kernel_rfl) (aq_plain rfl (by exact qd rfl rfl ⟨rfl, rfl⟩)) ?_; refine drawg_q [22] rfl rfl rfl (by kernel_rfl) (aq_plain rfl (aop_fieldAddr rfl rfl rfl ⟨rfl, rfl⟩)) ?_; refine drawg_q [23] rfl rfl rfl (by kernel_rfl) (aq_plain rfl (by exact gl rfl rfl rfl (by repeat first | exact .z | apply At.s) (by rfl) ⟨rfl, rfl⟩)) ?_; refine drawg_q [] rfl rfl rfl (by kernel_rfl) (aq_plain rfl (aop_build rfl rfl _ rfl ⟨rfl, rfl⟩)) ?_; refine drawg_q [25] rfl rfl rfl (by kernel_rfl) (aq_plain rfl (aop_buildSlice rfl rfl _ rfl rfl (by decide) (by decide) ⟨rfl, rfl⟩)) ?_; refine drawg_ap [24, 26] (.row fv 100 7 M.fol.length (folV M.fol)) (fun v => .row v 100 7 (M.fol.length + 1) (folV M.fol ++ bitsV 0)) rfl rfl rfl rfl (by kernel_rfl) (aop_append (j := 0) rfl rfl rfl rfl rfl rfl (by omega) (by omega) (fun v' => ⟨_, rfl, v', rfl, rfl⟩)) ?_; refine drawg_q [11, 13, 14, 15, 16, 17, 18, 19, 24] rfl rfl rfl (by kernel_rfl) (aq_plain rfl (by exact qd rfl rfl ⟨rfl, rfl⟩)) ?_; refine drawg_q [11, 13, 14, 15, 16, 17, 18, 19, 24, 28] rfl rfl rfl (by kernel_rfl) (aq_plain rfl (aop_fieldAddr rfl rfl rfl ⟨rfl, rfl⟩)) ?_; refine ⟨.refl _, ?_, _, rfl, rfl, fun β => ?_⟩
  · intro z hz
    obtain rfl := List.mem_singleton.1 hz
    refine ⟨_, _, 12, [], rfl, ?_, rfl, (fun _ h => by cases h), aop_load_e rfl rfl rfl rfl ⟨rfl, rfl⟩⟩
    repeat (first | exact List.mem_cons_self | refine List.mem_cons_of_mem _ ?_)
  · refine aop_rowOne 1 rfl fun h9 => aop_store1 (i := 5) rfl rfl rfl rfl rfl rfl h9 ⟨_, _, rfl, .refl _, ?_⟩
    show AOs _ _ _ _ ((_, _) :: _) (_ :: _) _
    (repeat (((refine aos_cons rfl ?_); (first | refine qd rfl rfl ?_ | refine aop_fieldAddr rfl rfl rfl ?_); show AOs _ _ _ _ ((_, _) :: _) _ _)))
    refine aos_cons rfl (aop_rowOne 0 rfl fun h16 => aop_store1 (i := 5) rfl rfl rfl rfl rfl rfl h16 ?_)
    show AOs _ _ _ _ ((_, _) :: _) (_ :: _) _
    (repeat (first | refine aos_nil ?_ | ((refine aos_cons rfl ?_); (first | refine qd rfl rfl ?_ | refine aop_fieldAddr rfl rfl rfl ?_); show AOs _ _ _ _ ((_, _) :: _) _ _) | refine aw_seq ?_ | refine aw_region ?_))
    refine aos_cons rfl (aop_call rfl rfl rfl (fun _ _ => by kernel_rfl) (perm_at (i := 2) rfl .emp).1 (put_a (m := 0) (p := M.sets.length) [] (bitsV 0 ++ [V.b false]) 0 hM rfl) (.refl _) ?_)
    rintro r L' ⟨rfl, rfl⟩
    show AOs _ _ _ _ ((_, _) :: _) (_ :: _) _
    (repeat (first | refine aos_nil ?_ | ((refine aos_cons rfl ?_); (first | refine qd rfl rfl ?_ | refine aop_fieldAddr rfl rfl rfl ?_); show AOs _ _ _ _ ((_, _) :: _) _ _) | refine aw_seq ?_ | refine aw_region ?_))
    refine aos_cons rfl (aop_call rfl rfl rfl (fun _ _ => by kernel_rfl) (perm_at (i := 0) rfl .emp).1 (put_a (m := 0) (p := M.sets.length) (bitsV (0 ||| 2 ^ M.sets.length)) [V.b false] 7 hM rfl) (.refl _) ?_)
    rintro r L' ⟨rfl, rfl⟩
    show AOs _ _ _ _ ((_, _) :: _) (Ch.box b4 102 (partV (0 ||| 2 ^ M.sets.length) (0 ||| 2 ^ M.sets.length) false) :: _) _
    (repeat (first | ((refine aos_cons rfl ?_); refine aop_load_all (i := 0) rfl rfl rfl rfl ⟨rfl, rfl⟩ rfl ?_; show AOs _ _ _ _ ((_, _) :: _) _ _) | refine aos_nil ?_ | ((refine aos_cons rfl ?_); (refine gsa rfl rfl rfl rfl (by repeat first | exact .z | apply At.s) rfl (by rfl) rfl ?_); show AOs _ _ _ _ ((_, _) :: _) _ _) | refine aw_seq ?_ | refine aw_region ?_ | refine aw_ret ?_))
    refine fpost (.inr rfl) (.a (partV (0 ||| 2 ^ M.sets.length) (0 ||| 2 ^ M.sets.length) false)) (.refl _ _) (res_cell (i := 3) rfl rfl rfl) (L2 := [.row (β 16).2 100 7 (M.fol.length + 1) (folV M.fol ++ bitsV 0), .row (β 9).2 38 4 (M.sets.length + 1) (setsV M.sets ++ setV s), .box bm 98 [.v (β 9).2, .v (β 16).2]]) ?_ ⟨(β 9).2, (β 16).2, ?_, ?_⟩
    · exact .cons _ (.cons_cons _ (.cons_cons _ (.cons _ (.cons _ (.cons_cons _ (.refl _))))))
    · rw [Nat.zero_or]
    · simp [mk3, folV_append, setsV_append]
end Go.Proofs.Ytlagablcopmhkaa
/- nfa: the maker's functions. -/
namespace Go.Proofs.Ytlagablcopmhkaa
open Go.RowKit

/-- a box is written no more -/
theorem Le.freezeBox {n : Nat} {sl : Sl} {L : List Ch} (s : Nat) {j b o : Nat} {ty : TypeId} {cs : List V} (hj : L[j]? = some (.box b ty cs)) (hs : look sl s = .ptr b o) (hD : cs.all V.isD = true) (ho : o < cs.length) : Le n sl L ((s, .e (cs.map V.toD) o) :: sl) (L.set j .emp) := fun w S a h => by
  obtain ⟨⟨us, hg, hr, hone⟩, hp1⟩ := h.hp.mem hj
  have hk : Kept w S w (fun x => S x ∨ x = b) := kept_same (fun _ _ _ => rfl) fun _ h => .inl h
  obtain ⟨d1, d2⟩ := (hr.move hk).toD hD
  have q2 : Hp w (fun x => S x ∨ x = b) [.emp] := ⟨fun c hc => by simp at hc; subst hc; trivial, List.pairwise_singleton _ _, fun x hx => (by have := inL_one.1 hx; cases this), fun x hx => hx.elim (h.hp.lt x) (fun e => by subst e; exact (Array.getElem?_eq_some_iff.1 hg).1)⟩
  have q3 : Fr w S [.box b ty cs] w (fun x => S x ∨ x = b) [.emp] := ⟨rfl, rfl, rfl, Nat.le_refl _, fun _ _ _ => rfl, fun _ h => .inl h, fun x hx _ => hx.imp id fun e => inL_one.2 e.symm, fun x hx => (by have := inL_one.1 hx; cases this)⟩
  obtain ⟨q4, q5⟩ := h.hp.upd hj q2 q3
  refine ⟨_, ⟨q4, h.size, fun t => ?_, h.df.move q5⟩, q5⟩
  show R w _ (bif Nat.beq s t then _ else look sl t) _
  cases hb : Nat.beq s t with
  | true =>
    have := Nat.eq_of_beq_eq_true hb
    subst this
    have h1 := h.sl s
    rw [hs] at h1
    rw [h1.unv]
    have h9 : R w (fun x => S x ∨ x = b) (.e (cs.map V.toD) o) (.pointer (some ⟨b, 0 + o, none⟩)) := .e us d1.symm (by simpa using ho) (.inr rfl) (fun i u hi => by
      rw [cell_of_row _ _ _ _ _ _ hg, Nat.zero_add]
      simpa using hi) d2
    rwa [Nat.zero_add] at h9
  | false => exact (h.sl t).move (q5.kept h.hp)

/-- an element of an aggregate -/
theorem aop_indexAgg {P : Program} {n : Nat} {o : Oper} {sl : Sl} {L : List Ch} {K : Sl → List Ch → Prop} {t e : TypeId} {x y : Operand} {len : Nat} {kk : IntKind} {q : Int} {cs : List V} {c : V} [ht : TyA P t len e 1] [hte : TyS P e 1 false] (ho : o.op = .index t x y) (hd : dstOk n o.dst = true) (hx : ev sl x = .a cs) (hy : ev sl y = .v (.int kk q)) (i : Nat) (hq : q = (i : Int)) (hi : i < len) (hc : cs[i]? = some c)
    (hK : K (put sl o.dst c) L) : AOp P n o sl L K := by
  refine .val hd _ (fun w S a hs => ?_) hK
  have h := hs.ev x
  rw [hx] at h
  generalize hv : a.eval x = v at h
  cases h with
  | a us hl hr =>
    obtain ⟨u, hu⟩ : ∃ u, us[i]? = some u := ⟨us[i]'(by rw [hl]; exact (List.getElem?_eq_some_iff.1 hc).1), by simp⟩
    refine ⟨u, ?_, hr i c u hc hu⟩
    simp [execOp, ho, hv, hs.evv hy, Instr.index, asIntOf, run_underlying ht.und, hq, hi, ht.size, part, hte.agg, hte.size, hu]

def ptrM (bm : Nat) : D := .v (.pointer (some ⟨bm, 0, none⟩))
def kindsV (bm : Nat) : List V := [.f (.func 135) [] [], .f (.func 136) [] [], .f (.func 137) [] [.e [ptrM bm] 0], .f (.func 138) [] [.e [ptrM bm] 0], .f (.func 140) [] [.e [ptrM bm] 0], .f (.func 142) [.ptr bm 0] [], .f (.func 143) [] [.e [ptrM bm] 0]]
set_option maxRecDepth 100000 in
theorem kinds_a (bm : Nat) : AC Try.prog 109 [.ptr bm 0] [] fun r L' => r = .a (kindsV bm) ∧ L' = [] := by
  refine ac_body _ Try.func109 rfl Try.ntmps109 Try.results109 rfl ?_
  refine aw_seq (aw_region ?_)
  refine aos_cons rfl (aop_box_d rfl rfl rfl rfl ?_)
  intro b1
  refine aos_le (.freezeBox 1 (j := 0) rfl rfl rfl (Nat.succ_pos _)) ?_ rfl
  show AOs _ _ _ _ ((_, _) :: _) _ _
  refine aos_cons rfl (aop_alloc rfl rfl ?_)
  intro b2
  show AOs _ _ _ _ ((_, _) :: _) (_ :: _) _
  (repeat (first | ((refine aos_cons rfl ?_); refine aop_load_e rfl rfl rfl rfl ?_; show AOs _ _ _ _ ((_, _) :: _) _ _) | ((refine aos_cons rfl ?_); refine aop_build rfl rfl (kindsV bm) rfl ?_; show AOs _ _ _ _ ((_, _) :: _) _ _) | refine aos_nil ?_ | ((refine aos_cons rfl ?_); (first | refine qf rfl rfl ?_ | refine gsa rfl rfl rfl rfl (by repeat first | exact .z | apply At.s) rfl (by rfl) rfl ?_); show AOs _ _ _ _ ((_, _) :: _) _ _) | refine aw_seq ?_ | refine aw_region ?_ | refine aw_ret ?_))
  exact fpost0 (.inr rfl) (res_cell (i := 0) rfl rfl rfl) rfl
end Go.Proofs.Ytlagablcopmhkaa
