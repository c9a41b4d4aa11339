/- Packed: AlDraw -/
import Derived.Test.YtlagablcopmhkaaKRowRuns4
import Derived.Test.YtlagablcopmhkaaKRowRuns5
set_option linter.unusedVariables false
set_option linter.unusedSimpArgs false
/- Walking with descriptions: regions that draw their order: operations that leave memory as it is, and new variables, in any order; then the others. -/
namespace Go.Proofs.Ytlagablcopmhkaa
open Go.RowKit
variable {P : Program} {n : Nat}

section
variable {ops : Array Oper} {Q : Exit → Act → World → Prop}
theorem tail_soundIn {ro : Option Nat} {m : Nat} (hf : fit ops m = true) : ∀ (fuel r : Nat) (listed : Array Bool) (a : Act) (w : World), m ≤ r → ops.size ≤ r + fuel → (∀ j, j < ops.size → (listed.getD j true = true ↔ j < r)) → listed.size = ops.size →
    wpOpsIn (fen ro) 0 P ops Q (List.range' r (ops.size - r)) a w → wpAnyIn (fen ro) 0 P .any ops Q fuel listed a w := by
  intro fuel
  induction fuel with
  | zero =>
    intro r listed a w hm hr hl hs h
    have hz : Region.ready .any ops listed = [] := by
      rw [List.eq_nil_iff_forall_not_mem]
      intro j hj
      obtain ⟨h1, h2, _⟩ := mem_ready' hj
      have := (hl j h1).2 (by omega)
      rw [h2] at this; cases this
    rw [show ops.size - r = 0 by omega] at h
    exact ⟨hz, by simpa [wpOpsIn] using h⟩
  | succ fuel ih =>
    intro r listed a w hm hr hl hs h
    by_cases hrn : r < ops.size
    · have only : ∀ j ∈ Region.ready .any ops listed, j = r := by
        intro j hj
        obtain ⟨h1, h2, h3⟩ := mem_ready' hj
        have hge : r ≤ j := by
          rcases Nat.lt_or_ge j r with h | h
          · have := (hl j h1).2 h; rw [h2] at this; cases this
          · exact h
        rcases Nat.lt_or_ge r j with hlt | hge2
        · exfalso
          have hd : ∀ i, i < ops.size → ∀ {b c : Bool}, listed.getD i b = listed.getD i c := fun i hi {b c} => by simp [Array.getElem?_eq_getElem (hs ▸ hi : i < listed.size)]
          have := cover_listed (ops := ops) (L := fun k => k < ops.size ∧ k < r) (fun i hi d hd' => by have := fit_dep hf hi.1 hd'; omega) j (depsOf ops j) (fun s hs' => by
            have h4 := fit_dep hf h1 hs'
            have h5 := h3 s hs'
            rw [hd s (by omega) (c := true)] at h5
            exact ⟨by omega, (hl s (by omega)).1 h5⟩) (fit_cover hf h1 (by omega)) r hlt
          omega
        · omega
      refine ⟨fun h0 => ?_, fun i hi => ?_⟩
      · exfalso
        have hin : r ∈ Region.ready .any ops listed := by
          refine ready_of hrn ?_ fun d hd => ?_
          · cases hx : listed.getD r true
            · rfl
            · have := (hl r hrn).1 hx; omega
          · have h4 := fit_dep hf hrn hd
            have h5 := (hl d (by omega)).2 h4
            simpa [Array.getElem?_eq_getElem (show d < listed.size by omega)] using h5
        rw [h0] at hin; cases hin
      · obtain rfl := only i hi
        rw [show ops.size - i = (ops.size - (i + 1)) + 1 by omega, List.range'_succ, wpOpsIn_cons] at h
        refine wpOpIn_mono (fun a' w' h' => ih (i + 1) _ a' w' (by omega) (by omega) (fun j hj => ?_) (by simpa using hs) h') h
        by_cases hji : j = i
        · subst hji
          simp [hs, hj]
        · rw [getD_set_ne true (Ne.symm hji), hl j hj]; omega
    · have hz : Region.ready .any ops listed = [] := by
        rw [List.eq_nil_iff_forall_not_mem]
        intro j hj
        obtain ⟨h1, h2, _⟩ := mem_ready' hj
        have := (hl j h1).2 (by omega)
        rw [h2] at this; cases this
      rw [show ops.size - r = 0 by omega] at h
      exact ⟨fun _ => by simpa [wpOpsIn] using h, by rw [hz]; simp⟩

theorem wp_region_inv {ro : Option Nat} {id : Nat} {a : Act} {w : World} (hm : P.follows .mixedOrders = true) (m : Nat) (hf : fit ops m = true) (hmn : m ≤ ops.size) (Inv : (Nat → Bool) → Act → World → Prop) (h0 : Inv (fun _ => false) a { w with drawn := w.drawn + 1 })
    (hext : ∀ (D D' : Nat → Bool) (a : Act) (w : World), (∀ k, k < m → D k = D' k) → Inv D a w → Inv D' a w)
    (hstep : ∀ (i : Nat) (D : Nat → Bool) (a : Act) (w : World), i < m → Inv D a w → (∀ d ∈ depsOf ops i, d < m ∧ D d = true) → D i = false → wpOpIn (fen ro) 0 P ops Q i (Inv fun k => D k || Nat.beq k i) a w)
    (hend : ∀ (a : Act) (w : World), Inv (fun _ => true) a w → wpOpsIn (fen ro) 0 P ops Q (List.range' m (ops.size - m)) a w) : (Code.region id ops true).wpIn (fen ro) 0 P Q a w := by
  refine wpIn_region_any hm ?_
  have main : ∀ (fuel : Nat) (listed : Array Bool) (a : Act) (W : World), listed.size = ops.size → ((List.range ops.size).countP fun k => !listed.getD k true) ≤ fuel → Inv (fun k => listed.getD k false) a W →
      (∀ k, k < ops.size → listed.getD k true = true → k < m ∧ ∀ d ∈ depsOf ops k, listed.getD d true = true) → wpAnyIn (fen ro) 0 P .any ops Q fuel listed a W := by
    intro fuel
    induction fuel with
    | zero =>
      intro listed a W hs hc hI hl
      have all : ∀ k, k < ops.size → listed.getD k true = true := fun k hk => by
        cases hx : listed.getD k true
        · have := List.countP_eq_zero.1 (Nat.le_zero.1 hc) k (List.mem_range.2 hk)
          rw [hx] at this; exact absurd rfl this
        · rfl
      have gd : ∀ i, i < ops.size → ∀ {b c : Bool}, listed.getD i b = listed.getD i c := fun i hi {b c} => by simp [Array.getElem?_eq_getElem (hs ▸ hi : i < listed.size)]
      have hmn2 : m = ops.size := by
        rcases Nat.lt_or_ge m ops.size with h | h
        · have := (hl m h (all m h)).1; omega
        · omega
      refine tail_soundIn hf 0 ops.size listed _ _ (by omega) (by omega) (fun j hj => ⟨fun _ => hj, fun _ => all j hj⟩) hs ?_
      have := hend a W (hext _ _ a W (fun k hk => by rw [gd k (by omega) (c := true)]; exact all k (by omega)) hI)
      rw [hmn2] at this
      exact this
    | succ fuel ih =>
      intro listed a W hs hc hI hl
      have gd : ∀ i, i < ops.size → ∀ {b c : Bool}, listed.getD i b = listed.getD i c := fun i hi {b c} => by simp [Array.getElem?_eq_getElem (hs ▸ hi : i < listed.size)]
      by_cases hall : ∀ k, k < m → listed.getD k true = true
      · refine tail_soundIn hf (fuel + 1) m listed _ _ (Nat.le_refl _) ?_ (fun j hj => ⟨fun h => (hl j hj h).1, hall j⟩) hs (hend a W (hext _ _ a W (fun k hk => by rw [gd k (by omega) (c := true)]; exact hall k hk) hI))
        have := count_ge (p := fun k => !listed.getD k true) (m := m) ops.size (fun k h1 h2 => by
          cases hx : listed.getD k true
          · rfl
          · have := (hl k h2 hx).1; omega)
        omega
      · refine ⟨fun h0 => ?_, fun i hi => ?_⟩
        · exfalso
          apply hall
          have : ∀ k, k < ops.size → listed.getD k true = true := by
            intro k
            induction k using Nat.strongRecOn with
            | ind k ihk =>
              intro hk
              cases hx : listed.getD k true
              · have hin : k ∈ Region.ready .any ops listed := ready_of hk hx fun d hd => by
                  have h4 := fit_dep hf hk hd
                  rw [gd d (by omega) (c := true)]
                  exact ihk d h4 (by omega)
                rw [h0] at hin; cases hin
              · rfl
          exact fun k hk => this k (by omega)
        · obtain ⟨h1, h2, h3⟩ := mem_ready' hi
          have him : i < m := by
            rcases Nat.lt_or_ge i m with h | h
            · exact h
            · exfalso
              apply hall
              have := cover_listed (ops := ops) (L := fun k => k < ops.size ∧ listed.getD k true = true) (fun j hj d hd => ⟨by have := fit_dep hf hj.1 hd; omega, (hl j hj.1 hj.2).2 d hd⟩) i (depsOf ops i) (fun s hs' => by
                have h4 := fit_dep hf h1 hs'
                exact ⟨by omega, by rw [gd s (by omega) (c := false)]; exact h3 s hs'⟩) (fit_cover hf h1 h)
              exact fun k hk => (this k (by omega)).2
          refine wpOpIn_mono ?_ (hstep i _ a W him hI (fun d hd => ⟨?_, h3 d hd⟩) (by show listed.getD i false = false; rw [gd i h1 (c := true)]; exact h2))
          · intro a' w' hI'
            refine ih _ _ w' (by simpa using hs) ?_ (hext _ _ a' w' (fun k hk => ?_) hI') fun k hk hkl => ?_
            · have := count_lt (p := fun k => !listed.getD k true) (q := fun k => !(listed.setIfInBounds i true).getD k true) (i := i) (fun k hk => by
                by_cases e : k = i
                · subst e; simp [hs, h1] at hk
                · rw [getD_set_ne true (Ne.symm e)] at hk; exact hk) (by simp only [h2]; rfl) (by simp [hs, h1]) ops.size h1
              omega
            · by_cases e : k = i
              · subst e; simp [hs, h1]
              · rw [getD_set_ne false (Ne.symm e)]
                have hb : Nat.beq k i = false := by cases hb : Nat.beq k i with | false => rfl | true => exact absurd (Nat.eq_of_beq_eq_true hb) e
                rw [hb, Bool.or_false]
            · by_cases e : k = i
              · subst e
                refine ⟨him, fun d hd => ?_⟩
                have h4 := fit_dep hf h1 hd
                rw [getD_set_ne true (by omega), gd d (by omega) (c := false)]
                exact h3 d hd
              · rw [getD_set_ne true (Ne.symm e)] at hkl
                obtain ⟨a1, a3⟩ := hl k hk hkl
                refine ⟨a1, fun d hd => ?_⟩
                by_cases e2 : d = i
                · subst e2; simp [hs, h1]
                · rw [getD_set_ne true (Ne.symm e2)]; exact a3 d hd
          · have h4 := fit_dep hf h1 hd
            omega
  refine main ops.size _ a _ (by simp) (by have := List.countP_le_length (p := fun k => !(Array.replicate ops.size false).getD k true) (l := List.range ops.size); simpa using this) (hext _ _ _ _ (fun k _ => by simp [Array.getElem?_replicate]; split <;> rfl) h0) fun k hk hkl => ?_
  simp [hk] at hkl
end

/-- what an operation does that may come in any order: it leaves memory as it is, or makes a variable, or turns one chunk -/
inductive Sp where
  | q (c : V)
  | al (ty : TypeId) (z : List Value)
  | ap (c0 : Ch) (c1 : Value → Ch)
def Sp.val (b : Nat × Value) : Sp → V
  | .q c => c
  | .al _ _ => .ptr b.1 0
  | .ap _ _ => .v b.2
def Sp.ch0 : Sp → List Ch
  | .ap c0 _ => [c0]
  | _ => []
def Sp.ch (b : Nat × Value) : Sp → List Ch
  | .q _ => []
  | .al ty z => [.box b.1 ty (zV z)]
  | .ap _ c1 => [c1 b.2]
/-- an operation that leaves memory as it is, and what it yields -/
def AQ (P : Program) (n : Nat) (all : Array Oper) (o : Oper) (sl : Sl) (L : List Ch) (c : V) : Prop :=
  (o.guard = none ∧ AOp P n o sl L fun sl' L' => sl' = put sl o.dst c ∧ L' = L) ∨
  (∃ (j : Nat) (want g : Bool) (d : Nat), o.guard = some (j, want) ∧ gslot all j = some d ∧ look sl d = .b g ∧ ((g = want ∧ AOp P n o sl L fun sl' L' => sl' = put sl o.dst c ∧ L' = L) ∨ (g ≠ want ∧ dstOk n o.dst = true ∧ c = .v undef))) ∨
  (∃ (j : Nat) (want : Bool) (d : Nat), o.guard = some (j, want) ∧ gslot all j = some d ∧ look sl d = .v undef ∧ dstOk n o.dst = true ∧ c = .v undef)
theorem aq_plain {all : Array Oper} {o : Oper} {sl : Sl} {L : List Ch} {c : V} (hg : o.guard = none) (h : AOp P n o sl L fun sl' L' => sl' = put sl o.dst c ∧ L' = L) : AQ P n all o sl L c := .inl ⟨hg, h⟩
theorem aq_yes {all : Array Oper} {o : Oper} {sl : Sl} {L : List Ch} {c : V} {j d : Nat} {g : Bool} (hg : o.guard = some (j, g)) (hj : gslot all j = some d) (hd : look sl d = .b g) (h : AOp P n o sl L fun sl' L' => sl' = put sl o.dst c ∧ L' = L) : AQ P n all o sl L c := .inr (.inl ⟨j, g, g, d, hg, hj, hd, .inl ⟨rfl, h⟩⟩)
theorem aq_no {all : Array Oper} {o : Oper} {sl : Sl} {L : List Ch} {j d : Nat} {want g : Bool} (hg : o.guard = some (j, want)) (hj : gslot all j = some d) (hd : look sl d = .b g) (hc : g = !want) (hdst : dstOk n o.dst = true) : AQ P n all o sl L (.v undef) :=
  .inr (.inl ⟨j, want, g, d, hg, hj, hd, .inr ⟨by rw [hc]; cases want <;> simp, hdst, rfl⟩⟩)
theorem aq_un {all : Array Oper} {o : Oper} {sl : Sl} {L : List Ch} {j d : Nat} {want : Bool} (hg : o.guard = some (j, want)) (hj : gslot all j = some d) (hd : look sl d = .v undef) (hdst : dstOk n o.dst = true) : AQ P n all o sl L (.v undef) := .inr (.inr ⟨j, want, d, hg, hj, hd, hdst, rfl⟩)
/-- the slots that an operation may look at -/
def depSl (ops : List Oper) (m : Nat) (sp : List Sp) (i : Nat) : Sl :=
  ((depsOf ops.toArray i).filterMap fun d => match sp[d]?, dstOf ops.toArray d with | some (Sp.q c), some t => some (t, c) | _, _ => none) ++ (List.range m).filterMap fun d => (dstOf ops.toArray d).map fun t => (t, V.j)
def fullSl (ops : List Oper) (β : Nat → Nat × Value) : List Sp → Nat → Sl
  | [], _ => []
  | s :: r, i => (match dstOf ops.toArray i with | some t => [(t, s.val (β i))] | none => []) ++ fullSl ops β r (i + 1)
def chD (D : Nat → Bool) (β : Nat → Nat × Value) : List Sp → Nat → List Ch
  | [], _ => []
  | s :: r, i => (bif D i then s.ch (β i) else s.ch0) ++ chD D β r (i + 1)
def all0 (l : List Sp) : List Ch := l.flatMap Sp.ch0
def allF (β : Nat → Nat × Value) : List Sp → Nat → List Ch
  | [], _ => []
  | s :: r, i => s.ch (β i) ++ allF β r (i + 1)
/-- each of the operations ahead -/
def StepsQ (P : Program) (n : Nat) (all : List Oper) (sl : Sl) (L : List Ch) (m : Nat) (sp : List Sp) : List Oper → List Sp → Nat → Prop
  | o :: r, s :: q, i => (match s with
      | .q c => AQ P n all.toArray o (depSl all m (sp.take i) i ++ sl) L c
      | .al ty z => o.op = .alloc ty ∧ TyZ P ty z ∧ o.guard = none ∧ dstOk n o.dst = true
      | .ap c0 c1 => o.guard = none ∧ dstOk n o.dst = true ∧ AOp P n o (depSl all m (sp.take i) i ++ sl) (c0 :: L) fun sl' L' => ∃ v, sl' = put (depSl all m (sp.take i) i ++ sl) o.dst (.v v) ∧ L' = c1 v :: L) ∧ StepsQ P n all sl L m sp r q (i + 1)
  | _, _, _ => True
theorem stepsQ_at {all : List Oper} {sl : Sl} {L : List Ch} {m : Nat} {sp : List Sp} : ∀ {r : List Oper} {q : List Sp} {i : Nat}, StepsQ P n all sl L m sp r q i → ∀ (k : Nat) (o : Oper) (s : Sp), r[k]? = some o → q[k]? = some s →
    match s with | .q c => AQ P n all.toArray o (depSl all m (sp.take (i + k)) (i + k) ++ sl) L c | .al ty z => o.op = .alloc ty ∧ TyZ P ty z ∧ o.guard = none ∧ dstOk n o.dst = true | .ap c0 c1 => o.guard = none ∧ dstOk n o.dst = true ∧ AOp P n o (depSl all m (sp.take (i + k)) (i + k) ++ sl) (c0 :: L) fun sl' L' => ∃ v, sl' = put (depSl all m (sp.take (i + k)) (i + k) ++ sl) o.dst (.v v) ∧ L' = c1 v :: L
  | [], _, _, _, k, o, s, h1, _ => by simp at h1
  | _ :: _, [], _, _, k, o, s, _, h2 => by simp at h2
  | x :: r, y :: q, i, h, k, o, s, h1, h2 => by
    cases k with
    | zero => simp at h1 h2; subst h1 h2; exact h.1
    | succ k => have := stepsQ_at h.2 k o s (by simpa using h1) (by simpa using h2); rwa [show i + 1 + k = i + (k + 1) by omega] at this

theorem look_append_in {a b : Sl} {t : Nat} : (∃ c, (t, c) ∈ a) → look (a ++ b) t = look a t := by
  induction a with
  | nil => rintro ⟨c, h⟩; cases h
  | cons p r ih =>
    obtain ⟨d, c⟩ := p
    rintro ⟨c', h⟩
    show (bif Nat.beq d t then c else look (r ++ b) t) = (bif Nat.beq d t then c else look r t)
    cases hb : Nat.beq d t with
    | true => rfl
    | false =>
      rcases List.mem_cons.1 h with h1 | h1
      · cases h1; simp at hb
      · exact ih ⟨c', h1⟩
theorem look_append_out {a b : Sl} {t : Nat} : (¬ ∃ c, (t, c) ∈ a) → look (a ++ b) t = look b t := by
  induction a with
  | nil => intro _; rfl
  | cons p r ih =>
    obtain ⟨d, c⟩ := p
    intro h
    show (bif Nat.beq d t then c else look (r ++ b) t) = look b t
    cases hb : Nat.beq d t with
    | true => have := Nat.eq_of_beq_eq_true hb; subst this; exact absurd ⟨c, by simp⟩ h
    | false => exact ih fun ⟨c', h1⟩ => h ⟨c', by simp [h1]⟩
theorem look_mem : ∀ (a : Sl) (t : Nat), (∃ c, (t, c) ∈ a) → (t, look a t) ∈ a
  | [], _, ⟨_, h⟩ => by cases h
  | (d, c) :: r, t, h => by
    show (t, bif Nat.beq d t then c else look r t) ∈ _
    cases hb : Nat.beq d t with
    | true => have := Nat.eq_of_beq_eq_true hb; subst this; simp
    | false =>
      obtain ⟨c', hc⟩ := h
      rcases List.mem_cons.1 hc with h1 | h1
      · cases h1; simp at hb
      · exact List.mem_cons_of_mem _ (look_mem r t ⟨c', h1⟩)

theorem chD_full (β : Nat → Nat × Value) : ∀ (sp : List Sp) (i : Nat), chD (fun _ => true) β sp i = allF β sp i
  | [], _ => rfl
  | s :: r, i => by simp [chD, allF, chD_full β r]
theorem chD_ext {D D' : Nat → Bool} (β : Nat → Nat × Value) : ∀ (sp : List Sp) (i : Nat), (∀ k, k < i + sp.length → D k = D' k) → chD D β sp i = chD D' β sp i
  | [], _, _ => rfl
  | s :: r, i, h => by simp only [chD]; rw [h i (by simp), chD_ext β r (i + 1) (fun k hk => h k (by simp; omega))]
theorem chD_none (β : Nat → Nat × Value) : ∀ (sp : List Sp) (i : Nat), chD (fun _ => false) β sp i = all0 sp
  | [], _ => rfl
  | s :: r, i => by rw [chD, chD_none β r]; simp [all0]
theorem chD_out {D : Nat → Bool} {β : Nat → Nat × Value} {i : Nat} (b : Nat × Value) : ∀ (sp : List Sp) (j : Nat), i < j → chD (fun k => D k || Nat.beq k i) (fun k => if k = i then b else β k) sp j = chD D β sp j
  | [], _, _ => rfl
  | x :: r, j, h => by
    have hb : Nat.beq j i = false := by cases hb : Nat.beq j i with | false => rfl | true => have := Nat.eq_of_beq_eq_true hb; omega
    simp only [chD]
    rw [hb, Bool.or_false, if_neg (by omega), chD_out b r (j + 1) (by omega)]
theorem chD_split {D : Nat → Bool} {β : Nat → Nat × Value} {i : Nat} {s : Sp} (hD : D i = false) : ∀ (sp : List Sp) (j : Nat), j ≤ i → sp[i - j]? = some s →
    ∃ R0 : List Ch, (chD D β sp j).Perm (s.ch0 ++ R0) ∧ ∀ b, (chD (fun k => D k || Nat.beq k i) (fun k => if k = i then b else β k) sp j).Perm (s.ch b ++ R0)
  | [], j, _, h => by simp at h
  | x :: r, j, hj, h => by
    by_cases e : j = i
    · subst e
      simp at h
      subst h
      refine ⟨chD D β r (j + 1), by simp [chD, hD], fun b => ?_⟩
      simp only [chD, hD, Nat.beq_refl, Bool.false_or, cond_true, if_true]
      rw [chD_out b r (j + 1) (by omega)]
    · have hb : Nat.beq j i = false := by cases hb : Nat.beq j i with | false => rfl | true => exact absurd (Nat.eq_of_beq_eq_true hb) e
      obtain ⟨R0, h1, h2⟩ := chD_split (D := D) (β := β) (i := i) (s := s) hD r (j + 1) (by omega) (by rw [show i - j = (i - (j + 1)) + 1 by omega] at h; simpa using h)
      have sw : ∀ (A B C : List Ch), (A ++ (B ++ C)).Perm (B ++ (A ++ C)) := fun A B C => by
        rw [← List.append_assoc, ← List.append_assoc]; exact List.Perm.append_right _ List.perm_append_comm
      refine ⟨(bif D j then x.ch (β j) else x.ch0) ++ R0, ?_, fun b => ?_⟩
      · rw [chD]; exact (List.Perm.append_left _ h1).trans (sw _ _ _)
      · rw [chD, hb, Bool.or_false, if_neg e]
        exact (List.Perm.append_left _ (h2 b)).trans (sw _ _ _)

theorem fullSl_mem {ops : List Oper} {β : Nat → Nat × Value} : ∀ (sp : List Sp) (j : Nat) (t : Nat) (c : V), (t, c) ∈ fullSl ops β sp j ↔ ∃ i s, sp[i]? = some s ∧ dstOf ops.toArray (j + i) = some t ∧ c = s.val (β (j + i))
  | [], j, t, c => by simp [fullSl]
  | s :: r, j, t, c => by
    simp only [fullSl, List.mem_append]
    rw [fullSl_mem r (j + 1) t c]
    constructor
    · rintro (h | ⟨i, s', h1, h2, h3⟩)
      · cases hd : dstOf ops.toArray j with
        | none => rw [hd] at h; cases h
        | some t' => rw [hd] at h; simp at h; obtain ⟨rfl, rfl⟩ := h; exact ⟨0, s, rfl, hd, rfl⟩
      · exact ⟨i + 1, s', by simpa using h1, by rwa [show j + (i + 1) = j + 1 + i by omega], by rwa [show j + (i + 1) = j + 1 + i by omega]⟩
    · rintro ⟨i, s', h1, h2, h3⟩
      cases i with
      | zero => simp at h1; subst h1; refine .inl ?_; rw [Nat.add_zero] at h2 h3; rw [h2]; simp [h3]
      | succ i => exact .inr ⟨i, s', by simpa using h1, by rwa [show j + 1 + i = j + (i + 1) by omega], by rwa [show j + 1 + i = j + (i + 1) by omega]⟩

/-- a region that draws its order -/
theorem aw_draw {ro : Option Nat} {id : Nat} {ops : List Oper} {sl : Sl} {L : List Ch} {Q : Exit → Sl → List Ch → Prop} (m : Nat) (sp : List Sp) (hl : sp.length = m) (hm : P.follows .mixedOrders = true) (hf : fit ops.toArray m = true) (hmn : Nat.ble m ops.length = true)
    (hq : StepsQ P n ops sl L m sp ops sp 0) (ht : ∀ β : Nat → Nat × Value, ∃ sl' L', Le n (fullSl ops β sp 0 ++ sl) (allF β sp 0 ++ L) sl' L' ∧ AOs P n ops.toArray (ops.drop m) sl' L' (Q .normal)) : AW P n ro (.region id ops.toArray true) sl (all0 sp ++ L) Q := fun w S a B hs hb Qr hQr => by
  subst hl
  have hmn := Nat.le_of_ble_eq_true hmn
  have dlt : ∀ {i t : Nat}, dstOf ops.toArray i = some t → i < ops.length := fun {i t} h => by
    unfold dstOf at h
    cases ho : ops.toArray[i]? with
    | none => rw [ho] at h; cases h
    | some o => have := (Array.getElem?_eq_some_iff.1 ho).1; simpa using this
  let Inv : (Nat → Bool) → Act → World → Prop := fun D a' w' => ∃ (β : Nat → Nat × Value) (S' : Nat → Prop), Hp w' S' (chD D β sp 0 ++ L) ∧ a'.tmps.size = n ∧ a'.defers = a.defers ∧ Fr w S (all0 sp ++ L) w' S' (chD D β sp 0 ++ L) ∧
    (∀ i s t, sp[i]? = some s → dstOf ops.toArray i = some t → D i = true → R w' S' (s.val (β i)) (a'.tmps.getD t undef)) ∧ (∀ t, (∀ i, i < sp.length → dstOf ops.toArray i ≠ some t) → R w' S' (look sl t) (a'.tmps.getD t undef))
  have hdrew : Hp { w with drawn := w.drawn + 1 } S (all0 sp ++ L) ∧ Fr w S (all0 sp ++ L) { w with drawn := w.drawn + 1 } S (all0 sp ++ L) ∧ Kept w S { w with drawn := w.drawn + 1 } S := by
    have hk : Kept w S { w with drawn := w.drawn + 1 } S := fun b hb _ => ⟨rfl, hb⟩
    exact ⟨⟨fun c hc => (hs.hp.ok c hc).move (fun _ _ => rfl) hk, hs.hp.ap, hs.hp.out, hs.hp.lt⟩, ⟨rfl, rfl, rfl, Nat.le_refl _, fun _ _ _ => rfl, fun _ h => h, fun _ h _ => .inl h, fun _ h _ => h⟩, hk⟩
  refine wp_region_inv hm sp.length hf (by simpa using hmn) Inv ?_ ?_ ?_ ?_
  · refine ⟨fun _ => (0, undef), S, by rw [chD_none]; exact hdrew.1, hs.size, rfl, by rw [chD_none]; exact hdrew.2.1, fun i s t _ _ h => (by cases h), fun t _ => (hs.sl t).move hdrew.2.2⟩
  · rintro D D' a' w' hDD ⟨β, S', h1, h2, h3, h4, h5, h6⟩
    have e := chD_ext (D := D) (D' := D') β sp 0 (fun k hk => hDD k (by omega))
    exact ⟨β, S', by rw [← e]; exact h1, h2, h3, by rw [← e]; exact h4, fun i s t q1 q2 q3 => h5 i s t q1 q2 (by rw [hDD i (List.getElem?_eq_some_iff.1 q1).1]; exact q3), h6⟩
  · rintro i D a' w' hi ⟨β, S', h1, h2, h3, h4, h5, h6⟩ hdeps hDi
    obtain ⟨o, ho⟩ : ∃ o, ops[i]? = some o := ⟨ops[i]'(by omega), by simp⟩
    obtain ⟨s, hsp⟩ : ∃ s, sp[i]? = some s := ⟨sp[i]'hi, by simp⟩
    have ho2 : ops.toArray[i]? = some o := by simpa using ho
    have hdst : dstOf ops.toArray i = o.dst := by simp [dstOf, ho]
    have hstep := stepsQ_at hq i o s ho hsp
    rw [Nat.zero_add] at hstep
    unfold wpOpIn
    simp only [ho2]
    -- the weaker state
    obtain ⟨R0, hR1, hR2⟩ := chD_split (D := D) (β := β) (i := i) (s := s) hDi sp 0 (Nat.zero_le _) (by simpa using hsp)
    have hfr0 : Hp w' S' ((s.ch0 ++ L) ++ R0) := h1.perm ((List.Perm.append_right L hR1).trans (by rw [List.append_assoc, List.append_assoc]; exact List.Perm.append_left _ List.perm_append_comm))
    have hinL : ∀ b, inL (s.ch0 ++ L) b → inL (chD D β sp 0 ++ L) b := fun b ⟨c, hc, hb⟩ => by
      rcases List.mem_append.1 hc with hc | hc
      · exact inL_append.2 (.inl ⟨c, hR1.mem_iff.2 (List.mem_append.2 (.inl hc)), hb⟩)
      · exact inL_append.2 (.inr ⟨c, hc, hb⟩)
    have hst : St n w' S' (depSl ops sp.length (sp.take i) i ++ sl) (s.ch0 ++ L) a' := by
      refine ⟨hfr0.left, h2, fun t => ?_, by rw [h3]; exact (hs.df.move h4).sub hinL⟩
      by_cases hex : ∃ c, (t, c) ∈ depSl ops sp.length (sp.take i) i
      · rw [look_append_in hex]
        have hmem := look_mem _ t hex
        generalize look (depSl ops sp.length (sp.take i) i) t = c at hmem
        rcases List.mem_append.1 hmem with hm1 | hm1
        · obtain ⟨d, hd1, hd2⟩ := List.mem_filterMap.1 hm1
          cases hsd : (sp.take i)[d]? with
          | none => rw [hsd] at hd2; cases hd2
          | some s' =>
            cases hdd : dstOf ops.toArray d with
            | none => rw [hsd, hdd] at hd2; cases s' <;> cases hd2
            | some t' =>
              rw [hsd, hdd] at hd2
              cases s' with
              | q c2 => simp at hd2; obtain ⟨rfl, rfl⟩ := hd2; exact h5 d (.q c2) _ (by rw [List.getElem?_take] at hsd; split at hsd; exact hsd; cases hsd) hdd (hdeps d hd1).2
              | al _ _ => cases hd2
              | ap _ _ => cases hd2
        · obtain ⟨d, _, hd2⟩ := List.mem_filterMap.1 hm1
          cases hdd : dstOf ops.toArray d with
          | none => rw [hdd] at hd2; cases hd2
          | some t' => rw [hdd] at hd2; cases hd2; exact .j _
      · rw [look_append_out hex]
        refine h6 t fun k hk hkt => hex ⟨.j, List.mem_append.2 (.inr (List.mem_filterMap.2 ⟨k, List.mem_range.2 hk, by rw [hkt]; rfl⟩))⟩
    have hne : ∀ {k t : Nat}, dstOf ops.toArray k = some t → k ≠ i → o.dst ≠ some t := fun {k t} hk hki e => hki (fit_dst hf hk (by rw [hdst]; exact e))
    have hput : ∀ {t : Nat} (v : Value), o.dst ≠ some t → (a'.put o.dst v).tmps.getD t undef = a'.tmps.getD t undef := fun {t} v ht => by
      cases hd : o.dst with
      | none => rfl
      | some d => simp [Act.put, Array.getElem?_setIfInBounds_ne (show d ≠ t by rintro rfl; exact ht hd)]
    -- what is done with the result
    have fin : ∀ (b : Nat × Value) (v : Value) (w2 : World) (S2 : Nat → Prop) (X : List Ch), (X.Perm (s.ch b ++ L)) → Hp w2 S2 X → Fr w' S' (s.ch0 ++ L) w2 S2 X → R w2 S2 (s.val b) ((a'.put o.dst v).tmps.getD (o.dst.getD 0) undef) ∨ o.dst = none → Inv (fun k => D k || Nat.beq k i) (a'.put o.dst v) w2 := by
      intro b v w2 S2 X hX hp2 hf2 hr
      obtain ⟨q1, q2⟩ := hfr0.frame (hp2.perm hX) (hf2.perm (.refl _) hX)
      have hk := q2.kept hfr0
      have hperm : ((s.ch b ++ L) ++ R0).Perm (chD (fun k => D k || Nat.beq k i) (fun k => if k = i then b else β k) sp 0 ++ L) := by
        refine List.Perm.trans ?_ (List.Perm.append_right L (hR2 b).symm)
        rw [List.append_assoc, List.append_assoc]
        exact List.Perm.append_left _ List.perm_append_comm
      have hperm0 : ((s.ch0 ++ L) ++ R0).Perm (chD D β sp 0 ++ L) := by
        refine List.Perm.trans ?_ (List.Perm.append_right L hR1.symm)
        rw [List.append_assoc, List.append_assoc]
        exact List.Perm.append_left _ List.perm_append_comm
      refine ⟨fun k => if k = i then b else β k, S2, q1.perm hperm, ?_, ?_, h4.trans (q2.perm hperm0 hperm), fun k s' t e1 e2 e3 => ?_, fun t ht => ?_⟩
      · cases o.dst <;> simp [Act.put, h2]
      · rw [put_defers, h3]
      · by_cases hki : k = i
        · subst hki
          rw [hsp] at e1; cases e1
          show R w2 S2 (s.val (if k = k then b else β k)) _
          rw [if_pos rfl]
          rw [hdst] at e2
          rcases hr with hr | hr
          · rw [e2] at hr; simp only [Option.getD_some] at hr; rw [e2]; exact hr
          · rw [e2] at hr; cases hr
        · have hb : Nat.beq k i = false := by cases hb : Nat.beq k i with | false => rfl | true => exact absurd (Nat.eq_of_beq_eq_true hb) hki
          simp only [hb, Bool.or_false] at e3
          show R w2 S2 (s'.val (if k = i then b else β k)) _
          rw [if_neg hki, hput v (hne e2 hki)]
          exact (h5 k s' t e1 e2 e3).move hk
      · rw [hput v (by rw [← hdst]; exact ht i hi)]
        exact (h6 t ht).move hk
    cases s with
    | al ty z =>
      obtain ⟨ha, hz, hg, hdk⟩ := hstep
      rw [if_pos (by simp [Region.wanted, hg])]
      refine AOp.wpIn (aop_alloc (hz := hz) (K := fun sl' L' => ∃ b, sl' = put (depSl ops sp.length (sp.take i) i ++ sl) o.dst (.ptr b 0) ∧ L' = .box b ty (zV z) :: L) ha hdk (fun b => ⟨b, rfl, rfl⟩)) ro hst _ Qr ?_
      rintro sl' L' S2 a2 w2 ⟨b, rfl, rfl⟩ hs2 hf2 ⟨v, rfl⟩
      refine fin (b, undef) v w2 S2 _ (.refl _) hs2.hp hf2 ?_
      cases hd : o.dst with
      | none => exact .inr rfl
      | some d =>
        refine .inl ?_
        have := hs2.sl d
        rw [hd] at this
        simpa [put, look, Sp.val] using this
    | ap c0 c1 =>
      obtain ⟨hg, hdk, hop⟩ := hstep
      rw [if_pos (by simp [Region.wanted, hg])]
      refine AOp.wpIn hop ro hst _ Qr ?_
      rintro sl' L' S2 a2 w2 ⟨u, rfl, rfl⟩ hs2 hf2 ⟨v, rfl⟩
      refine fin (0, u) v w2 S2 _ (.refl _) hs2.hp hf2 ?_
      cases hd : o.dst with
      | none => exact .inr rfl
      | some d =>
        refine .inl ?_
        have := hs2.sl d
        rw [hd] at this
        simpa [put, look, Sp.val] using this
    | q c =>
      have go : AOp P n o (depSl ops sp.length (sp.take i) i ++ sl) L (fun sl' L' => sl' = put (depSl ops sp.length (sp.take i) i ++ sl) o.dst c ∧ L' = L) → o.wpIn (fen ro) 0 P a' w' (Inv fun k => D k || Nat.beq k i) Qr := fun hop => by
        refine hop.wpIn ro hst _ Qr ?_
        rintro sl' L' S2 a2 w2 ⟨rfl, rfl⟩ hs2 hf2 ⟨v, rfl⟩
        refine fin (0, undef) v w2 S2 _ (.refl _) hs2.hp hf2 ?_
        cases hd : o.dst with
        | none => exact .inr rfl
        | some d =>
          refine .inl ?_
          have := hs2.sl d
          rw [hd] at this
          simpa [put, look, Sp.val] using this
      have skip : o.guard ≠ none → Region.wanted o (yielded ops.toArray a'.tmps) = false → dstOk n o.dst = true → c = .v undef → Inv (fun k => D k || Nat.beq k i) (a'.put o.dst undef) w' := fun _ _ hdk hc => by
        subst hc
        refine fin (0, undef) undef w' S' L (.refl _) hst.hp (.refl _ _ _) ?_
        cases hdd : o.dst with
        | none => exact .inr rfl
        | some d =>
          refine .inl ?_
          have := (hst.put hdk (c := .v undef) (v := undef) (.refl _ _ _) hst.hp (.v _)).sl d
          rw [hdd] at this
          simpa [put, look, Sp.val] using this
      rcases hstep with ⟨hg, hop⟩ | ⟨j, want, g, d, hg, hj, hd, h7⟩ | ⟨j, want, d, hg, hj, hd, hdk, hc⟩
      · rw [if_pos (by simp [Region.wanted, hg])]
        exact go hop
      · have hy := yielded_of hst hj hd
        rcases h7 with ⟨hgw, hop⟩ | ⟨hgw, hdk, rfl⟩
        · rw [if_pos (by simp [Region.wanted, hg, hy, hgw])]
          exact go hop
        · have hwn : Region.wanted o (yielded ops.toArray a'.tmps) = false := by simp [Region.wanted, hg, hy, hgw]
          rw [if_neg (by rw [hwn]; simp)]
          exact ⟨fun _ _ => trivial, skip (by rw [hg]; simp) hwn hdk rfl⟩
      · have hwn : Region.wanted o (yielded ops.toArray a'.tmps) = false := by simp [Region.wanted, hg, yielded_undef hst hj hd]
        rw [if_neg (by rw [hwn]; simp)]
        exact ⟨fun _ _ => trivial, skip (by rw [hg]; simp) hwn hdk hc⟩
  · rintro a' w' ⟨β, S', h1, h2, h3, h4, h5, h6⟩
    rw [chD_full] at h1 h4
    have hst : St n w' S' (fullSl ops β sp 0 ++ sl) (allF β sp 0 ++ L) a' := by
      refine ⟨h1, h2, fun t => ?_, by rw [h3]; exact hs.df.move h4⟩
      by_cases hex : ∃ c, (t, c) ∈ fullSl ops β sp 0
      · rw [look_append_in hex]
        have hmem := look_mem _ t hex
        obtain ⟨i, s, e1, e2, e3⟩ := (fullSl_mem sp 0 t _).1 hmem
        rw [Nat.zero_add] at e2 e3
        rw [e3]
        exact h5 i s t e1 e2 rfl
      · rw [look_append_out hex]
        refine h6 t fun k hk hkt => ?_
        obtain ⟨s, hsk⟩ : ∃ s, sp[k]? = some s := ⟨sp[k]'hk, by simp⟩
        exact hex ⟨_, (fullSl_mem sp 0 t _).2 ⟨k, s, hsk, by rw [Nat.zero_add]; exact hkt, rfl⟩⟩
    obtain ⟨sl3, L3, hle, hao⟩ := ht β
    obtain ⟨S3, hst3, hf3⟩ := hle w' S' a' hst
    have := AOs.sound ro (ops.drop sp.length) sp.length _ _ (by simp) hao w' S3 a' hst3 Qr fun sl2 L2 S2 a2 w2 k1 k2 k3 k4 => hQr _ _ _ _ _ _ k1 k2 ((h4.trans hf3).trans k3) (hb.same ((h4.trans hf3).trans k3) (k4.trans h3))
    rw [List.size_toArray]
    rwa [List.length_drop] at this

theorem AQ.weaken {all : Array Oper} {o : Oper} {slw sls : Sl} {L : List Ch} {c : V} (hle : ∀ t, look slw t = look sls t ∨ look slw t = .j) (h : AQ P n all o slw L c) (hd : dstOk n o.dst = true) : AQ P n all o sls L c := by
  have hst : ∀ {w : World} {S : Nat → Prop} {a : Act}, St n w S sls L a → St n w S slw L a := fun hs => ⟨hs.hp, hs.size, fun t => by
    rcases hle t with e | e
    · rw [e]; exact hs.sl t
    · rw [e]; exact .j _, hs.df⟩
  have go : (AOp P n o slw L fun sl' L' => sl' = put slw o.dst c ∧ L' = L) → AOp P n o sls L fun sl' L' => sl' = put sls o.dst c ∧ L' = L := fun hop w S a hs nx Qr hnx => by
    refine hop w S a (hst hs) nx Qr ?_
    rintro sl' L' S2 a2 w2 ⟨rfl, rfl⟩ hs2 hf2 ⟨v, rfl⟩
    refine hnx _ _ S2 _ w2 ⟨rfl, rfl⟩ ?_ hf2 ⟨v, rfl⟩
    cases hdd : o.dst with
    | none =>
      rw [hdd] at hs2
      exact ⟨hs2.hp, hs2.size, fun t => (hs.sl t).move (hf2.kept hs.hp), hs2.df⟩
    | some d =>
      have hr := hs2.sl d
      rw [hdd] at hr hd
      have hdn : d < n := by simpa [dstOk] using hd
      have hv : (a.put (some d) v).tmps.getD d undef = v := by simp [Act.put, hs.size, hdn]
      rw [hv] at hr
      have hr2 : R w2 S2 c v := by simpa [put, look] using hr
      exact hs.put hd hf2 hs2.hp hr2
  rcases h with ⟨hg, h⟩ | ⟨j, want, g, d, hg, hj, hl, h⟩ | ⟨j, want, d, hg, hj, hl, h⟩
  · exact .inl ⟨hg, go h⟩
  rotate_left
  · have hl2 : look sls d = .v undef := by
      rcases hle d with e | e
      · rw [← e]; exact hl
      · rw [e] at hl; cases hl
    exact .inr (.inr ⟨j, want, d, hg, hj, hl2, h⟩)
  · have hl2 : look sls d = .b g := by
      rcases hle d with e | e
      · rw [← e]; exact hl
      · rw [e] at hl; cases hl
    exact .inr (.inl ⟨j, want, g, d, hg, hj, hl2, h.imp (fun ⟨a, b⟩ => ⟨a, go b⟩) id⟩)

theorem AOp.weakenS {o : Oper} {slw sls : Sl} {L0 : List Ch} {W : V → List Ch → Prop} (hle : ∀ t, look slw t = look sls t ∨ look slw t = .j) (hop : AOp P n o slw L0 fun sl' L' => ∃ c, sl' = put slw o.dst c ∧ W c L') (hd : dstOk n o.dst = true) : AOp P n o sls L0 fun sl' L' => ∃ c, sl' = put sls o.dst c ∧ W c L' := fun w S a hs nx Qr hnx => by
  have hst : St n w S slw L0 a := ⟨hs.hp, hs.size, fun t => by
    rcases hle t with e | e
    · rw [e]; exact hs.sl t
    · rw [e]; exact .j _, hs.df⟩
  refine hop w S a hst nx Qr ?_
  rintro sl' L' S2 a2 w2 ⟨c, rfl, hW⟩ hs2 hf2 ⟨v, rfl⟩
  refine hnx _ _ S2 _ w2 ⟨c, rfl, hW⟩ ?_ hf2 ⟨v, rfl⟩
  cases hdd : o.dst with
  | none =>
    rw [hdd] at hs2
    exact ⟨hs2.hp, hs2.size, fun t => (hs.sl t).move (hf2.kept hs.hp), hs2.df⟩
  | some d =>
    have hr := hs2.sl d
    rw [hdd] at hr hd
    have hdn : d < n := by simpa [dstOk] using hd
    have hv : (a.put (some d) v).tmps.getD d undef = v := by simp [Act.put, hs.size, hdn]
    rw [hv] at hr
    have hr2 : R w2 S2 c v := by simpa [put, look] using hr
    exact hs.put hd hf2 hs2.hp hr2
/-- what is known of the operations so far: slot, number, what it does -/
abbrev Pre := List (Nat × Nat × Sp)
def gsl (β : Nat → Nat × Value) : Pre → Sl
  | [] => []
  | (t, i, s) :: r => (t, s.val (β i)) :: gsl β r
def gch (β : Nat → Nat × Value) : Pre → List Ch
  | [] => []
  | (_, i, s) :: r => s.ch (β i) ++ gch β r
def gch0 : Pre → List Ch
  | [] => []
  | (_, _, s) :: r => s.ch0 ++ gch0 r
def selS (pre : Pre) : List Nat → Sl
  | [] => []
  | t :: r => (t, look (gsl (fun _ => (0, undef)) pre) t) :: selS pre r
def junk : List Nat → Sl
  | [] => []
  | t :: r => (t, .j) :: junk r
def isAl : Op → Bool
  | .alloc _ => true
  | .call { callee := .builtin .append, args := _, argTypes := _ } => true
  | _ => false
/-- the slots are those of operations that this one leans on -/
def tsOk (ops : List Oper) (i : Nat) (ts : List Nat) : Bool := ts.all fun t => (depsOf ops.toArray i).any fun d => (dstOf ops.toArray d == some t) && !((ops[d]?).map (fun o => isAl o.op)).getD true
def junkOk (ops : List Oper) (m : Nat) (ts : List Nat) : Bool := (List.range m).all fun i => match dstOf ops.toArray i with | some t => ts.contains t | none => true
def DrawH (P : Program) (n : Nat) (all : List Oper) (sl : Sl) (As L : List Ch) (K : Sl → List Ch → Prop) (m : Nat) (js : List Nat) : Nat → List Oper → Pre → Prop
  | _, [], pre => As.Perm (gch0 pre) ∧ ∀ β : Nat → Nat × Value, AOs P n all.toArray (all.drop m) (gsl β pre ++ sl) (gch β pre ++ L) K
  | i, o :: r, pre => (∃ c ts t, o.dst = some t ∧ isAl o.op = false ∧ dstOk n o.dst = true ∧ tsOk all i ts = true ∧ AQ P n all.toArray o (selS pre ts ++ (junk js ++ sl)) L c ∧ DrawH P n all sl As L K m js (i + 1) r ((t, i, .q c) :: pre)) ∨
      (∃ ty z t, o.dst = some t ∧ (o.op = .alloc ty ∧ TyZ P ty z ∧ o.guard = none ∧ dstOk n o.dst = true) ∧ DrawH P n all sl As L K m js (i + 1) r ((t, i, .al ty z) :: pre)) ∨
      (∃ c0 c1 ts t, o.dst = some t ∧ isAl o.op = true ∧ o.guard = none ∧ dstOk n o.dst = true ∧ tsOk all i ts = true ∧ (AOp P n o (selS pre ts ++ (junk js ++ sl)) (c0 :: L) fun sl' L' => ∃ c, sl' = put (selS pre ts ++ (junk js ++ sl)) o.dst c ∧ ∃ v, c = .v v ∧ L' = c1 v :: L) ∧ DrawH P n all sl As L K m js (i + 1) r ((t, i, .ap c0 c1) :: pre))

theorem gsl_mem {β : Nat → Nat × Value} : ∀ {pre : Pre} {t : Nat} {c : V}, (t, c) ∈ gsl β pre ↔ ∃ i s, (t, i, s) ∈ pre ∧ c = s.val (β i)
  | [], t, c => by simp [gsl]
  | (t', i', s') :: r, t, c => by
    simp only [gsl, List.mem_cons, gsl_mem (pre := r)]
    constructor
    · rintro (h | ⟨i, s, h1, h2⟩)
      · cases h; exact ⟨i', s', .inl rfl, rfl⟩
      · exact ⟨i, s, .inr h1, h2⟩
    · rintro ⟨i, s, h | h, h2⟩
      · cases h; exact .inl (by rw [h2])
      · exact .inr ⟨i, s, h, h2⟩
theorem look_junk_in (js : List Nat) (sl : Sl) (t : Nat) (h : t ∈ js) : look (junk js ++ sl) t = .j := by
  induction js with
  | nil => cases h
  | cons x r ih =>
    show (bif Nat.beq x t then .j else look (junk r ++ sl) t) = .j
    cases hb : Nat.beq x t with
    | true => rfl
    | false => rcases List.mem_cons.1 h with rfl | h; · simp at hb
               exact ih h
theorem look_junk_out (js : List Nat) (sl : Sl) (t : Nat) (h : t ∉ js) : look (junk js ++ sl) t = look sl t := by
  induction js with
  | nil => rfl
  | cons x r ih =>
    show (bif Nat.beq x t then .j else look (junk r ++ sl) t) = _
    cases hb : Nat.beq x t with
    | true => have := Nat.eq_of_beq_eq_true hb; subst this; simp at h
    | false => exact ih fun hh => h (by simp [hh])
theorem look_sel (pre : Pre) (b : Sl) (t : Nat) : ∀ ts : List Nat, look (selS pre ts ++ b) t = if t ∈ ts then look (gsl (fun _ => (0, undef)) pre) t else look b t
  | [] => by simp [selS]
  | x :: r => by
    show (bif Nat.beq x t then _ else look (selS pre r ++ b) t) = _
    cases hb : Nat.beq x t with
    | true => have := Nat.eq_of_beq_eq_true hb; subst this; simp
    | false =>
      have hne : t ≠ x := by rintro rfl; simp at hb
      rw [cond_false, look_sel pre b t r]
      by_cases h : t ∈ r
      · rw [if_pos h, if_pos (by simp [h])]
      · rw [if_neg h, if_neg (by simp [h, hne])]

theorem allF_append (β : Nat → Nat × Value) : ∀ (a b : List Sp) (i : Nat), allF β (a ++ b) i = allF β a i ++ allF β b (i + a.length)
  | [], b, i => by simp [allF]
  | s :: a, b, i => by
    simp only [List.cons_append, allF, List.length_cons, List.append_assoc]
    rw [allF_append β a b (i + 1), show i + 1 + a.length = i + (a.length + 1) by omega]

theorem drawH_steps {all : List Oper} {sl : Sl} {As L : List Ch} {K : Sl → List Ch → Prop} {m : Nat} {js : List Nat} (hf : fit all.toArray m = true) (hj : junkOk all m js = true) (hmn : m ≤ all.length) : ∀ (r : List Oper) (i : Nat) (pre : Pre) (sp : List Sp), sp.length = i → i + r.length = m → (∀ k o, r[k]? = some o → all[i + k]? = some o) →
    (∀ t j s, (t, j, s) ∈ pre ↔ sp[j]? = some s ∧ dstOf all.toArray j = some t) → (∀ (j : Nat) (s : Sp), sp[j]? = some s → ∀ o : Oper, all[j]? = some o → isAl o.op = (match s with | .q _ => false | _ => true)) → (∀ β, (gch β pre).Perm (allF β sp 0)) → (gch0 pre).Perm (all0 sp) → DrawH P n all sl As L K m js i r pre →
    ∃ q : List Sp, q.length = r.length ∧ As.Perm (all0 (sp ++ q)) ∧ StepsQ P n all sl L m (sp ++ q) r q i ∧ ∀ β : Nat → Nat × Value, ∃ sl' L', Le n (fullSl all β (sp ++ q) 0 ++ sl) (allF β (sp ++ q) 0 ++ L) sl' L' ∧ AOs P n all.toArray (all.drop m) sl' L' K
  | [], i, pre, sp, hi, hm, _, hpre, _, hch, hch0, h => by
    refine ⟨[], rfl, by rw [List.append_nil]; exact h.1.trans hch0, trivial, fun β => ⟨_, _, ?_, h.2 β⟩⟩
    rw [List.append_nil]
    have e : ∀ t, look (gsl β pre ++ sl) t = look (fullSl all β sp 0 ++ sl) t := fun t => by
      have h1 : ∀ c, (t, c) ∈ gsl β pre ↔ (t, c) ∈ fullSl all β sp 0 := fun c => by
        rw [gsl_mem, fullSl_mem]
        constructor
        · rintro ⟨j, s, h1, h2⟩
          obtain ⟨h3, h4⟩ := (hpre t j s).1 h1
          exact ⟨j, s, h3, by rw [Nat.zero_add]; exact h4, by rw [Nat.zero_add]; exact h2⟩
        · rintro ⟨j, s, h1, h2, h3⟩
          rw [Nat.zero_add] at h2 h3
          exact ⟨j, s, (hpre t j s).2 ⟨h1, h2⟩, h3⟩
      by_cases hex : ∃ c, (t, c) ∈ gsl β pre
      · have hex2 : ∃ c, (t, c) ∈ fullSl all β sp 0 := by obtain ⟨c, hc⟩ := hex; exact ⟨c, (h1 c).1 hc⟩
        rw [look_append_in hex, look_append_in hex2]
        have m1 := (h1 _).1 (look_mem _ t hex)
        have m2 := look_mem _ t hex2
        obtain ⟨j1, s1, a1, a2, a3⟩ := (fullSl_mem sp 0 t _).1 m1
        obtain ⟨j2, s2, b1, b2, b3⟩ := (fullSl_mem sp 0 t _).1 m2
        rw [Nat.zero_add] at a2 a3 b2 b3
        have := fit_dst hf a2 b2
        subst this
        rw [a1] at b1; cases b1
        rw [a3, b3]
      · rw [look_append_out hex, look_append_out fun ⟨c, hc⟩ => hex ⟨c, (h1 c).2 hc⟩]
    intro w S a hs
    refine ⟨S, ⟨hs.hp.perm (List.Perm.append_right L (hch β).symm), hs.size, fun t => by rw [e]; exact hs.sl t, hs.df.move ((Fr.refl w S _).perm (.refl _) (List.Perm.append_right L (hch β).symm))⟩, (Fr.refl w S _).perm (.refl _) (List.Perm.append_right L (hch β).symm)⟩
  | o :: r, i, pre, sp, hi, hm, hall, hpre, hal, hch, hch0, h => by
    have hoi : all[i]? = some o := by simpa using hall 0 o rfl
    have hdst : dstOf all.toArray i = o.dst := by simp [dstOf, hoi]
    have next : ∀ (s : Sp) (t : Nat), o.dst = some t → isAl o.op = (match s with | .q _ => false | _ => true) → DrawH P n all sl As L K m js (i + 1) r ((t, i, s) :: pre) → (match s with
      | .q c => AQ P n all.toArray o (depSl all m sp i ++ sl) L c
      | .al ty z => o.op = .alloc ty ∧ TyZ P ty z ∧ o.guard = none ∧ dstOk n o.dst = true
      | .ap c0 c1 => o.guard = none ∧ dstOk n o.dst = true ∧ AOp P n o (depSl all m sp i ++ sl) (c0 :: L) fun sl' L' => ∃ v, sl' = put (depSl all m sp i ++ sl) o.dst (.v v) ∧ L' = c1 v :: L) →
      ∃ q : List Sp, q.length = (o :: r).length ∧ As.Perm (all0 (sp ++ q)) ∧ StepsQ P n all sl L m (sp ++ q) (o :: r) q i ∧ ∀ β : Nat → Nat × Value, ∃ sl' L', Le n (fullSl all β (sp ++ q) 0 ++ sl) (allF β (sp ++ q) 0 ++ L) sl' L' ∧ AOs P n all.toArray (all.drop m) sl' L' K := by
      intro s t ht hsa hd hs
      obtain ⟨q, a1, a0, a2, a3⟩ := drawH_steps hf hj hmn r (i + 1) ((t, i, s) :: pre) (sp ++ [s]) (by simp [hi]) (by simp at hm; omega) (fun k o' hk => by have := hall (k + 1) o' (by simpa using hk); rwa [show i + (k + 1) = i + 1 + k by omega] at this) (fun t' j s' => by
        simp only [List.mem_cons, Prod.mk.injEq, hpre]
        constructor
        · rintro (⟨rfl, rfl, rfl⟩ | ⟨h1, h2⟩)
          · exact ⟨by rw [List.getElem?_append_right (by omega)]; simp [hi], by rw [hdst]; exact ht⟩
          · exact ⟨by rw [List.getElem?_append_left (List.getElem?_eq_some_iff.1 h1).1]; exact h1, h2⟩
        · rintro ⟨h1, h2⟩
          by_cases hji : j < sp.length
          · rw [List.getElem?_append_left hji] at h1; exact .inr ⟨h1, h2⟩
          · rw [List.getElem?_append_right (by omega)] at h1
            have hj0 : j = i := by
              have := (List.getElem?_eq_some_iff.1 h1).1
              simp at this; omega
            subst hj0
            rw [hdst, ht] at h2
            simp [hi] at h1
            cases h2
            exact .inl ⟨rfl, rfl, h1.symm⟩) (fun j s' h1 o' ho' => by
        by_cases hji : j < sp.length
        · rw [List.getElem?_append_left hji] at h1; exact hal j s' h1 o' ho'
        · rw [List.getElem?_append_right (by omega)] at h1
          have hj0 : j = i := by
            have := (List.getElem?_eq_some_iff.1 h1).1
            simp at this; omega
          subst hj0
          rw [hoi] at ho'; cases ho'
          simp [hi] at h1
          subst h1
          exact hsa) (fun β => by
        rw [allF_append]
        simp only [gch, allF, List.append_nil, hi, Nat.zero_add]
        exact (List.Perm.append_left _ (hch β)).trans List.perm_append_comm) (by
        simp only [gch0, all0, List.flatMap_append, List.flatMap_cons, List.flatMap_nil, List.append_nil]
        exact (List.Perm.append_left _ hch0).trans List.perm_append_comm) hd
      rw [List.append_assoc] at a0 a2 a3
      refine ⟨s :: q, by simp [a1], a0, ⟨?_, a2⟩, a3⟩
      cases s with
      | q c =>
        show AQ P n all.toArray o (depSl all m ((sp ++ .q c :: q).take i) i ++ sl) L c
        rw [← hi, List.take_left, hi]; exact hs
      | al ty z => exact hs
      | ap c0 c1 =>
        obtain ⟨h1, h2, h3⟩ := hs
        refine ⟨h1, h2, ?_⟩
        rw [← hi, List.take_left, hi]; exact h3
    have hlook : ∀ ts : List Nat, tsOk all i ts = true → ∀ x, look (selS pre ts ++ (junk js ++ sl)) x = look (depSl all m sp i ++ sl) x ∨ look (selS pre ts ++ (junk js ++ sl)) x = .j := fun ts hts x => by
      rw [look_sel]
      by_cases hx : x ∈ ts
      · rw [if_pos hx]
        left
        have h1 := List.all_eq_true.1 hts x hx
        simp only [List.any_eq_true, Bool.and_eq_true, beq_iff_eq] at h1
        obtain ⟨d, hdi, hdd, hdal⟩ := h1
        have hdlt : d < i := fit_dep hf (by have := (List.getElem?_eq_some_iff.1 hoi).1; simpa using this) hdi
        obtain ⟨s, hs⟩ : ∃ s, sp[d]? = some s := ⟨sp[d]'(by omega), by simp⟩
        obtain ⟨od, hod⟩ : ∃ od, all[d]? = some od := ⟨all[d]'(by omega), by simp⟩
        have hsa := hal d s hs od hod
        simp only [hod, Option.map_some, Option.getD_some, Bool.not_eq_true'] at hdal
        rw [hdal] at hsa
        cases s with
        | al _ _ => cases hsa
        | ap _ _ => cases hsa
        | q cd =>
          have hmem : (x, cd) ∈ depSl all m sp i := List.mem_append.2 (.inl (List.mem_filterMap.2 ⟨d, hdi, by rw [hs, hdd]⟩))
          have hmem2 : (x, cd) ∈ gsl (fun _ => (0, undef)) pre := gsl_mem.2 ⟨d, .q cd, (hpre x d _).2 ⟨hs, hdd⟩, rfl⟩
          have l1 : look (gsl (fun _ => (0, undef)) pre) x = cd := by
            obtain ⟨j, s', h1, h2⟩ := gsl_mem.1 (look_mem _ x ⟨cd, hmem2⟩)
            obtain ⟨h3, h4⟩ := (hpre x j s').1 h1
            have := fit_dst hf hdd h4
            subst this
            rw [hs] at h3; cases h3
            exact h2
          have hfil : ∀ d', d' ∈ depsOf all.toArray i → ∀ c', (match sp[d']?, dstOf all.toArray d' with | some (Sp.q c), some t => some (t, c) | _, _ => none) = some (x, c') → c' = cd := fun d' _ c' h => by
            cases hs' : sp[d']? with
            | none => rw [hs'] at h; cases h
            | some s' =>
              cases hd' : dstOf all.toArray d' with
              | none => rw [hs', hd'] at h; cases s' <;> cases h
              | some t' =>
                rw [hs', hd'] at h
                cases s' with
                | al _ _ => cases h
                | ap _ _ => cases h
                | q c2 =>
                  simp at h
                  obtain ⟨rfl, rfl⟩ := h
                  have := fit_dst hf hdd hd'
                  subst this
                  rw [hs] at hs'; cases hs'; rfl
          rw [l1, look_append_in ⟨cd, hmem⟩]
          -- the first entry of x is one of the deps
          unfold depSl
          have hin : ∃ c, (x, c) ∈ ((depsOf all.toArray i).filterMap fun d => match sp[d]?, dstOf all.toArray d with | some (Sp.q c), some t => some (t, c) | _, _ => none) := ⟨cd, List.mem_filterMap.2 ⟨d, hdi, by rw [hs, hdd]⟩⟩
          rw [look_append_in hin]
          obtain ⟨d', hd1, hd2⟩ := List.mem_filterMap.1 (look_mem _ x hin)
          exact (hfil d' hd1 _ hd2).symm
      · rw [if_neg hx]
        by_cases hxj : x ∈ js
        · right; exact look_junk_in js sl x hxj
        · left
          rw [look_junk_out js sl x hxj]
          refine (look_append_out ?_).symm
          rintro ⟨c', hc⟩
          apply hxj
          have key : ∀ d', d' < m → dstOf all.toArray d' = some x → x ∈ js := fun d' hd' hdx => by
            have h1 := List.all_eq_true.1 hj d' (List.mem_range.2 hd')
            rw [hdx] at h1
            simpa using h1
          rcases List.mem_append.1 hc with h1 | h1
          · obtain ⟨d', hd1, hd2⟩ := List.mem_filterMap.1 h1
            have hlt := fit_dep hf (by have := (List.getElem?_eq_some_iff.1 hoi).1; simpa using this) hd1
            cases hs' : sp[d']? with
            | none => rw [hs'] at hd2; cases hd2
            | some s' =>
              cases hd' : dstOf all.toArray d' with
              | none => rw [hs', hd'] at hd2; cases s' <;> cases hd2
              | some t' =>
                rw [hs', hd'] at hd2
                cases s' with
                | al _ _ => cases hd2
                | ap _ _ => cases hd2
                | q c2 => simp at hd2; obtain ⟨rfl, _⟩ := hd2; exact key d' (by simp at hm; omega) hd'
          · obtain ⟨d', hd1, hd2⟩ := List.mem_filterMap.1 h1
            cases hd' : dstOf all.toArray d' with
            | none => rw [hd'] at hd2; cases hd2
            | some t' => rw [hd'] at hd2; cases hd2; exact key d' (List.mem_range.1 hd1) hd'
    rcases h with ⟨c, ts, t, ht, hna, hdk, hts, hq, hd⟩ | ⟨ty, z, t, ht, hz, hd⟩ | ⟨c0, c1, ts, t, ht, hia, hg, hdk, hts, hop, hd⟩
    · exact next (.q c) t ht hna hd (AQ.weaken (hlook ts hts) hq hdk)
    · exact next (.al ty z) t ht (by rw [hz.1]; rfl) hd hz
    · refine next (.ap c0 c1) t ht hia hd ⟨hg, hdk, ?_⟩
      have h1 := AOp.weakenS (W := fun c L' => ∃ v, c = .v v ∧ L' = c1 v :: L) (hlook ts hts) hop hdk
      intro w S a hs nx Qr hnx
      refine h1 w S a hs nx Qr ?_
      rintro sl' L' S2 a2 w2 ⟨c, rfl, v, rfl, rfl⟩ k1 k2 k3
      exact hnx _ _ S2 a2 w2 ⟨v, rfl, rfl⟩ k1 k2 k3
theorem stepsQ_take {all : List Oper} {sl : Sl} {L : List Ch} {m : Nat} {sp : List Sp} : ∀ (r : List Oper) (q : List Sp) (i k : Nat), q.length = k → StepsQ P n all sl L m sp (r.take k) q i → StepsQ P n all sl L m sp r q i
  | [], q, i, k, _, h => by simpa using h
  | o :: r, [], i, k, _, _ => trivial
  | o :: r, s :: q, i, k, hk, h => by
    cases k with
    | zero => simp at hk
    | succ k => exact ⟨h.1, stepsQ_take r q (i + 1) k (by simpa using hk) h.2⟩
theorem aw_drawA {ro : Option Nat} {id : Nat} {ops : List Oper} {sl : Sl} {L As L0 : List Ch} {Q : Exit → Sl → List Ch → Prop} (hL : L.Perm (As ++ L0)) (m : Nat) (js : List Nat) (hm : P.follows .mixedOrders = true) (hf : fit ops.toArray m = true) (hmn : Nat.ble m ops.length = true) (hj : junkOk ops m js = true)
    (h : DrawH P n ops sl As L0 (Q .normal) m js 0 (ops.take m) []) : AW P n ro (.region id ops.toArray true) sl L Q := by
  have hml := Nat.le_of_ble_eq_true hmn
  obtain ⟨q, a1, a0, a2, a3⟩ := drawH_steps hf hj hml (ops.take m) 0 [] [] rfl (by rw [List.length_take]; omega) (fun k o hk => by
    rw [List.getElem?_take] at hk
    split at hk
    · rw [Nat.zero_add]; exact hk
    · cases hk) (fun t j s => by simp) (fun j s h => by simp at h) (fun β => by simp [gch, allF]) (by simp [gch0, all0]) h
  have hq : q.length = m := by rw [a1, List.length_take]; omega
  rw [List.nil_append] at a0 a2 a3
  exact aw_le (.perm (hL.trans (List.Perm.append_right L0 a0))) (aw_draw m q hq hm hf hmn (stepsQ_take _ _ _ m hq a2) a3)
theorem aw_drawH {ro : Option Nat} {id : Nat} {ops : List Oper} {sl : Sl} {L : List Ch} {Q : Exit → Sl → List Ch → Prop} (m : Nat) (js : List Nat) (hm : P.follows .mixedOrders = true) (hf : fit ops.toArray m = true) (hmn : Nat.ble m ops.length = true) (hj : junkOk ops m js = true)
    (h : DrawH P n ops sl [] L (Q .normal) m js 0 (ops.take m) []) : AW P n ro (.region id ops.toArray true) sl L Q := aw_drawA (.refl _) m js hm hf hmn hj h
section
variable {all : List Oper} {sl : Sl} {As L : List Ch} {K : Sl → List Ch → Prop} {m : Nat} {js : List Nat} {i : Nat} {o : Oper} {r : List Oper} {pre : Pre}
theorem drawh_q (ts : List Nat) {c : V} {t : Nat} (ht : o.dst = some t) (ha : isAl o.op = false) (hd : dstOk n o.dst = true) (hts : tsOk all i ts = true) (h : AQ P n all.toArray o (selS pre ts ++ (junk js ++ sl)) L c) (h2 : DrawH P n all sl As L K m js (i + 1) r ((t, i, .q c) :: pre)) : DrawH P n all sl As L K m js i (o :: r) pre := .inl ⟨c, ts, t, ht, ha, hd, hts, h, h2⟩
theorem drawh_al {ty : TypeId} {z : List Value} {t : Nat} [hz : TyZ P ty z] (ho : o.op = .alloc ty) (ht : o.dst = some t) (hg : o.guard = none) (hd : dstOk n o.dst = true) (h2 : DrawH P n all sl As L K m js (i + 1) r ((t, i, .al ty z) :: pre)) : DrawH P n all sl As L K m js i (o :: r) pre := .inr (.inl ⟨ty, z, t, ht, ⟨ho, hz, hg, hd⟩, h2⟩)
theorem drawh_nil (h0 : As.Perm (gch0 pre)) (h : ∀ β : Nat → Nat × Value, AOs P n all.toArray (all.drop m) (gsl β pre ++ sl) (gch β pre ++ L) K) : DrawH P n all sl As L K m js i [] pre := ⟨h0, h⟩
end
end Go.Proofs.Ytlagablcopmhkaa
