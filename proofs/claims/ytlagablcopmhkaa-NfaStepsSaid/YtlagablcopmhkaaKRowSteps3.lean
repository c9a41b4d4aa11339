/- Packed: Draw, AlDraw, AlRange -/
import Derived.Lib.Hide
import Derived.Orders
import Derived.WalkKit
import Derived.Test.YtlagablcopmhkaaKRowSteps2
set_option linter.unusedVariables false
set_option linter.unusedSimpArgs false
/- A region that draws its order, walked once for each operation: what each operation yields is said by a word of its own, which stands in all later worlds. -/
namespace Go.Proofs.Ytlagablcopmhkaa
open Go.RowKit

def dstOf (ops : Array Oper) (i : Nat) : Option Tmp := (ops[i]?).bind (·.dst)
def depsOf (ops : Array Oper) (i : Nat) : List Nat := match ops[i]? with
  | some o => (o.after.toList.filter (Region.binds .any)).map (·.on)
  | none => []
def upd (xs : Nat → Value) (i : Nat) (v : Value) : Nat → Value := fun j => if j = i then v else xs j
def layT (ops : Array Oper) (xs : Nat → Value) (l : List Nat) (t : Array Value) : Array Value :=
  l.foldl (fun t i => match dstOf ops i with | some d => t.setIfInBounds d (xs i) | none => t) t
/-- the frame, with what the operations have yielded -/
def lay (ops : Array Oper) (a : Act) (xs : Nat → Value) : Act := { a with tmps := layT ops xs (List.range ops.size) a.tmps }

/-- no two operations yield into one slot; each leans on earlier ones alone; those from m on lean on all before. -/
def coverB (ops : Array Oper) : List Nat → Nat → Bool
  | _, 0 => true
  | S, j + 1 => S.contains j && coverB ops (depsOf ops j ++ S) j
def fit (ops : Array Oper) (m : Nat) : Bool :=
  ((List.range ops.size).all fun i => ((List.range ops.size).all fun j => i == j || dstOf ops i == none || dstOf ops i != dstOf ops j) && (depsOf ops i).all (fun d => decide (d < i)) && (decide (i < m) || coverB ops (depsOf ops i) i))

theorem layT_size (ops : Array Oper) (xs : Nat → Value) (l : List Nat) : ∀ t, (layT ops xs l t).size = t.size := by
  induction l with
  | nil => intro t; rfl
  | cons i l ih =>
    intro t
    simp only [layT, List.foldl_cons]
    rw [show List.foldl _ _ l = layT ops xs l _ from rfl, ih]
    split <;> simp

theorem layT_none (ops : Array Oper) (xs : Nat → Value) (d : Tmp) (l : List Nat) (hl : ∀ i ∈ l, dstOf ops i ≠ some d) : ∀ t, (layT ops xs l t)[d]? = t[d]? := by
  induction l with
  | nil => intro t; rfl
  | cons i l ih =>
    intro t
    simp only [layT, List.foldl_cons]
    rw [show List.foldl _ _ l = layT ops xs l _ from rfl, ih (fun j hj => hl j (List.mem_cons_of_mem _ hj))]
    have := hl i List.mem_cons_self
    split
    · rename_i d' hd
      rw [Array.getElem?_setIfInBounds_ne (by rintro rfl; exact this hd)]
    · rfl

theorem layT_some (ops : Array Oper) (xs : Nat → Value) (d : Tmp) (i : Nat) (hd : dstOf ops i = some d) (l : List Nat) (hi : i ∈ l) (hl : ∀ j ∈ l, dstOf ops j = some d → j = i) :
    ∀ t, (layT ops xs l t)[d]? = if d < t.size then some (xs i) else none := by
  induction l with
  | nil => simp at hi
  | cons j l ih =>
    intro t
    simp only [layT, List.foldl_cons]
    rw [show List.foldl _ _ l = layT ops xs l _ from rfl]
    by_cases hil : i ∈ l
    · rw [ih hil (fun k hk => hl k (List.mem_cons_of_mem _ hk))]
      split <;> simp
    · obtain rfl : i = j := by simpa [hil] using hi
      rw [layT_none ops xs d l (fun k hk hkd => hil (hl k (List.mem_cons_of_mem _ hk) hkd ▸ hk)), hd]
      simp [Array.getElem?_setIfInBounds]

section
variable {ops : Array Oper} {m : Nat}

theorem fit_dst (hf : fit ops m = true) {i j : Nat} {d : Tmp} (hi : dstOf ops i = some d) (hj : dstOf ops j = some d) : i = j := by
  have lt : ∀ {k}, dstOf ops k = some d → k < ops.size := fun {k} h => by
    unfold dstOf at h
    cases ho : ops[k]? with
    | none => rw [ho] at h; cases h
    | some o => exact (Array.getElem?_eq_some_iff.1 ho).1
  simp only [fit, List.all_eq_true, List.mem_range, Bool.and_eq_true, Bool.or_eq_true] at hf
  have := (hf i (lt hi)).1.1 j (lt hj)
  rw [hi, hj] at this
  simpa using this
theorem fit_dep (hf : fit ops m = true) {i d : Nat} (hi : i < ops.size) (hd : d ∈ depsOf ops i) : d < i := by
  simp only [fit, List.all_eq_true, List.mem_range, Bool.and_eq_true, Bool.or_eq_true] at hf
  simpa using (hf i hi).1.2 d hd
theorem fit_cover (hf : fit ops m = true) {i : Nat} (hi : i < ops.size) (hm : m ≤ i) : coverB ops (depsOf ops i) i = true := by
  simp only [fit, List.all_eq_true, List.mem_range, Bool.and_eq_true, Bool.or_eq_true] at hf
  rcases (hf i hi).2 with h | h
  · simp at h; omega
  · exact h

theorem lay_put (hf : fit ops m = true) (a : Act) (xs : Nat → Value) {i : Nat} (hi : i < ops.size) (v : Value) : (lay ops a xs).put (dstOf ops i) v = lay ops a (upd xs i v) := by
  cases hd : dstOf ops i with
  | none =>
    show lay ops a xs = _
    have : ∀ l t, layT ops xs l t = layT ops (upd xs i v) l t := by
      intro l
      induction l with
      | nil => intro t; rfl
      | cons j l ih =>
        intro t
        simp only [layT, List.foldl_cons]
        rw [show List.foldl _ _ l = layT ops xs l _ from rfl, show List.foldl _ _ l = layT ops (upd xs i v) l _ from rfl, ih]
        congr 1
        split
        · rename_i d hj
          rw [show upd xs i v j = xs j from if_neg (by rintro rfl; rw [hd] at hj; cases hj)]
        · rfl
    unfold lay
    rw [this]
  | some d =>
    suffices e : (layT ops xs (List.range ops.size) a.tmps).setIfInBounds d v = layT ops (upd xs i v) (List.range ops.size) a.tmps by simp [Act.put, lay, e]
    apply Array.ext_getElem?
    intro d'
    have key : ∀ (xs : Nat → Value) (j : Nat), j < ops.size → dstOf ops j = some d' → (layT ops xs (List.range ops.size) a.tmps)[d']? = if d' < a.tmps.size then some (xs j) else none := fun xs j hj hjd =>
      layT_some ops xs d' j hjd _ (List.mem_range.2 hj) (fun k _ hk => fit_dst hf hk hjd) _
    by_cases h : d = d'
    · subst h
      rw [key (upd xs i v) i hi hd, Array.getElem?_setIfInBounds, if_pos rfl, layT_size, show upd xs i v i = v from if_pos rfl]
    · rw [Array.getElem?_setIfInBounds_ne h]
      by_cases hex : ∃ j, j < ops.size ∧ dstOf ops j = some d'
      · obtain ⟨j, hj, hjd⟩ := hex
        rw [key xs j hj hjd, key (upd xs i v) j hj hjd, show upd xs i v j = xs j from if_neg (by rintro rfl; rw [hd] at hjd; cases hjd; exact h rfl)]
      · rw [layT_none ops xs d' _ (fun j hj hjd => hex ⟨j, List.mem_range.1 hj, hjd⟩), layT_none ops _ d' _ (fun j hj hjd => hex ⟨j, List.mem_range.1 hj, hjd⟩)]

theorem lay_start (hf : fit ops m = true) (a : Act) : ∃ xs, a = lay ops a xs := by
  refine ⟨fun i => ((dstOf ops i).bind (a.tmps[·]?)).getD undef, ?_⟩
  have : a.tmps = layT ops (fun i => ((dstOf ops i).bind (a.tmps[·]?)).getD undef) (List.range ops.size) a.tmps := by
    apply Array.ext_getElem?
    intro d
    by_cases hex : ∃ j, j < ops.size ∧ dstOf ops j = some d
    · obtain ⟨j, hj, hjd⟩ := hex
      rw [layT_some ops _ d j hjd _ (List.mem_range.2 hj) (fun k _ hk => fit_dst hf hk hjd), hjd]
      by_cases hlt : d < a.tmps.size
      · rw [if_pos hlt]; simp [Array.getElem?_eq_getElem hlt]
      · rw [if_neg hlt]; exact Array.getElem?_eq_none (by omega)
    · rw [layT_none ops _ d _ (fun j hj hjd => hex ⟨j, List.mem_range.1 hj, hjd⟩)]
  unfold lay
  rw [← this]

theorem cover_listed {L : Nat → Prop} (hcl : ∀ i, L i → ∀ d ∈ depsOf ops i, L d) : ∀ j S, (∀ s ∈ S, L s) → coverB ops S j = true → ∀ k, k < j → L k := by
  intro j
  induction j with
  | zero => intro S _ _ k hk; omega
  | succ j ih =>
    intro S hS hc k hk
    simp only [coverB, Bool.and_eq_true, List.contains_iff_mem] at hc
    have hj : L j := hS j hc.1
    by_cases hkj : k = j
    · exact hkj ▸ hj
    · exact ih (depsOf ops j ++ S) (fun s hs => by rcases List.mem_append.1 hs with h | h; exact hcl j hj s h; exact hS s h) hc.2 k (by omega)

theorem mem_ready' {j : Nat} {listed : Array Bool} (h : j ∈ Region.ready .any ops listed) : j < ops.size ∧ listed.getD j true = false ∧ ∀ d ∈ depsOf ops j, listed.getD d false = true := by
  obtain ⟨h0, o, ho, hall⟩ := mem_ready.1 h
  refine ⟨(Array.getElem?_eq_some_iff.1 ho).1, h0, fun d hd => ?_⟩
  unfold depsOf at hd
  rw [ho] at hd
  simp only [List.mem_map, List.mem_filter, Array.mem_toList_iff] at hd
  obtain ⟨e, ⟨he, hb⟩, rfl⟩ := hd
  exact hall e he hb
theorem ready_of {j : Nat} {listed : Array Bool} (hj : j < ops.size) (h0 : listed.getD j true = false) (hd : ∀ d ∈ depsOf ops j, listed.getD d false = true) : j ∈ Region.ready .any ops listed := by
  refine mem_ready.2 ⟨h0, ops[j], Array.getElem?_eq_getElem hj, fun e he hb => hd _ ?_⟩
  unfold depsOf
  rw [Array.getElem?_eq_getElem hj]
  simp only [List.mem_map, List.mem_filter, Array.mem_toList_iff]
  exact ⟨e, ⟨he, hb⟩, rfl⟩

end

variable {P : Program} {ops : Array Oper} {Q : Exit → Act → World → Prop} {m : Nat}

/-- what stands now and in all later worlds -/
def Stands (Φ : Value → World → Prop) (v : Value) (w : World) : Prop := ∀ w', Below w.heap.size w w' → Φ v w'
theorem Stands.now {Φ : Value → World → Prop} {v : Value} {w : World} (h : Stands Φ v w) : Φ v w := h w (Below.refl _ _)
theorem Stands.later {Φ : Value → World → Prop} {v : Value} {w w' : World} (h : Stands Φ v w) (hb : Below w.heap.size w w') : Stands Φ v w' := fun w2 h2 => h w2 (hb.trans (h2.mono hb.size))

/-- ONE OPERATION: from any frame and world in which what it leans on has been yielded. -/
def StepAt (P : Program) (ops : Array Oper) (Q : Exit → Act → World → Prop) (a : Act) (w0 : World) (Φ : Nat → Value → World → Prop) (i : Nat) : Prop :=
  ∀ (xs : Nat → Value) (w : World), Below w0.heap.size w0 w → (∀ k ∈ depsOf ops i, Stands (Φ k) (xs k) w) →
    ∀ K : Act → World → Prop, Hid (∀ v w', Below w.heap.size w w' → Stands (Φ i) v w' → K ((lay ops a xs).put (dstOf ops i) v) w') → wpOp P ops Q i K (lay ops a xs) w

theorem tail_sound (hf : fit ops m = true) : ∀ (fuel r : Nat) (listed : Array Bool) (a : Act) (w : World), m ≤ r → ops.size ≤ r + fuel → (∀ j, j < ops.size → (listed.getD j true = true ↔ j < r)) → listed.size = ops.size →
    wpOps P ops Q (List.range' r (ops.size - r)) a w → wpAny P .any ops Q fuel listed a w := by
  intro fuel
  induction fuel with
  | zero =>
    intro r listed a w hm hr hl hs h
    have hz : Region.ready .any ops listed = [] := by
      rw [List.eq_nil_iff_forall_not_mem]
      intro j hj
      obtain ⟨h1, h2, _⟩ := mem_ready' hj
      have := (hl j h1).2 (by omega)
      rw [h2] at this; cases this
    rw [show ops.size - r = 0 by omega] at h
    exact ⟨hz, by simpa [wpOps] using h⟩
  | succ fuel ih =>
    intro r listed a w hm hr hl hs h
    by_cases hrn : r < ops.size
    · have only : ∀ j ∈ Region.ready .any ops listed, j = r := by
        intro j hj
        obtain ⟨h1, h2, h3⟩ := mem_ready' hj
        have hge : r ≤ j := by
          rcases Nat.lt_or_ge j r with h | h
          · have := (hl j h1).2 h; rw [h2] at this; cases this
          · exact h
        rcases Nat.lt_or_ge r j with hlt | hge2
        · exfalso
          have hd : ∀ i, i < ops.size → ∀ {b c : Bool}, listed.getD i b = listed.getD i c := fun i hi {b c} => by simp [Array.getElem?_eq_getElem (hs ▸ hi : i < listed.size)]
          have := cover_listed (ops := ops) (L := fun k => k < ops.size ∧ k < r) (fun i hi d hd' => by have := fit_dep hf hi.1 hd'; omega) j (depsOf ops j) (fun s hs' => by
            have h4 := fit_dep hf h1 hs'
            have h5 := h3 s hs'
            rw [hd s (by omega) (c := true)] at h5
            exact ⟨by omega, (hl s (by omega)).1 h5⟩) (fit_cover hf h1 (by omega)) r hlt
          omega
        · omega
      refine ⟨fun h0 => ?_, fun i hi => ?_⟩
      · exfalso
        have hin : r ∈ Region.ready .any ops listed := by
          refine ready_of hrn ?_ fun d hd => ?_
          · cases hx : listed.getD r true
            · rfl
            · have := (hl r hrn).1 hx; omega
          · have h4 := fit_dep hf hrn hd
            have h5 := (hl d (by omega)).2 h4
            simpa [Array.getElem?_eq_getElem (show d < listed.size by omega)] using h5
        rw [h0] at hin; cases hin
      · obtain rfl := only i hi
        rw [show ops.size - i = (ops.size - (i + 1)) + 1 by omega, List.range'_succ, wpOps_cons] at h
        refine wpOp_mono (fun a' w' h' => ih (i + 1) _ a' w' (by omega) (by omega) (fun j hj => ?_) (by simpa using hs) h') h
        by_cases hji : j = i
        · subst hji
          simp [hs, hj]
        · rw [getD_set_ne true (Ne.symm hji), hl j hj]; omega
    · have hz : Region.ready .any ops listed = [] := by
        rw [List.eq_nil_iff_forall_not_mem]
        intro j hj
        obtain ⟨h1, h2, _⟩ := mem_ready' hj
        have := (hl j h1).2 (by omega)
        rw [h2] at this; cases this
      rw [show ops.size - r = 0 by omega] at h
      exact ⟨fun _ => by simpa [wpOps] using h, by rw [hz]; simp⟩

theorem count_lt {p q : Nat → Bool} (h : ∀ k, q k = true → p k = true) {i : Nat} (hp : p i = true) (hq : q i = false) : ∀ n, i < n → (List.range n).countP q < (List.range n).countP p := by
  have le : ∀ n, (List.range n).countP q ≤ (List.range n).countP p := fun n => List.countP_mono_left (fun k _ => h k)
  intro n
  induction n with
  | zero => intro hi; omega
  | succ n ih =>
    intro hi
    rw [List.range_succ, List.countP_append, List.countP_append]
    by_cases e : i = n
    · subst e
      have := le i
      simp [hp, hq]
      omega
    · have h1 := ih (by omega)
      have h2 : List.countP q [n] ≤ List.countP p [n] := List.countP_mono_left (fun k _ => h k)
      omega
theorem count_ge {p : Nat → Bool} {m : Nat} : ∀ n, (∀ k, m ≤ k → k < n → p k = true) → n - m ≤ (List.range n).countP p := by
  intro n
  induction n with
  | zero => intro _; simp
  | succ n ih =>
    intro h
    rw [List.range_succ, List.countP_append]
    have := ih (fun k h1 h2 => h k h1 (by omega))
    by_cases e : m ≤ n
    · simp [h n e (by omega)]; omega
    · omega

/-- THE LAW: the operations below m in any order, each by its own word; those from m on, which lean on all, one behind the other. -/
theorem wp_region_parts {id : Nat} {a : Act} {w : World} (hm : P.follows .mixedOrders = true) (m : Nat) (hf : fit ops m = true) (hmn : m ≤ ops.size) (Φ : Nat → Value → World → Prop)
    (hstep : ∀ i, i < m → StepAt P ops Q a w Φ i)
    (hend : ∀ (xs : Nat → Value) (W : World), Below w.heap.size w W → (∀ k, k < m → Stands (Φ k) (xs k) W) → wpOps P ops Q (List.range' m (ops.size - m)) (lay ops a xs) W) :
    (Code.region id ops true).wp P Q a w := by
  refine wp_region_any hm ?_
  have main : ∀ (fuel : Nat) (listed : Array Bool) (xs : Nat → Value) (W : World), listed.size = ops.size → ((List.range ops.size).countP fun k => !listed.getD k true) ≤ fuel → Below w.heap.size w W →
      (∀ k, k < ops.size → listed.getD k true = true → k < m ∧ Stands (Φ k) (xs k) W ∧ ∀ d ∈ depsOf ops k, listed.getD d true = true) → wpAny P .any ops Q fuel listed (lay ops a xs) W := by
    intro fuel
    induction fuel with
    | zero =>
      intro listed xs W hs hc hb hl
      have all : ∀ k, k < ops.size → listed.getD k true = true := fun k hk => by
        cases hx : listed.getD k true
        · have := List.countP_eq_zero.1 (Nat.le_zero.1 hc) k (List.mem_range.2 hk)
          rw [hx] at this; exact absurd rfl this
        · rfl
      have hmn2 : m = ops.size := by
        rcases Nat.lt_or_ge m ops.size with h | h
        · have := (hl m h (all m h)).1; omega
        · omega
      refine tail_sound hf 0 ops.size listed _ _ (by omega) (by omega) (fun j hj => ⟨fun _ => hj, fun _ => all j hj⟩) hs ?_
      have := hend xs W hb (fun k hk => (hl k (by omega) (all k (by omega))).2.1)
      rw [hmn2] at this
      exact this
    | succ fuel ih =>
      intro listed xs W hs hc hb hl
      by_cases hall : ∀ k, k < m → listed.getD k true = true
      · refine tail_sound hf (fuel + 1) m listed _ _ (Nat.le_refl _) ?_ (fun j hj => ⟨fun h => (hl j hj h).1, hall j⟩) hs (hend xs W hb fun k hk => (hl k (by omega) (hall k hk)).2.1)
        have := count_ge (p := fun k => !listed.getD k true) (m := m) ops.size (fun k h1 h2 => by
          cases hx : listed.getD k true
          · rfl
          · have := (hl k h2 hx).1; omega)
        omega
      · have gd : ∀ i, i < ops.size → ∀ {b c : Bool}, listed.getD i b = listed.getD i c := fun i hi {b c} => by simp [Array.getElem?_eq_getElem (hs ▸ hi : i < listed.size)]
        refine ⟨fun h0 => ?_, fun i hi => ?_⟩
        · exfalso
          apply hall
          have : ∀ k, k < ops.size → listed.getD k true = true := by
            intro k
            induction k using Nat.strongRecOn with
            | ind k ihk =>
              intro hk
              cases hx : listed.getD k true
              · have hin : k ∈ Region.ready .any ops listed := ready_of hk hx fun d hd => by
                  have h4 := fit_dep hf hk hd
                  rw [gd d (by omega) (c := true)]
                  exact ihk d h4 (by omega)
                rw [h0] at hin; cases hin
              · rfl
          exact fun k hk => this k (by omega)
        · obtain ⟨h1, h2, h3⟩ := mem_ready' hi
          have him : i < m := by
            rcases Nat.lt_or_ge i m with h | h
            · exact h
            · exfalso
              apply hall
              have := cover_listed (ops := ops) (L := fun k => k < ops.size ∧ listed.getD k true = true) (fun j hj d hd => ⟨by have := fit_dep hf hj.1 hd; omega, (hl j hj.1 hj.2).2.2 d hd⟩) i (depsOf ops i) (fun s hs' => by
                have h4 := fit_dep hf h1 hs'
                exact ⟨by omega, by rw [gd s (by omega) (c := false)]; exact h3 s hs'⟩) (fit_cover hf h1 h)
              exact fun k hk => (this k (by omega)).2
          refine hstep i him xs W hb (fun k hk => ?_) _ ?_
          · have h4 := fit_dep hf h1 hk
            exact (hl k (by omega) (by rw [gd k (by omega) (c := false)]; exact h3 k hk)).2.1
          · intro v w' hb' hΦ
            rw [lay_put hf a xs h1]
            refine ih _ _ w' (by simpa using hs) ?_ (hb.trans (hb'.mono hb.size)) fun k hk hkl => ?_
            · have := count_lt (p := fun k => !listed.getD k true) (q := fun k => !(listed.setIfInBounds i true).getD k true) (i := i) (fun k hk => by
                by_cases e : k = i
                · subst e; simp [hs, h1] at hk
                · rw [getD_set_ne true (Ne.symm e)] at hk; exact hk) (by simp only [h2]; rfl) (by simp [hs, h1]) ops.size h1
              omega
            · by_cases e : k = i
              · subst e
                refine ⟨him, by rw [show upd xs k v k = v from if_pos rfl]; exact hΦ, fun d hd => ?_⟩
                have h4 := fit_dep hf h1 hd
                rw [getD_set_ne true (by omega), gd d (by omega) (c := false)]
                exact h3 d hd
              · rw [getD_set_ne true (Ne.symm e)] at hkl
                obtain ⟨a1, a2, a3⟩ := hl k hk hkl
                refine ⟨a1, by rw [show upd xs i v k = xs k from if_neg e]; exact a2.later hb', fun d hd => ?_⟩
                by_cases e2 : d = i
                · subst e2; simp [hs, h1]
                · rw [getD_set_ne true (Ne.symm e2)]; exact a3 d hd
  obtain ⟨xs, hxs⟩ := lay_start hf a
  have hxs2 : lay ops a xs = a := hxs.symm
  have := main ops.size (Array.replicate ops.size false) xs { w with drawn := w.drawn + 1 } (by simp) (by have := List.countP_le_length (p := fun k => !(Array.replicate ops.size false).getD k true) (l := List.range ops.size); simpa using this) ⟨rfl, rfl, rfl, Nat.le_refl _, fun _ _ => rfl⟩ fun k hk h => by
    simp [hk] at h
  rw [hxs2] at this
  exact this

def layL (xs : Nat → Value) : List Oper → Nat → Array Value → Array Value
  | [], _, t => t
  | o :: r, i, t => layL xs r (i + 1) (match o.dst with | some d => t.setIfInBounds d (xs i) | none => t)
theorem layT_layL (xs : Nat → Value) : ∀ (r p : List Oper) (t : Array Value), layT (p ++ r).toArray xs (List.range' p.length r.length) t = layL xs r p.length t := by
  intro r
  induction r with
  | nil => intro p t; simp [layT, layL]
  | cons o r ih =>
    intro p t
    have h := ih (p ++ [o]) (match o.dst with | some d => t.setIfInBounds d (xs p.length) | none => t)
    rw [List.append_assoc, List.singleton_append, List.length_append, List.length_singleton] at h
    rw [layL, List.length_cons, List.range'_succ, ← h]
    have e : dstOf (p ++ o :: r).toArray p.length = o.dst := by simp [dstOf]
    show layT _ xs _ (match dstOf (p ++ o :: r).toArray p.length with | some d => t.setIfInBounds d (xs p.length) | none => t) = _
    rw [e]
theorem lay_lit (l : List Oper) (a : Act) (xs : Nat → Value) : lay l.toArray a xs = { a with tmps := layL xs l 0 a.tmps } := by
  have := layT_layL xs l [] a.tmps
  unfold lay
  rw [List.range_eq_range']
  simp only [List.nil_append, List.length_nil] at this
  rw [List.size_toArray, this]

def allS (F : Nat → Prop) : Nat → Nat → Prop
  | 0, _ => True
  | n + 1, i => F i ∧ allS F n (i + 1)
theorem allS_at {F : Nat → Prop} : ∀ {n i : Nat}, allS F n i → ∀ k, i ≤ k → k < i + n → F k
  | 0, i, _, k, h1, h2 => by omega
  | n + 1, i, h, k, h1, h2 => by
    by_cases e : k = i
    · exact e ▸ h.1
    · exact allS_at h.2 k (by omega) (by omega)
def ofL (l : List (Value → World → Prop)) (k : Nat) : Value → World → Prop := l.getD k fun _ _ => True
def needs (l : List (Value → World → Prop)) (xs : Nat → Value) (W : World) : List Nat → Prop
  | [] => True
  | k :: r => Stands (ofL l k) (xs k) W ∧ needs l xs W r

/-- one operation, its frame written out -/
def StepL (P : Program) (ops : Array Oper) (Q : Exit → Act → World → Prop) (mk : (Nat → Value) → Act) (w0 : World) (l : List (Value → World → Prop)) (i : Nat) : Prop :=
  ∀ (xs : Nat → Value) (W : World), Below w0.heap.size w0 W → needs l xs W (depsOf ops i) →
    ∀ K : Act → World → Prop, Hid (∀ v w', Below W.heap.size W w' → Stands (ofL l i) v w' → K ((mk xs).put (dstOf ops i) v) w') → wpOp P ops Q i K (mk xs) W

theorem needs_of {l : List (Value → World → Prop)} {xs : Nat → Value} {W : World} : ∀ {ds : List Nat}, (∀ k ∈ ds, Stands (ofL l k) (xs k) W) → needs l xs W ds
  | [], _ => trivial
  | k :: r, h => ⟨h k List.mem_cons_self, needs_of fun j hj => h j (List.mem_cons_of_mem _ hj)⟩

theorem region_parts {id : Nat} {a : Act} {w : World} (hm : P.follows .mixedOrders = true) (mk : (Nat → Value) → Act) (hmk : ∀ xs, lay ops a xs = mk xs) (l : List (Value → World → Prop)) (hf : fit ops l.length = true) (hmn : l.length ≤ ops.size)
    (hstep : allS (StepL P ops Q mk w l) l.length 0)
    (hend : ∀ (xs : Nat → Value) (W : World), Below w.heap.size w W → needs l xs W (List.range l.length) → wpOps P ops Q (List.range' l.length (ops.size - l.length)) (mk xs) W) :
    (Code.region id ops true).wp P Q a w := by
  refine wp_region_parts hm l.length hf hmn (ofL l) (fun i hi xs W hb hd K hK => ?_) (fun xs W hb hd => ?_)
  · rw [hmk] at hK ⊢
    exact allS_at hstep i (Nat.zero_le _) (by omega) xs W hb (needs_of hd) K hK
  · rw [hmk]
    exact hend xs W hb (needs_of fun k hk => hd k (List.mem_range.1 hk))

theorem needs_sub {l : List (Value → World → Prop)} {xs : Nat → Value} {W : World} {ds : List Nat} (h : needs l xs W ds) : ∀ k ∈ ds, Stands (ofL l k) (xs k) W := by
  induction ds with
  | nil => intro k hk; cases hk
  | cons d ds ih =>
    intro k hk
    rcases List.mem_cons.1 hk with rfl | hk
    · exact h.1
    · exact ih h.2 k hk

/-- one operation, written out -/
def StepO (P : Program) (L : List Oper) (Q : Exit → Act → World → Prop) (mk : (Nat → Value) → Act) (w0 : World) (l : List (Value → World → Prop)) (o : Oper) (i : Nat) : Prop :=
  ∀ (xs : Nat → Value) (W : World), Below w0.heap.size w0 W → needs l xs W (depsOf L.toArray i) →
    ∀ K : Act → World → Prop, Hid (∀ v w', Below W.heap.size W w' → Stands (ofL l i) v w' → K ((mk xs).put o.dst v) w') →
      if Region.wanted o (yielded L.toArray (mk xs).tmps) then Oper.wp P o (mk xs) W K Q else K ((mk xs).put o.dst undef) W
def allO (F : Oper → Nat → Prop) : List Oper → Nat → Nat → Prop
  | o :: r, n + 1, i => F o i ∧ allO F r n (i + 1)
  | _, _, _ => True
theorem allO_at {F : Oper → Nat → Prop} : ∀ {r : List Oper} {n i : Nat}, allO F r n i → ∀ k o, k < n → r[k]? = some o → F o (i + k)
  | [], _, _, _, k, o, _, h2 => by simp at h2
  | _ :: _, 0, _, _, k, o, h1, _ => by omega
  | q :: r, n + 1, i, h, k, o, h1, h2 => by
    cases k with
    | zero => simp at h2; subst h2; exact h.1
    | succ k => have := allO_at h.2 k o (by omega) (by simpa using h2); rwa [show i + 1 + k = i + (k + 1) by omega] at this

theorem region_lit {id : Nat} {a : Act} {w : World} {L : List Oper} (hm : P.follows .mixedOrders = true) (mk : (Nat → Value) → Act) (hmk : ∀ xs, ({ a with tmps := layL xs L 0 a.tmps } : Act) = mk xs) (l : List (Value → World → Prop)) (hf : fit L.toArray l.length = true) (hmn : Nat.ble l.length L.length = true)
    (hstep : allO (StepO P L Q mk w l) L l.length 0)
    (hend : ∀ (xs : Nat → Value) (W : World), Below w.heap.size w W → needs l xs W (List.range l.length) → wpOps P L.toArray Q (List.range' l.length (L.length - l.length)) (mk xs) W) :
    (Code.region id L.toArray true).wp P Q a w := by
  have hle := Nat.le_of_ble_eq_true hmn
  have hmk' : ∀ xs, lay L.toArray a xs = mk xs := fun xs => (lay_lit L a xs).trans (hmk xs)
  refine wp_region_parts hm l.length hf (by simpa using hle) (ofL l) (fun i hi xs W hb hd K hK => ?_) (fun xs W hb hd => ?_)
  · rw [hmk'] at hK ⊢
    obtain ⟨o, ho⟩ : ∃ o, L[i]? = some o := ⟨L[i]'(by omega), by simp⟩
    have ho2 : L.toArray[i]? = some o := by simpa using ho
    have hdst : dstOf L.toArray i = o.dst := by simp [dstOf, ho]
    have h := allO_at hstep i o hi ho
    rw [Nat.zero_add] at h
    have h2 := h xs W hb (needs_of hd) K (by rw [← hdst]; exact hK)
    unfold wpOp
    simp only [ho2]
    split
    · rename_i hw; rw [if_pos hw] at h2; exact .inl h2
    · rename_i hw; rw [if_neg hw] at h2; exact h2
  · rw [hmk']
    have := hend xs W hb (needs_of fun k hk => hd k (List.mem_range.1 hk))
    rwa [List.size_toArray]

theorem step_plain {L : List Oper} {mk : (Nat → Value) → Act} {w0 : World} {l : List (Value → World → Prop)} {i : Nat} {o : Oper} (hg : o.guard = none) (ds : List Nat) (hds : (ds.all fun d => (depsOf L.toArray i).contains d) = true)
    (h : ∀ (xs : Nat → Value) (W : World), Below w0.heap.size w0 W → needs l xs W ds → ∀ K : Act → World → Prop, Hid (∀ v w', Below W.heap.size W w' → Stands (ofL l i) v w' → K ((mk xs).put o.dst v) w') → Oper.wp P o (mk xs) W K Q) : StepO P L Q mk w0 l o i := by
  intro xs W hb hd K hK
  rw [if_pos (by simp [Region.wanted, hg])]
  exact h xs W hb (needs_of fun k hk => needs_sub hd k (by simpa using List.all_eq_true.1 hds k hk)) K hK

theorem tail_one {L : List Oper} {a : Act} {W : World} {n : Nat} (o : Oper) (ho : L.drop n = [o]) (hg : o.guard = none) (h : Oper.wp P o a W (fun a w => Q .normal a w) Q) : wpOps P L.toArray Q (List.range' n (L.length - n)) a W := by
  have hn : L.length - n = 1 := by rw [← List.length_drop, ho]; rfl
  have ho2 : L.toArray[n]? = some o := by
    have : (L.drop n)[0]? = some o := by rw [ho]; rfl
    simpa using this
  rw [hn]
  show wpOps P L.toArray Q [n] a W
  rw [wpOps_cons]
  unfold wpOp
  simp only [ho2]
  rw [if_pos (by simp [Region.wanted, hg])]
  exact .inl h

theorem tail_cons {L r : List Oper} {a : Act} {W : World} {n : Nat} (o : Oper) (ho : L.drop n = o :: r) (hg : o.guard = none) (h : ∀ K : Act → World → Prop, Hid (∀ a w, wpOps P L.toArray Q (List.range' (n + 1) (L.length - (n + 1))) a w → K a w) → Oper.wp P o a W K Q) : wpOps P L.toArray Q (List.range' n (L.length - n)) a W := by
  have hl : L.length - n = (L.length - (n + 1)) + 1 := by
    have := congrArg List.length ho
    rw [List.length_drop, List.length_cons] at this
    omega
  have ho2 : L.toArray[n]? = some o := by
    have : (L.drop n)[0]? = some o := by rw [ho]; rfl
    simpa using this
  rw [hl, List.range'_succ, wpOps_cons]
  unfold wpOp
  simp only [ho2]
  rw [if_pos (by simp [Region.wanted, hg])]
  exact .inl (h _ fun _ _ h => h)

theorem stands_eq (v : Value) (w : World) : Stands (fun x _ => x = v) v w := fun _ _ => rfl
end Go.Proofs.Ytlagablcopmhkaa
/- Walking with descriptions: regions that draw their order: operations that leave memory as it is, and new variables, in any order; then the others. -/
namespace Go.Proofs.Ytlagablcopmhkaa
open Go.RowKit
variable {P : Program} {n : Nat}

section
variable {ops : Array Oper} {Q : Exit → Act → World → Prop}
theorem tail_soundIn {ro : Option Nat} {m : Nat} (hf : fit ops m = true) : ∀ (fuel r : Nat) (listed : Array Bool) (a : Act) (w : World), m ≤ r → ops.size ≤ r + fuel → (∀ j, j < ops.size → (listed.getD j true = true ↔ j < r)) → listed.size = ops.size →
    wpOpsIn (fen ro) 0 P ops Q (List.range' r (ops.size - r)) a w → wpAnyIn (fen ro) 0 P .any ops Q fuel listed a w := by
  intro fuel
  induction fuel with
  | zero =>
    intro r listed a w hm hr hl hs h
    have hz : Region.ready .any ops listed = [] := by
      rw [List.eq_nil_iff_forall_not_mem]
      intro j hj
      obtain ⟨h1, h2, _⟩ := mem_ready' hj
      have := (hl j h1).2 (by omega)
      rw [h2] at this; cases this
    rw [show ops.size - r = 0 by omega] at h
    exact ⟨hz, by simpa [wpOpsIn] using h⟩
  | succ fuel ih =>
    intro r listed a w hm hr hl hs h
    by_cases hrn : r < ops.size
    · have only : ∀ j ∈ Region.ready .any ops listed, j = r := by
        intro j hj
        obtain ⟨h1, h2, h3⟩ := mem_ready' hj
        have hge : r ≤ j := by
          rcases Nat.lt_or_ge j r with h | h
          · have := (hl j h1).2 h; rw [h2] at this; cases this
          · exact h
        rcases Nat.lt_or_ge r j with hlt | hge2
        · exfalso
          have hd : ∀ i, i < ops.size → ∀ {b c : Bool}, listed.getD i b = listed.getD i c := fun i hi {b c} => by simp [Array.getElem?_eq_getElem (hs ▸ hi : i < listed.size)]
          have := cover_listed (ops := ops) (L := fun k => k < ops.size ∧ k < r) (fun i hi d hd' => by have := fit_dep hf hi.1 hd'; omega) j (depsOf ops j) (fun s hs' => by
            have h4 := fit_dep hf h1 hs'
            have h5 := h3 s hs'
            rw [hd s (by omega) (c := true)] at h5
            exact ⟨by omega, (hl s (by omega)).1 h5⟩) (fit_cover hf h1 (by omega)) r hlt
          omega
        · omega
      refine ⟨fun h0 => ?_, fun i hi => ?_⟩
      · exfalso
        have hin : r ∈ Region.ready .any ops listed := by
          refine ready_of hrn ?_ fun d hd => ?_
          · cases hx : listed.getD r true
            · rfl
            · have := (hl r hrn).1 hx; omega
          · have h4 := fit_dep hf hrn hd
            have h5 := (hl d (by omega)).2 h4
            simpa [Array.getElem?_eq_getElem (show d < listed.size by omega)] using h5
        rw [h0] at hin; cases hin
      · obtain rfl := only i hi
        rw [show ops.size - i = (ops.size - (i + 1)) + 1 by omega, List.range'_succ, wpOpsIn_cons] at h
        refine wpOpIn_mono (fun a' w' h' => ih (i + 1) _ a' w' (by omega) (by omega) (fun j hj => ?_) (by simpa using hs) h') h
        by_cases hji : j = i
        · subst hji
          simp [hs, hj]
        · rw [getD_set_ne true (Ne.symm hji), hl j hj]; omega
    · have hz : Region.ready .any ops listed = [] := by
        rw [List.eq_nil_iff_forall_not_mem]
        intro j hj
        obtain ⟨h1, h2, _⟩ := mem_ready' hj
        have := (hl j h1).2 (by omega)
        rw [h2] at this; cases this
      rw [show ops.size - r = 0 by omega] at h
      exact ⟨fun _ => by simpa [wpOpsIn] using h, by rw [hz]; simp⟩

theorem wp_region_inv {ro : Option Nat} {id : Nat} {a : Act} {w : World} (hm : P.follows .mixedOrders = true) (m : Nat) (hf : fit ops m = true) (hmn : m ≤ ops.size) (Inv : (Nat → Bool) → Act → World → Prop) (h0 : Inv (fun _ => false) a { w with drawn := w.drawn + 1 })
    (hext : ∀ (D D' : Nat → Bool) (a : Act) (w : World), (∀ k, k < m → D k = D' k) → Inv D a w → Inv D' a w)
    (hstep : ∀ (i : Nat) (D : Nat → Bool) (a : Act) (w : World), i < m → Inv D a w → (∀ d ∈ depsOf ops i, d < m ∧ D d = true) → D i = false → wpOpIn (fen ro) 0 P ops Q i (Inv fun k => D k || Nat.beq k i) a w)
    (hend : ∀ (a : Act) (w : World), Inv (fun _ => true) a w → wpOpsIn (fen ro) 0 P ops Q (List.range' m (ops.size - m)) a w) : (Code.region id ops true).wpIn (fen ro) 0 P Q a w := by
  refine wpIn_region_any hm ?_
  have main : ∀ (fuel : Nat) (listed : Array Bool) (a : Act) (W : World), listed.size = ops.size → ((List.range ops.size).countP fun k => !listed.getD k true) ≤ fuel → Inv (fun k => listed.getD k false) a W →
      (∀ k, k < ops.size → listed.getD k true = true → k < m ∧ ∀ d ∈ depsOf ops k, listed.getD d true = true) → wpAnyIn (fen ro) 0 P .any ops Q fuel listed a W := by
    intro fuel
    induction fuel with
    | zero =>
      intro listed a W hs hc hI hl
      have all : ∀ k, k < ops.size → listed.getD k true = true := fun k hk => by
        cases hx : listed.getD k true
        · have := List.countP_eq_zero.1 (Nat.le_zero.1 hc) k (List.mem_range.2 hk)
          rw [hx] at this; exact absurd rfl this
        · rfl
      have gd : ∀ i, i < ops.size → ∀ {b c : Bool}, listed.getD i b = listed.getD i c := fun i hi {b c} => by simp [Array.getElem?_eq_getElem (hs ▸ hi : i < listed.size)]
      have hmn2 : m = ops.size := by
        rcases Nat.lt_or_ge m ops.size with h | h
        · have := (hl m h (all m h)).1; omega
        · omega
      refine tail_soundIn hf 0 ops.size listed _ _ (by omega) (by omega) (fun j hj => ⟨fun _ => hj, fun _ => all j hj⟩) hs ?_
      have := hend a W (hext _ _ a W (fun k hk => by rw [gd k (by omega) (c := true)]; exact all k (by omega)) hI)
      rw [hmn2] at this
      exact this
    | succ fuel ih =>
      intro listed a W hs hc hI hl
      have gd : ∀ i, i < ops.size → ∀ {b c : Bool}, listed.getD i b = listed.getD i c := fun i hi {b c} => by simp [Array.getElem?_eq_getElem (hs ▸ hi : i < listed.size)]
      by_cases hall : ∀ k, k < m → listed.getD k true = true
      · refine tail_soundIn hf (fuel + 1) m listed _ _ (Nat.le_refl _) ?_ (fun j hj => ⟨fun h => (hl j hj h).1, hall j⟩) hs (hend a W (hext _ _ a W (fun k hk => by rw [gd k (by omega) (c := true)]; exact hall k hk) hI))
        have := count_ge (p := fun k => !listed.getD k true) (m := m) ops.size (fun k h1 h2 => by
          cases hx : listed.getD k true
          · rfl
          · have := (hl k h2 hx).1; omega)
        omega
      · refine ⟨fun h0 => ?_, fun i hi => ?_⟩
        · exfalso
          apply hall
          have : ∀ k, k < ops.size → listed.getD k true = true := by
            intro k
            induction k using Nat.strongRecOn with
            | ind k ihk =>
              intro hk
              cases hx : listed.getD k true
              · have hin : k ∈ Region.ready .any ops listed := ready_of hk hx fun d hd => by
                  have h4 := fit_dep hf hk hd
                  rw [gd d (by omega) (c := true)]
                  exact ihk d h4 (by omega)
                rw [h0] at hin; cases hin
              · rfl
          exact fun k hk => this k (by omega)
        · obtain ⟨h1, h2, h3⟩ := mem_ready' hi
          have him : i < m := by
            rcases Nat.lt_or_ge i m with h | h
            · exact h
            · exfalso
              apply hall
              have := cover_listed (ops := ops) (L := fun k => k < ops.size ∧ listed.getD k true = true) (fun j hj d hd => ⟨by have := fit_dep hf hj.1 hd; omega, (hl j hj.1 hj.2).2 d hd⟩) i (depsOf ops i) (fun s hs' => by
                have h4 := fit_dep hf h1 hs'
                exact ⟨by omega, by rw [gd s (by omega) (c := false)]; exact h3 s hs'⟩) (fit_cover hf h1 h)
              exact fun k hk => (this k (by omega)).2
          refine wpOpIn_mono ?_ (hstep i _ a W him hI (fun d hd => ⟨?_, h3 d hd⟩) (by show listed.getD i false = false; rw [gd i h1 (c := true)]; exact h2))
          · intro a' w' hI'
            refine ih _ _ w' (by simpa using hs) ?_ (hext _ _ a' w' (fun k hk => ?_) hI') fun k hk hkl => ?_
            · have := count_lt (p := fun k => !listed.getD k true) (q := fun k => !(listed.setIfInBounds i true).getD k true) (i := i) (fun k hk => by
                by_cases e : k = i
                · subst e; simp [hs, h1] at hk
                · rw [getD_set_ne true (Ne.symm e)] at hk; exact hk) (by simp only [h2]; rfl) (by simp [hs, h1]) ops.size h1
              omega
            · by_cases e : k = i
              · subst e; simp [hs, h1]
              · rw [getD_set_ne false (Ne.symm e)]
                have hb : Nat.beq k i = false := by cases hb : Nat.beq k i with | false => rfl | true => exact absurd (Nat.eq_of_beq_eq_true hb) e
                rw [hb, Bool.or_false]
            · by_cases e : k = i
              · subst e
                refine ⟨him, fun d hd => ?_⟩
                have h4 := fit_dep hf h1 hd
                rw [getD_set_ne true (by omega), gd d (by omega) (c := false)]
                exact h3 d hd
              · rw [getD_set_ne true (Ne.symm e)] at hkl
                obtain ⟨a1, a3⟩ := hl k hk hkl
                refine ⟨a1, fun d hd => ?_⟩
                by_cases e2 : d = i
                · subst e2; simp [hs, h1]
                · rw [getD_set_ne true (Ne.symm e2)]; exact a3 d hd
          · have h4 := fit_dep hf h1 hd
            omega
  refine main ops.size _ a _ (by simp) (by have := List.countP_le_length (p := fun k => !(Array.replicate ops.size false).getD k true) (l := List.range ops.size); simpa using this) (hext _ _ _ _ (fun k _ => by simp [Array.getElem?_replicate]; split <;> rfl) h0) fun k hk hkl => ?_
  simp [hk] at hkl
end

/-- what an operation does that may come in any order: it leaves memory as it is, or makes a variable, or turns one chunk -/
inductive Sp where
  | q (c : V)
  | al (ty : TypeId) (z : List Value)
  | ap (c0 : Ch) (c1 : Value → Ch)
def Sp.val (b : Nat × Value) : Sp → V
  | .q c => c
  | .al _ _ => .ptr b.1 0
  | .ap _ _ => .v b.2
def Sp.ch0 : Sp → List Ch
  | .ap c0 _ => [c0]
  | _ => []
def Sp.ch (b : Nat × Value) : Sp → List Ch
  | .q _ => []
  | .al ty z => [.box b.1 ty (zV z)]
  | .ap _ c1 => [c1 b.2]
/-- an operation that leaves memory as it is, and what it yields -/
def AQ (P : Program) (n : Nat) (all : Array Oper) (o : Oper) (sl : Sl) (L : List Ch) (c : V) : Prop :=
  (o.guard = none ∧ AOp P n o sl L fun sl' L' => sl' = put sl o.dst c ∧ L' = L) ∨
  (∃ (j : Nat) (want g : Bool) (d : Nat), o.guard = some (j, want) ∧ gslot all j = some d ∧ look sl d = .b g ∧ ((g = want ∧ AOp P n o sl L fun sl' L' => sl' = put sl o.dst c ∧ L' = L) ∨ (g ≠ want ∧ dstOk n o.dst = true ∧ c = .v undef))) ∨
  (∃ (j : Nat) (want : Bool) (d : Nat), o.guard = some (j, want) ∧ gslot all j = some d ∧ look sl d = .v undef ∧ dstOk n o.dst = true ∧ c = .v undef)
theorem aq_plain {all : Array Oper} {o : Oper} {sl : Sl} {L : List Ch} {c : V} (hg : o.guard = none) (h : AOp P n o sl L fun sl' L' => sl' = put sl o.dst c ∧ L' = L) : AQ P n all o sl L c := .inl ⟨hg, h⟩
theorem aq_yes {all : Array Oper} {o : Oper} {sl : Sl} {L : List Ch} {c : V} {j d : Nat} {g : Bool} (hg : o.guard = some (j, g)) (hj : gslot all j = some d) (hd : look sl d = .b g) (h : AOp P n o sl L fun sl' L' => sl' = put sl o.dst c ∧ L' = L) : AQ P n all o sl L c := .inr (.inl ⟨j, g, g, d, hg, hj, hd, .inl ⟨rfl, h⟩⟩)
theorem aq_no {all : Array Oper} {o : Oper} {sl : Sl} {L : List Ch} {j d : Nat} {want g : Bool} (hg : o.guard = some (j, want)) (hj : gslot all j = some d) (hd : look sl d = .b g) (hc : g = !want) (hdst : dstOk n o.dst = true) : AQ P n all o sl L (.v undef) :=
  .inr (.inl ⟨j, want, g, d, hg, hj, hd, .inr ⟨by rw [hc]; cases want <;> simp, hdst, rfl⟩⟩)
theorem aq_un {all : Array Oper} {o : Oper} {sl : Sl} {L : List Ch} {j d : Nat} {want : Bool} (hg : o.guard = some (j, want)) (hj : gslot all j = some d) (hd : look sl d = .v undef) (hdst : dstOk n o.dst = true) : AQ P n all o sl L (.v undef) := .inr (.inr ⟨j, want, d, hg, hj, hd, hdst, rfl⟩)
/-- the slots that an operation may look at -/
def depSl (ops : List Oper) (m : Nat) (sp : List Sp) (i : Nat) : Sl :=
  ((depsOf ops.toArray i).filterMap fun d => match sp[d]?, dstOf ops.toArray d with | some (Sp.q c), some t => some (t, c) | _, _ => none) ++ (List.range m).filterMap fun d => (dstOf ops.toArray d).map fun t => (t, V.j)
def fullSl (ops : List Oper) (β : Nat → Nat × Value) : List Sp → Nat → Sl
  | [], _ => []
  | s :: r, i => (match dstOf ops.toArray i with | some t => [(t, s.val (β i))] | none => []) ++ fullSl ops β r (i + 1)
def chD (D : Nat → Bool) (β : Nat → Nat × Value) : List Sp → Nat → List Ch
  | [], _ => []
  | s :: r, i => (bif D i then s.ch (β i) else s.ch0) ++ chD D β r (i + 1)
def all0 (l : List Sp) : List Ch := l.flatMap Sp.ch0
def allF (β : Nat → Nat × Value) : List Sp → Nat → List Ch
  | [], _ => []
  | s :: r, i => s.ch (β i) ++ allF β r (i + 1)
/-- each of the operations ahead -/
def StepsQ (P : Program) (n : Nat) (all : List Oper) (sl : Sl) (L : List Ch) (m : Nat) (sp : List Sp) : List Oper → List Sp → Nat → Prop
  | o :: r, s :: q, i => (match s with
      | .q c => AQ P n all.toArray o (depSl all m (sp.take i) i ++ sl) L c
      | .al ty z => o.op = .alloc ty ∧ TyZ P ty z ∧ o.guard = none ∧ dstOk n o.dst = true
      | .ap c0 c1 => o.guard = none ∧ dstOk n o.dst = true ∧ AOp P n o (depSl all m (sp.take i) i ++ sl) (c0 :: L) fun sl' L' => ∃ v, sl' = put (depSl all m (sp.take i) i ++ sl) o.dst (.v v) ∧ L' = c1 v :: L) ∧ StepsQ P n all sl L m sp r q (i + 1)
  | _, _, _ => True
theorem stepsQ_at {all : List Oper} {sl : Sl} {L : List Ch} {m : Nat} {sp : List Sp} : ∀ {r : List Oper} {q : List Sp} {i : Nat}, StepsQ P n all sl L m sp r q i → ∀ (k : Nat) (o : Oper) (s : Sp), r[k]? = some o → q[k]? = some s →
    match s with | .q c => AQ P n all.toArray o (depSl all m (sp.take (i + k)) (i + k) ++ sl) L c | .al ty z => o.op = .alloc ty ∧ TyZ P ty z ∧ o.guard = none ∧ dstOk n o.dst = true | .ap c0 c1 => o.guard = none ∧ dstOk n o.dst = true ∧ AOp P n o (depSl all m (sp.take (i + k)) (i + k) ++ sl) (c0 :: L) fun sl' L' => ∃ v, sl' = put (depSl all m (sp.take (i + k)) (i + k) ++ sl) o.dst (.v v) ∧ L' = c1 v :: L
  | [], _, _, _, k, o, s, h1, _ => by simp at h1
  | _ :: _, [], _, _, k, o, s, _, h2 => by simp at h2
  | x :: r, y :: q, i, h, k, o, s, h1, h2 => by
    cases k with
    | zero => simp at h1 h2; subst h1 h2; exact h.1
    | succ k => have := stepsQ_at h.2 k o s (by simpa using h1) (by simpa using h2); rwa [show i + 1 + k = i + (k + 1) by omega] at this

theorem look_append_in {a b : Sl} {t : Nat} : (∃ c, (t, c) ∈ a) → look (a ++ b) t = look a t := by
  induction a with
  | nil => rintro ⟨c, h⟩; cases h
  | cons p r ih =>
    obtain ⟨d, c⟩ := p
    rintro ⟨c', h⟩
    show (bif Nat.beq d t then c else look (r ++ b) t) = (bif Nat.beq d t then c else look r t)
    cases hb : Nat.beq d t with
    | true => rfl
    | false =>
      rcases List.mem_cons.1 h with h1 | h1
      · cases h1; simp at hb
      · exact ih ⟨c', h1⟩
theorem look_append_out {a b : Sl} {t : Nat} : (¬ ∃ c, (t, c) ∈ a) → look (a ++ b) t = look b t := by
  induction a with
  | nil => intro _; rfl
  | cons p r ih =>
    obtain ⟨d, c⟩ := p
    intro h
    show (bif Nat.beq d t then c else look (r ++ b) t) = look b t
    cases hb : Nat.beq d t with
    | true => have := Nat.eq_of_beq_eq_true hb; subst this; exact absurd ⟨c, by simp⟩ h
    | false => exact ih fun ⟨c', h1⟩ => h ⟨c', by simp [h1]⟩
theorem look_mem : ∀ (a : Sl) (t : Nat), (∃ c, (t, c) ∈ a) → (t, look a t) ∈ a
  | [], _, ⟨_, h⟩ => by cases h
  | (d, c) :: r, t, h => by
    show (t, bif Nat.beq d t then c else look r t) ∈ _
    cases hb : Nat.beq d t with
    | true => have := Nat.eq_of_beq_eq_true hb; subst this; simp
    | false =>
      obtain ⟨c', hc⟩ := h
      rcases List.mem_cons.1 hc with h1 | h1
      · cases h1; simp at hb
      · exact List.mem_cons_of_mem _ (look_mem r t ⟨c', h1⟩)

theorem chD_full (β : Nat → Nat × Value) : ∀ (sp : List Sp) (i : Nat), chD (fun _ => true) β sp i = allF β sp i
  | [], _ => rfl
  | s :: r, i => by simp [chD, allF, chD_full β r]
theorem chD_ext {D D' : Nat → Bool} (β : Nat → Nat × Value) : ∀ (sp : List Sp) (i : Nat), (∀ k, k < i + sp.length → D k = D' k) → chD D β sp i = chD D' β sp i
  | [], _, _ => rfl
  | s :: r, i, h => by simp only [chD]; rw [h i (by simp), chD_ext β r (i + 1) (fun k hk => h k (by simp; omega))]
theorem chD_none (β : Nat → Nat × Value) : ∀ (sp : List Sp) (i : Nat), chD (fun _ => false) β sp i = all0 sp
  | [], _ => rfl
  | s :: r, i => by rw [chD, chD_none β r]; simp [all0]
theorem chD_out {D : Nat → Bool} {β : Nat → Nat × Value} {i : Nat} (b : Nat × Value) : ∀ (sp : List Sp) (j : Nat), i < j → chD (fun k => D k || Nat.beq k i) (fun k => if k = i then b else β k) sp j = chD D β sp j
  | [], _, _ => rfl
  | x :: r, j, h => by
    have hb : Nat.beq j i = false := by cases hb : Nat.beq j i with | false => rfl | true => have := Nat.eq_of_beq_eq_true hb; omega
    simp only [chD]
    rw [hb, Bool.or_false, if_neg (by omega), chD_out b r (j + 1) (by omega)]
theorem chD_split {D : Nat → Bool} {β : Nat → Nat × Value} {i : Nat} {s : Sp} (hD : D i = false) : ∀ (sp : List Sp) (j : Nat), j ≤ i → sp[i - j]? = some s →
    ∃ R0 : List Ch, (chD D β sp j).Perm (s.ch0 ++ R0) ∧ ∀ b, (chD (fun k => D k || Nat.beq k i) (fun k => if k = i then b else β k) sp j).Perm (s.ch b ++ R0)
  | [], j, _, h => by simp at h
  | x :: r, j, hj, h => by
    by_cases e : j = i
    · subst e
      simp at h
      subst h
      refine ⟨chD D β r (j + 1), by simp [chD, hD], fun b => ?_⟩
      simp only [chD, hD, Nat.beq_refl, Bool.false_or, cond_true, if_true]
      rw [chD_out b r (j + 1) (by omega)]
    · have hb : Nat.beq j i = false := by cases hb : Nat.beq j i with | false => rfl | true => exact absurd (Nat.eq_of_beq_eq_true hb) e
      obtain ⟨R0, h1, h2⟩ := chD_split (D := D) (β := β) (i := i) (s := s) hD r (j + 1) (by omega) (by rw [show i - j = (i - (j + 1)) + 1 by omega] at h; simpa using h)
      have sw : ∀ (A B C : List Ch), (A ++ (B ++ C)).Perm (B ++ (A ++ C)) := fun A B C => by
        rw [← List.append_assoc, ← List.append_assoc]; exact List.Perm.append_right _ List.perm_append_comm
      refine ⟨(bif D j then x.ch (β j) else x.ch0) ++ R0, ?_, fun b => ?_⟩
      · rw [chD]; exact (List.Perm.append_left _ h1).trans (sw _ _ _)
      · rw [chD, hb, Bool.or_false, if_neg e]
        exact (List.Perm.append_left _ (h2 b)).trans (sw _ _ _)

theorem fullSl_mem {ops : List Oper} {β : Nat → Nat × Value} : ∀ (sp : List Sp) (j : Nat) (t : Nat) (c : V), (t, c) ∈ fullSl ops β sp j ↔ ∃ i s, sp[i]? = some s ∧ dstOf ops.toArray (j + i) = some t ∧ c = s.val (β (j + i))
  | [], j, t, c => by simp [fullSl]
  | s :: r, j, t, c => by
    simp only [fullSl, List.mem_append]
    rw [fullSl_mem r (j + 1) t c]
    constructor
    · rintro (h | ⟨i, s', h1, h2, h3⟩)
      · cases hd : dstOf ops.toArray j with
        | none => rw [hd] at h; cases h
        | some t' => rw [hd] at h; simp at h; obtain ⟨rfl, rfl⟩ := h; exact ⟨0, s, rfl, hd, rfl⟩
      · exact ⟨i + 1, s', by simpa using h1, by rwa [show j + (i + 1) = j + 1 + i by omega], by rwa [show j + (i + 1) = j + 1 + i by omega]⟩
    · rintro ⟨i, s', h1, h2, h3⟩
      cases i with
      | zero => simp at h1; subst h1; refine .inl ?_; rw [Nat.add_zero] at h2 h3; rw [h2]; simp [h3]
      | succ i => exact .inr ⟨i, s', by simpa using h1, by rwa [show j + 1 + i = j + (i + 1) by omega], by rwa [show j + 1 + i = j + (i + 1) by omega]⟩

/-- a region that draws its order -/
theorem aw_draw {ro : Option Nat} {id : Nat} {ops : List Oper} {sl : Sl} {L : List Ch} {Q : Exit → Sl → List Ch → Prop} (m : Nat) (sp : List Sp) (hl : sp.length = m) (hm : P.follows .mixedOrders = true) (hf : fit ops.toArray m = true) (hmn : Nat.ble m ops.length = true)
    (hq : StepsQ P n ops sl L m sp ops sp 0) (ht : ∀ β : Nat → Nat × Value, ∃ sl' L', Le n (fullSl ops β sp 0 ++ sl) (allF β sp 0 ++ L) sl' L' ∧ AOs P n ops.toArray (ops.drop m) sl' L' (Q .normal)) : AW P n ro (.region id ops.toArray true) sl (all0 sp ++ L) Q := fun w S a B hs hb Qr hQr => by
  subst hl
  have hmn := Nat.le_of_ble_eq_true hmn
  have dlt : ∀ {i t : Nat}, dstOf ops.toArray i = some t → i < ops.length := fun {i t} h => by
    unfold dstOf at h
    cases ho : ops.toArray[i]? with
    | none => rw [ho] at h; cases h
    | some o => have := (Array.getElem?_eq_some_iff.1 ho).1; simpa using this
  let Inv : (Nat → Bool) → Act → World → Prop := fun D a' w' => ∃ (β : Nat → Nat × Value) (S' : Nat → Prop), Hp w' S' (chD D β sp 0 ++ L) ∧ a'.tmps.size = n ∧ a'.defers = a.defers ∧ Fr w S (all0 sp ++ L) w' S' (chD D β sp 0 ++ L) ∧
    (∀ i s t, sp[i]? = some s → dstOf ops.toArray i = some t → D i = true → R w' S' (s.val (β i)) (a'.tmps.getD t undef)) ∧ (∀ t, (∀ i, i < sp.length → dstOf ops.toArray i ≠ some t) → R w' S' (look sl t) (a'.tmps.getD t undef))
  have hdrew : Hp { w with drawn := w.drawn + 1 } S (all0 sp ++ L) ∧ Fr w S (all0 sp ++ L) { w with drawn := w.drawn + 1 } S (all0 sp ++ L) ∧ Kept w S { w with drawn := w.drawn + 1 } S := by
    have hk : Kept w S { w with drawn := w.drawn + 1 } S := fun b hb _ => ⟨rfl, hb⟩
    exact ⟨⟨fun c hc => (hs.hp.ok c hc).move (fun _ _ => rfl) hk, hs.hp.ap, hs.hp.out, hs.hp.lt⟩, ⟨rfl, rfl, rfl, Nat.le_refl _, fun _ _ _ => rfl, fun _ h => h, fun _ h _ => .inl h, fun _ h _ => h⟩, hk⟩
  refine wp_region_inv hm sp.length hf (by simpa using hmn) Inv ?_ ?_ ?_ ?_
  · refine ⟨fun _ => (0, undef), S, by rw [chD_none]; exact hdrew.1, hs.size, rfl, by rw [chD_none]; exact hdrew.2.1, fun i s t _ _ h => (by cases h), fun t _ => (hs.sl t).move hdrew.2.2⟩
  · rintro D D' a' w' hDD ⟨β, S', h1, h2, h3, h4, h5, h6⟩
    have e := chD_ext (D := D) (D' := D') β sp 0 (fun k hk => hDD k (by omega))
    exact ⟨β, S', by rw [← e]; exact h1, h2, h3, by rw [← e]; exact h4, fun i s t q1 q2 q3 => h5 i s t q1 q2 (by rw [hDD i (List.getElem?_eq_some_iff.1 q1).1]; exact q3), h6⟩
  · rintro i D a' w' hi ⟨β, S', h1, h2, h3, h4, h5, h6⟩ hdeps hDi
    obtain ⟨o, ho⟩ : ∃ o, ops[i]? = some o := ⟨ops[i]'(by omega), by simp⟩
    obtain ⟨s, hsp⟩ : ∃ s, sp[i]? = some s := ⟨sp[i]'hi, by simp⟩
    have ho2 : ops.toArray[i]? = some o := by simpa using ho
    have hdst : dstOf ops.toArray i = o.dst := by simp [dstOf, ho]
    have hstep := stepsQ_at hq i o s ho hsp
    rw [Nat.zero_add] at hstep
    unfold wpOpIn
    simp only [ho2]
    -- the weaker state
    obtain ⟨R0, hR1, hR2⟩ := chD_split (D := D) (β := β) (i := i) (s := s) hDi sp 0 (Nat.zero_le _) (by simpa using hsp)
    have hfr0 : Hp w' S' ((s.ch0 ++ L) ++ R0) := h1.perm ((List.Perm.append_right L hR1).trans (by rw [List.append_assoc, List.append_assoc]; exact List.Perm.append_left _ List.perm_append_comm))
    have hinL : ∀ b, inL (s.ch0 ++ L) b → inL (chD D β sp 0 ++ L) b := fun b ⟨c, hc, hb⟩ => by
      rcases List.mem_append.1 hc with hc | hc
      · exact inL_append.2 (.inl ⟨c, hR1.mem_iff.2 (List.mem_append.2 (.inl hc)), hb⟩)
      · exact inL_append.2 (.inr ⟨c, hc, hb⟩)
    have hst : St n w' S' (depSl ops sp.length (sp.take i) i ++ sl) (s.ch0 ++ L) a' := by
      refine ⟨hfr0.left, h2, fun t => ?_, by rw [h3]; exact (hs.df.move h4).sub hinL⟩
      by_cases hex : ∃ c, (t, c) ∈ depSl ops sp.length (sp.take i) i
      · rw [look_append_in hex]
        have hmem := look_mem _ t hex
        generalize look (depSl ops sp.length (sp.take i) i) t = c at hmem
        rcases List.mem_append.1 hmem with hm1 | hm1
        · obtain ⟨d, hd1, hd2⟩ := List.mem_filterMap.1 hm1
          cases hsd : (sp.take i)[d]? with
          | none => rw [hsd] at hd2; cases hd2
          | some s' =>
            cases hdd : dstOf ops.toArray d with
            | none => rw [hsd, hdd] at hd2; cases s' <;> cases hd2
            | some t' =>
              rw [hsd, hdd] at hd2
              cases s' with
              | q c2 => simp at hd2; obtain ⟨rfl, rfl⟩ := hd2; exact h5 d (.q c2) _ (by rw [List.getElem?_take] at hsd; split at hsd; exact hsd; cases hsd) hdd (hdeps d hd1).2
              | al _ _ => cases hd2
              | ap _ _ => cases hd2
        · obtain ⟨d, _, hd2⟩ := List.mem_filterMap.1 hm1
          cases hdd : dstOf ops.toArray d with
          | none => rw [hdd] at hd2; cases hd2
          | some t' => rw [hdd] at hd2; cases hd2; exact .j _
      · rw [look_append_out hex]
        refine h6 t fun k hk hkt => hex ⟨.j, List.mem_append.2 (.inr (List.mem_filterMap.2 ⟨k, List.mem_range.2 hk, by rw [hkt]; rfl⟩))⟩
    have hne : ∀ {k t : Nat}, dstOf ops.toArray k = some t → k ≠ i → o.dst ≠ some t := fun {k t} hk hki e => hki (fit_dst hf hk (by rw [hdst]; exact e))
    have hput : ∀ {t : Nat} (v : Value), o.dst ≠ some t → (a'.put o.dst v).tmps.getD t undef = a'.tmps.getD t undef := fun {t} v ht => by
      cases hd : o.dst with
      | none => rfl
      | some d => simp [Act.put, Array.getElem?_setIfInBounds_ne (show d ≠ t by rintro rfl; exact ht hd)]
    -- what is done with the result
    have fin : ∀ (b : Nat × Value) (v : Value) (w2 : World) (S2 : Nat → Prop) (X : List Ch), (X.Perm (s.ch b ++ L)) → Hp w2 S2 X → Fr w' S' (s.ch0 ++ L) w2 S2 X → R w2 S2 (s.val b) ((a'.put o.dst v).tmps.getD (o.dst.getD 0) undef) ∨ o.dst = none → Inv (fun k => D k || Nat.beq k i) (a'.put o.dst v) w2 := by
      intro b v w2 S2 X hX hp2 hf2 hr
      obtain ⟨q1, q2⟩ := hfr0.frame (hp2.perm hX) (hf2.perm (.refl _) hX)
      have hk := q2.kept hfr0
      have hperm : ((s.ch b ++ L) ++ R0).Perm (chD (fun k => D k || Nat.beq k i) (fun k => if k = i then b else β k) sp 0 ++ L) := by
        refine List.Perm.trans ?_ (List.Perm.append_right L (hR2 b).symm)
        rw [List.append_assoc, List.append_assoc]
        exact List.Perm.append_left _ List.perm_append_comm
      have hperm0 : ((s.ch0 ++ L) ++ R0).Perm (chD D β sp 0 ++ L) := by
        refine List.Perm.trans ?_ (List.Perm.append_right L hR1.symm)
        rw [List.append_assoc, List.append_assoc]
        exact List.Perm.append_left _ List.perm_append_comm
      refine ⟨fun k => if k = i then b else β k, S2, q1.perm hperm, ?_, ?_, h4.trans (q2.perm hperm0 hperm), fun k s' t e1 e2 e3 => ?_, fun t ht => ?_⟩
      · cases o.dst <;> simp [Act.put, h2]
      · rw [put_defers, h3]
      · by_cases hki : k = i
        · subst hki
          rw [hsp] at e1; cases e1
          show R w2 S2 (s.val (if k = k then b else β k)) _
          rw [if_pos rfl]
          rw [hdst] at e2
          rcases hr with hr | hr
          · rw [e2] at hr; simp only [Option.getD_some] at hr; rw [e2]; exact hr
          · rw [e2] at hr; cases hr
        · have hb : Nat.beq k i = false := by cases hb : Nat.beq k i with | false => rfl | true => exact absurd (Nat.eq_of_beq_eq_true hb) hki
          simp only [hb, Bool.or_false] at e3
          show R w2 S2 (s'.val (if k = i then b else β k)) _
          rw [if_neg hki, hput v (hne e2 hki)]
          exact (h5 k s' t e1 e2 e3).move hk
      · rw [hput v (by rw [← hdst]; exact ht i hi)]
        exact (h6 t ht).move hk
    cases s with
    | al ty z =>
      obtain ⟨ha, hz, hg, hdk⟩ := hstep
      rw [if_pos (by simp [Region.wanted, hg])]
      refine AOp.wpIn (aop_alloc (hz := hz) (K := fun sl' L' => ∃ b, sl' = put (depSl ops sp.length (sp.take i) i ++ sl) o.dst (.ptr b 0) ∧ L' = .box b ty (zV z) :: L) ha hdk (fun b => ⟨b, rfl, rfl⟩)) ro hst _ Qr ?_
      rintro sl' L' S2 a2 w2 ⟨b, rfl, rfl⟩ hs2 hf2 ⟨v, rfl⟩
      refine fin (b, undef) v w2 S2 _ (.refl _) hs2.hp hf2 ?_
      cases hd : o.dst with
      | none => exact .inr rfl
      | some d =>
        refine .inl ?_
        have := hs2.sl d
        rw [hd] at this
        simpa [put, look, Sp.val] using this
    | ap c0 c1 =>
      obtain ⟨hg, hdk, hop⟩ := hstep
      rw [if_pos (by simp [Region.wanted, hg])]
      refine AOp.wpIn hop ro hst _ Qr ?_
      rintro sl' L' S2 a2 w2 ⟨u, rfl, rfl⟩ hs2 hf2 ⟨v, rfl⟩
      refine fin (0, u) v w2 S2 _ (.refl _) hs2.hp hf2 ?_
      cases hd : o.dst with
      | none => exact .inr rfl
      | some d =>
        refine .inl ?_
        have := hs2.sl d
        rw [hd] at this
        simpa [put, look, Sp.val] using this
    | q c =>
      have go : AOp P n o (depSl ops sp.length (sp.take i) i ++ sl) L (fun sl' L' => sl' = put (depSl ops sp.length (sp.take i) i ++ sl) o.dst c ∧ L' = L) → o.wpIn (fen ro) 0 P a' w' (Inv fun k => D k || Nat.beq k i) Qr := fun hop => by
        refine hop.wpIn ro hst _ Qr ?_
        rintro sl' L' S2 a2 w2 ⟨rfl, rfl⟩ hs2 hf2 ⟨v, rfl⟩
        refine fin (0, undef) v w2 S2 _ (.refl _) hs2.hp hf2 ?_
        cases hd : o.dst with
        | none => exact .inr rfl
        | some d =>
          refine .inl ?_
          have := hs2.sl d
          rw [hd] at this
          simpa [put, look, Sp.val] using this
      have skip : o.guard ≠ none → Region.wanted o (yielded ops.toArray a'.tmps) = false → dstOk n o.dst = true → c = .v undef → Inv (fun k => D k || Nat.beq k i) (a'.put o.dst undef) w' := fun _ _ hdk hc => by
        subst hc
        refine fin (0, undef) undef w' S' L (.refl _) hst.hp (.refl _ _ _) ?_
        cases hdd : o.dst with
        | none => exact .inr rfl
        | some d =>
          refine .inl ?_
          have := (hst.put hdk (c := .v undef) (v := undef) (.refl _ _ _) hst.hp (.v _)).sl d
          rw [hdd] at this
          simpa [put, look, Sp.val] using this
      rcases hstep with ⟨hg, hop⟩ | ⟨j, want, g, d, hg, hj, hd, h7⟩ | ⟨j, want, d, hg, hj, hd, hdk, hc⟩
      · rw [if_pos (by simp [Region.wanted, hg])]
        exact go hop
      · have hy := yielded_of hst hj hd
        rcases h7 with ⟨hgw, hop⟩ | ⟨hgw, hdk, rfl⟩
        · rw [if_pos (by simp [Region.wanted, hg, hy, hgw])]
          exact go hop
        · have hwn : Region.wanted o (yielded ops.toArray a'.tmps) = false := by simp [Region.wanted, hg, hy, hgw]
          rw [if_neg (by rw [hwn]; simp)]
          exact ⟨fun _ _ => trivial, skip (by rw [hg]; simp) hwn hdk rfl⟩
      · have hwn : Region.wanted o (yielded ops.toArray a'.tmps) = false := by simp [Region.wanted, hg, yielded_undef hst hj hd]
        rw [if_neg (by rw [hwn]; simp)]
        exact ⟨fun _ _ => trivial, skip (by rw [hg]; simp) hwn hdk hc⟩
  · rintro a' w' ⟨β, S', h1, h2, h3, h4, h5, h6⟩
    rw [chD_full] at h1 h4
    have hst : St n w' S' (fullSl ops β sp 0 ++ sl) (allF β sp 0 ++ L) a' := by
      refine ⟨h1, h2, fun t => ?_, by rw [h3]; exact hs.df.move h4⟩
      by_cases hex : ∃ c, (t, c) ∈ fullSl ops β sp 0
      · rw [look_append_in hex]
        have hmem := look_mem _ t hex
        obtain ⟨i, s, e1, e2, e3⟩ := (fullSl_mem sp 0 t _).1 hmem
        rw [Nat.zero_add] at e2 e3
        rw [e3]
        exact h5 i s t e1 e2 rfl
      · rw [look_append_out hex]
        refine h6 t fun k hk hkt => ?_
        obtain ⟨s, hsk⟩ : ∃ s, sp[k]? = some s := ⟨sp[k]'hk, by simp⟩
        exact hex ⟨_, (fullSl_mem sp 0 t _).2 ⟨k, s, hsk, by rw [Nat.zero_add]; exact hkt, rfl⟩⟩
    obtain ⟨sl3, L3, hle, hao⟩ := ht β
    obtain ⟨S3, hst3, hf3⟩ := hle w' S' a' hst
    have := AOs.sound ro (ops.drop sp.length) sp.length _ _ (by simp) hao w' S3 a' hst3 Qr fun sl2 L2 S2 a2 w2 k1 k2 k3 k4 => hQr _ _ _ _ _ _ k1 k2 ((h4.trans hf3).trans k3) (hb.same ((h4.trans hf3).trans k3) (k4.trans h3))
    rw [List.size_toArray]
    rwa [List.length_drop] at this


theorem AQ.weaken {all : Array Oper} {o : Oper} {slw sls : Sl} {L : List Ch} {c : V} (hle : ∀ t, look slw t = look sls t ∨ look slw t = .j) (h : AQ P n all o slw L c) (hd : dstOk n o.dst = true) : AQ P n all o sls L c := by
  have hst : ∀ {w : World} {S : Nat → Prop} {a : Act}, St n w S sls L a → St n w S slw L a := fun hs => ⟨hs.hp, hs.size, fun t => by
    rcases hle t with e | e
    · rw [e]; exact hs.sl t
    · rw [e]; exact .j _, hs.df⟩
  have go : (AOp P n o slw L fun sl' L' => sl' = put slw o.dst c ∧ L' = L) → AOp P n o sls L fun sl' L' => sl' = put sls o.dst c ∧ L' = L := fun hop w S a hs nx Qr hnx => by
    refine hop w S a (hst hs) nx Qr ?_
    rintro sl' L' S2 a2 w2 ⟨rfl, rfl⟩ hs2 hf2 ⟨v, rfl⟩
    refine hnx _ _ S2 _ w2 ⟨rfl, rfl⟩ ?_ hf2 ⟨v, rfl⟩
    cases hdd : o.dst with
    | none =>
      rw [hdd] at hs2
      exact ⟨hs2.hp, hs2.size, fun t => (hs.sl t).move (hf2.kept hs.hp), hs2.df⟩
    | some d =>
      have hr := hs2.sl d
      rw [hdd] at hr hd
      have hdn : d < n := by simpa [dstOk] using hd
      have hv : (a.put (some d) v).tmps.getD d undef = v := by simp [Act.put, hs.size, hdn]
      rw [hv] at hr
      have hr2 : R w2 S2 c v := by simpa [put, look] using hr
      exact hs.put hd hf2 hs2.hp hr2
  rcases h with ⟨hg, h⟩ | ⟨j, want, g, d, hg, hj, hl, h⟩ | ⟨j, want, d, hg, hj, hl, h⟩
  · exact .inl ⟨hg, go h⟩
  rotate_left
  · have hl2 : look sls d = .v undef := by
      rcases hle d with e | e
      · rw [← e]; exact hl
      · rw [e] at hl; cases hl
    exact .inr (.inr ⟨j, want, d, hg, hj, hl2, h⟩)
  · have hl2 : look sls d = .b g := by
      rcases hle d with e | e
      · rw [← e]; exact hl
      · rw [e] at hl; cases hl
    exact .inr (.inl ⟨j, want, g, d, hg, hj, hl2, h.imp (fun ⟨a, b⟩ => ⟨a, go b⟩) id⟩)

theorem AOp.weakenS {o : Oper} {slw sls : Sl} {L0 : List Ch} {W : V → List Ch → Prop} (hle : ∀ t, look slw t = look sls t ∨ look slw t = .j) (hop : AOp P n o slw L0 fun sl' L' => ∃ c, sl' = put slw o.dst c ∧ W c L') (hd : dstOk n o.dst = true) : AOp P n o sls L0 fun sl' L' => ∃ c, sl' = put sls o.dst c ∧ W c L' := fun w S a hs nx Qr hnx => by
  have hst : St n w S slw L0 a := ⟨hs.hp, hs.size, fun t => by
    rcases hle t with e | e
    · rw [e]; exact hs.sl t
    · rw [e]; exact .j _, hs.df⟩
  refine hop w S a hst nx Qr ?_
  rintro sl' L' S2 a2 w2 ⟨c, rfl, hW⟩ hs2 hf2 ⟨v, rfl⟩
  refine hnx _ _ S2 _ w2 ⟨c, rfl, hW⟩ ?_ hf2 ⟨v, rfl⟩
  cases hdd : o.dst with
  | none =>
    rw [hdd] at hs2
    exact ⟨hs2.hp, hs2.size, fun t => (hs.sl t).move (hf2.kept hs.hp), hs2.df⟩
  | some d =>
    have hr := hs2.sl d
    rw [hdd] at hr hd
    have hdn : d < n := by simpa [dstOk] using hd
    have hv : (a.put (some d) v).tmps.getD d undef = v := by simp [Act.put, hs.size, hdn]
    rw [hv] at hr
    have hr2 : R w2 S2 c v := by simpa [put, look] using hr
    exact hs.put hd hf2 hs2.hp hr2
/-- what is known of the operations so far: slot, number, what it does -/
abbrev Pre := List (Nat × Nat × Sp)
def gsl (β : Nat → Nat × Value) : Pre → Sl
  | [] => []
  | (t, i, s) :: r => (t, s.val (β i)) :: gsl β r
def gch (β : Nat → Nat × Value) : Pre → List Ch
  | [] => []
  | (_, i, s) :: r => s.ch (β i) ++ gch β r
def gch0 : Pre → List Ch
  | [] => []
  | (_, _, s) :: r => s.ch0 ++ gch0 r
def selS (pre : Pre) : List Nat → Sl
  | [] => []
  | t :: r => (t, look (gsl (fun _ => (0, undef)) pre) t) :: selS pre r
def junk : List Nat → Sl
  | [] => []
  | t :: r => (t, .j) :: junk r
def isAl : Op → Bool
  | .alloc _ => true
  | .call { callee := .builtin .append, args := _, argTypes := _ } => true
  | _ => false
/-- the slots are those of operations that this one leans on -/
def tsOk (ops : List Oper) (i : Nat) (ts : List Nat) : Bool := ts.all fun t => (depsOf ops.toArray i).any fun d => (dstOf ops.toArray d == some t) && !((ops[d]?).map (fun o => isAl o.op)).getD true
def junkOk (ops : List Oper) (m : Nat) (ts : List Nat) : Bool := (List.range m).all fun i => match dstOf ops.toArray i with | some t => ts.contains t | none => true
def DrawH (P : Program) (n : Nat) (all : List Oper) (sl : Sl) (As L : List Ch) (K : Sl → List Ch → Prop) (m : Nat) (js : List Nat) : Nat → List Oper → Pre → Prop
  | _, [], pre => As.Perm (gch0 pre) ∧ ∀ β : Nat → Nat × Value, AOs P n all.toArray (all.drop m) (gsl β pre ++ sl) (gch β pre ++ L) K
  | i, o :: r, pre => (∃ c ts t, o.dst = some t ∧ isAl o.op = false ∧ dstOk n o.dst = true ∧ tsOk all i ts = true ∧ AQ P n all.toArray o (selS pre ts ++ (junk js ++ sl)) L c ∧ DrawH P n all sl As L K m js (i + 1) r ((t, i, .q c) :: pre)) ∨
      (∃ ty z t, o.dst = some t ∧ (o.op = .alloc ty ∧ TyZ P ty z ∧ o.guard = none ∧ dstOk n o.dst = true) ∧ DrawH P n all sl As L K m js (i + 1) r ((t, i, .al ty z) :: pre)) ∨
      (∃ c0 c1 ts t, o.dst = some t ∧ isAl o.op = true ∧ o.guard = none ∧ dstOk n o.dst = true ∧ tsOk all i ts = true ∧ (AOp P n o (selS pre ts ++ (junk js ++ sl)) (c0 :: L) fun sl' L' => ∃ c, sl' = put (selS pre ts ++ (junk js ++ sl)) o.dst c ∧ ∃ v, c = .v v ∧ L' = c1 v :: L) ∧ DrawH P n all sl As L K m js (i + 1) r ((t, i, .ap c0 c1) :: pre))

theorem gsl_mem {β : Nat → Nat × Value} : ∀ {pre : Pre} {t : Nat} {c : V}, (t, c) ∈ gsl β pre ↔ ∃ i s, (t, i, s) ∈ pre ∧ c = s.val (β i)
  | [], t, c => by simp [gsl]
  | (t', i', s') :: r, t, c => by
    simp only [gsl, List.mem_cons, gsl_mem (pre := r)]
    constructor
    · rintro (h | ⟨i, s, h1, h2⟩)
      · cases h; exact ⟨i', s', .inl rfl, rfl⟩
      · exact ⟨i, s, .inr h1, h2⟩
    · rintro ⟨i, s, h | h, h2⟩
      · cases h; exact .inl (by rw [h2])
      · exact .inr ⟨i, s, h, h2⟩
theorem look_junk_in (js : List Nat) (sl : Sl) (t : Nat) (h : t ∈ js) : look (junk js ++ sl) t = .j := by
  induction js with
  | nil => cases h
  | cons x r ih =>
    show (bif Nat.beq x t then .j else look (junk r ++ sl) t) = .j
    cases hb : Nat.beq x t with
    | true => rfl
    | false => rcases List.mem_cons.1 h with rfl | h; · simp at hb
               exact ih h
theorem look_junk_out (js : List Nat) (sl : Sl) (t : Nat) (h : t ∉ js) : look (junk js ++ sl) t = look sl t := by
  induction js with
  | nil => rfl
  | cons x r ih =>
    show (bif Nat.beq x t then .j else look (junk r ++ sl) t) = _
    cases hb : Nat.beq x t with
    | true => have := Nat.eq_of_beq_eq_true hb; subst this; simp at h
    | false => exact ih fun hh => h (by simp [hh])
theorem look_sel (pre : Pre) (b : Sl) (t : Nat) : ∀ ts : List Nat, look (selS pre ts ++ b) t = if t ∈ ts then look (gsl (fun _ => (0, undef)) pre) t else look b t
  | [] => by simp [selS]
  | x :: r => by
    show (bif Nat.beq x t then _ else look (selS pre r ++ b) t) = _
    cases hb : Nat.beq x t with
    | true => have := Nat.eq_of_beq_eq_true hb; subst this; simp
    | false =>
      have hne : t ≠ x := by rintro rfl; simp at hb
      rw [cond_false, look_sel pre b t r]
      by_cases h : t ∈ r
      · rw [if_pos h, if_pos (by simp [h])]
      · rw [if_neg h, if_neg (by simp [h, hne])]

theorem allF_append (β : Nat → Nat × Value) : ∀ (a b : List Sp) (i : Nat), allF β (a ++ b) i = allF β a i ++ allF β b (i + a.length)
  | [], b, i => by simp [allF]
  | s :: a, b, i => by
    simp only [List.cons_append, allF, List.length_cons, List.append_assoc]
    rw [allF_append β a b (i + 1), show i + 1 + a.length = i + (a.length + 1) by omega]

theorem drawH_steps {all : List Oper} {sl : Sl} {As L : List Ch} {K : Sl → List Ch → Prop} {m : Nat} {js : List Nat} (hf : fit all.toArray m = true) (hj : junkOk all m js = true) (hmn : m ≤ all.length) : ∀ (r : List Oper) (i : Nat) (pre : Pre) (sp : List Sp), sp.length = i → i + r.length = m → (∀ k o, r[k]? = some o → all[i + k]? = some o) →
    (∀ t j s, (t, j, s) ∈ pre ↔ sp[j]? = some s ∧ dstOf all.toArray j = some t) → (∀ (j : Nat) (s : Sp), sp[j]? = some s → ∀ o : Oper, all[j]? = some o → isAl o.op = (match s with | .q _ => false | _ => true)) → (∀ β, (gch β pre).Perm (allF β sp 0)) → (gch0 pre).Perm (all0 sp) → DrawH P n all sl As L K m js i r pre →
    ∃ q : List Sp, q.length = r.length ∧ As.Perm (all0 (sp ++ q)) ∧ StepsQ P n all sl L m (sp ++ q) r q i ∧ ∀ β : Nat → Nat × Value, ∃ sl' L', Le n (fullSl all β (sp ++ q) 0 ++ sl) (allF β (sp ++ q) 0 ++ L) sl' L' ∧ AOs P n all.toArray (all.drop m) sl' L' K
  | [], i, pre, sp, hi, hm, _, hpre, _, hch, hch0, h => by
    refine ⟨[], rfl, by rw [List.append_nil]; exact h.1.trans hch0, trivial, fun β => ⟨_, _, ?_, h.2 β⟩⟩
    rw [List.append_nil]
    have e : ∀ t, look (gsl β pre ++ sl) t = look (fullSl all β sp 0 ++ sl) t := fun t => by
      have h1 : ∀ c, (t, c) ∈ gsl β pre ↔ (t, c) ∈ fullSl all β sp 0 := fun c => by
        rw [gsl_mem, fullSl_mem]
        constructor
        · rintro ⟨j, s, h1, h2⟩
          obtain ⟨h3, h4⟩ := (hpre t j s).1 h1
          exact ⟨j, s, h3, by rw [Nat.zero_add]; exact h4, by rw [Nat.zero_add]; exact h2⟩
        · rintro ⟨j, s, h1, h2, h3⟩
          rw [Nat.zero_add] at h2 h3
          exact ⟨j, s, (hpre t j s).2 ⟨h1, h2⟩, h3⟩
      by_cases hex : ∃ c, (t, c) ∈ gsl β pre
      · have hex2 : ∃ c, (t, c) ∈ fullSl all β sp 0 := by obtain ⟨c, hc⟩ := hex; exact ⟨c, (h1 c).1 hc⟩
        rw [look_append_in hex, look_append_in hex2]
        have m1 := (h1 _).1 (look_mem _ t hex)
        have m2 := look_mem _ t hex2
        obtain ⟨j1, s1, a1, a2, a3⟩ := (fullSl_mem sp 0 t _).1 m1
        obtain ⟨j2, s2, b1, b2, b3⟩ := (fullSl_mem sp 0 t _).1 m2
        rw [Nat.zero_add] at a2 a3 b2 b3
        have := fit_dst hf a2 b2
        subst this
        rw [a1] at b1; cases b1
        rw [a3, b3]
      · rw [look_append_out hex, look_append_out fun ⟨c, hc⟩ => hex ⟨c, (h1 c).2 hc⟩]
    intro w S a hs
    refine ⟨S, ⟨hs.hp.perm (List.Perm.append_right L (hch β).symm), hs.size, fun t => by rw [e]; exact hs.sl t, hs.df.move ((Fr.refl w S _).perm (.refl _) (List.Perm.append_right L (hch β).symm))⟩, (Fr.refl w S _).perm (.refl _) (List.Perm.append_right L (hch β).symm)⟩
  | o :: r, i, pre, sp, hi, hm, hall, hpre, hal, hch, hch0, h => by
    have hoi : all[i]? = some o := by simpa using hall 0 o rfl
    have hdst : dstOf all.toArray i = o.dst := by simp [dstOf, hoi]
    have next : ∀ (s : Sp) (t : Nat), o.dst = some t → isAl o.op = (match s with | .q _ => false | _ => true) → DrawH P n all sl As L K m js (i + 1) r ((t, i, s) :: pre) → (match s with
      | .q c => AQ P n all.toArray o (depSl all m sp i ++ sl) L c
      | .al ty z => o.op = .alloc ty ∧ TyZ P ty z ∧ o.guard = none ∧ dstOk n o.dst = true
      | .ap c0 c1 => o.guard = none ∧ dstOk n o.dst = true ∧ AOp P n o (depSl all m sp i ++ sl) (c0 :: L) fun sl' L' => ∃ v, sl' = put (depSl all m sp i ++ sl) o.dst (.v v) ∧ L' = c1 v :: L) →
      ∃ q : List Sp, q.length = (o :: r).length ∧ As.Perm (all0 (sp ++ q)) ∧ StepsQ P n all sl L m (sp ++ q) (o :: r) q i ∧ ∀ β : Nat → Nat × Value, ∃ sl' L', Le n (fullSl all β (sp ++ q) 0 ++ sl) (allF β (sp ++ q) 0 ++ L) sl' L' ∧ AOs P n all.toArray (all.drop m) sl' L' K := by
      intro s t ht hsa hd hs
      obtain ⟨q, a1, a0, a2, a3⟩ := drawH_steps hf hj hmn r (i + 1) ((t, i, s) :: pre) (sp ++ [s]) (by simp [hi]) (by simp at hm; omega) (fun k o' hk => by have := hall (k + 1) o' (by simpa using hk); rwa [show i + (k + 1) = i + 1 + k by omega] at this) (fun t' j s' => by
        simp only [List.mem_cons, Prod.mk.injEq, hpre]
        constructor
        · rintro (⟨rfl, rfl, rfl⟩ | ⟨h1, h2⟩)
          · exact ⟨by rw [List.getElem?_append_right (by omega)]; simp [hi], by rw [hdst]; exact ht⟩
          · exact ⟨by rw [List.getElem?_append_left (List.getElem?_eq_some_iff.1 h1).1]; exact h1, h2⟩
        · rintro ⟨h1, h2⟩
          by_cases hji : j < sp.length
          · rw [List.getElem?_append_left hji] at h1; exact .inr ⟨h1, h2⟩
          · rw [List.getElem?_append_right (by omega)] at h1
            have hj0 : j = i := by
              have := (List.getElem?_eq_some_iff.1 h1).1
              simp at this; omega
            subst hj0
            rw [hdst, ht] at h2
            simp [hi] at h1
            cases h2
            exact .inl ⟨rfl, rfl, h1.symm⟩) (fun j s' h1 o' ho' => by
        by_cases hji : j < sp.length
        · rw [List.getElem?_append_left hji] at h1; exact hal j s' h1 o' ho'
        · rw [List.getElem?_append_right (by omega)] at h1
          have hj0 : j = i := by
            have := (List.getElem?_eq_some_iff.1 h1).1
            simp at this; omega
          subst hj0
          rw [hoi] at ho'; cases ho'
          simp [hi] at h1
          subst h1
          exact hsa) (fun β => by
        rw [allF_append]
        simp only [gch, allF, List.append_nil, hi, Nat.zero_add]
        exact (List.Perm.append_left _ (hch β)).trans List.perm_append_comm) (by
        simp only [gch0, all0, List.flatMap_append, List.flatMap_cons, List.flatMap_nil, List.append_nil]
        exact (List.Perm.append_left _ hch0).trans List.perm_append_comm) hd
      rw [List.append_assoc] at a0 a2 a3
      refine ⟨s :: q, by simp [a1], a0, ⟨?_, a2⟩, a3⟩
      cases s with
      | q c =>
        show AQ P n all.toArray o (depSl all m ((sp ++ .q c :: q).take i) i ++ sl) L c
        rw [← hi, List.take_left, hi]; exact hs
      | al ty z => exact hs
      | ap c0 c1 =>
        obtain ⟨h1, h2, h3⟩ := hs
        refine ⟨h1, h2, ?_⟩
        rw [← hi, List.take_left, hi]; exact h3
    have hlook : ∀ ts : List Nat, tsOk all i ts = true → ∀ x, look (selS pre ts ++ (junk js ++ sl)) x = look (depSl all m sp i ++ sl) x ∨ look (selS pre ts ++ (junk js ++ sl)) x = .j := fun ts hts x => by
      rw [look_sel]
      by_cases hx : x ∈ ts
      · rw [if_pos hx]
        left
        have h1 := List.all_eq_true.1 hts x hx
        simp only [List.any_eq_true, Bool.and_eq_true, beq_iff_eq] at h1
        obtain ⟨d, hdi, hdd, hdal⟩ := h1
        have hdlt : d < i := fit_dep hf (by have := (List.getElem?_eq_some_iff.1 hoi).1; simpa using this) hdi
        obtain ⟨s, hs⟩ : ∃ s, sp[d]? = some s := ⟨sp[d]'(by omega), by simp⟩
        obtain ⟨od, hod⟩ : ∃ od, all[d]? = some od := ⟨all[d]'(by omega), by simp⟩
        have hsa := hal d s hs od hod
        simp only [hod, Option.map_some, Option.getD_some, Bool.not_eq_true'] at hdal
        rw [hdal] at hsa
        cases s with
        | al _ _ => cases hsa
        | ap _ _ => cases hsa
        | q cd =>
          have hmem : (x, cd) ∈ depSl all m sp i := List.mem_append.2 (.inl (List.mem_filterMap.2 ⟨d, hdi, by rw [hs, hdd]⟩))
          have hmem2 : (x, cd) ∈ gsl (fun _ => (0, undef)) pre := gsl_mem.2 ⟨d, .q cd, (hpre x d _).2 ⟨hs, hdd⟩, rfl⟩
          have l1 : look (gsl (fun _ => (0, undef)) pre) x = cd := by
            obtain ⟨j, s', h1, h2⟩ := gsl_mem.1 (look_mem _ x ⟨cd, hmem2⟩)
            obtain ⟨h3, h4⟩ := (hpre x j s').1 h1
            have := fit_dst hf hdd h4
            subst this
            rw [hs] at h3; cases h3
            exact h2
          have hfil : ∀ d', d' ∈ depsOf all.toArray i → ∀ c', (match sp[d']?, dstOf all.toArray d' with | some (Sp.q c), some t => some (t, c) | _, _ => none) = some (x, c') → c' = cd := fun d' _ c' h => by
            cases hs' : sp[d']? with
            | none => rw [hs'] at h; cases h
            | some s' =>
              cases hd' : dstOf all.toArray d' with
              | none => rw [hs', hd'] at h; cases s' <;> cases h
              | some t' =>
                rw [hs', hd'] at h
                cases s' with
                | al _ _ => cases h
                | ap _ _ => cases h
                | q c2 =>
                  simp at h
                  obtain ⟨rfl, rfl⟩ := h
                  have := fit_dst hf hdd hd'
                  subst this
                  rw [hs] at hs'; cases hs'; rfl
          rw [l1, look_append_in ⟨cd, hmem⟩]
          -- the first entry of x is one of the deps
          unfold depSl
          have hin : ∃ c, (x, c) ∈ ((depsOf all.toArray i).filterMap fun d => match sp[d]?, dstOf all.toArray d with | some (Sp.q c), some t => some (t, c) | _, _ => none) := ⟨cd, List.mem_filterMap.2 ⟨d, hdi, by rw [hs, hdd]⟩⟩
          rw [look_append_in hin]
          obtain ⟨d', hd1, hd2⟩ := List.mem_filterMap.1 (look_mem _ x hin)
          exact (hfil d' hd1 _ hd2).symm
      · rw [if_neg hx]
        by_cases hxj : x ∈ js
        · right; exact look_junk_in js sl x hxj
        · left
          rw [look_junk_out js sl x hxj]
          refine (look_append_out ?_).symm
          rintro ⟨c', hc⟩
          apply hxj
          have key : ∀ d', d' < m → dstOf all.toArray d' = some x → x ∈ js := fun d' hd' hdx => by
            have h1 := List.all_eq_true.1 hj d' (List.mem_range.2 hd')
            rw [hdx] at h1
            simpa using h1
          rcases List.mem_append.1 hc with h1 | h1
          · obtain ⟨d', hd1, hd2⟩ := List.mem_filterMap.1 h1
            have hlt := fit_dep hf (by have := (List.getElem?_eq_some_iff.1 hoi).1; simpa using this) hd1
            cases hs' : sp[d']? with
            | none => rw [hs'] at hd2; cases hd2
            | some s' =>
              cases hd' : dstOf all.toArray d' with
              | none => rw [hs', hd'] at hd2; cases s' <;> cases hd2
              | some t' =>
                rw [hs', hd'] at hd2
                cases s' with
                | al _ _ => cases hd2
                | ap _ _ => cases hd2
                | q c2 => simp at hd2; obtain ⟨rfl, _⟩ := hd2; exact key d' (by simp at hm; omega) hd'
          · obtain ⟨d', hd1, hd2⟩ := List.mem_filterMap.1 h1
            cases hd' : dstOf all.toArray d' with
            | none => rw [hd'] at hd2; cases hd2
            | some t' => rw [hd'] at hd2; cases hd2; exact key d' (List.mem_range.1 hd1) hd'
    rcases h with ⟨c, ts, t, ht, hna, hdk, hts, hq, hd⟩ | ⟨ty, z, t, ht, hz, hd⟩ | ⟨c0, c1, ts, t, ht, hia, hg, hdk, hts, hop, hd⟩
    · exact next (.q c) t ht hna hd (AQ.weaken (hlook ts hts) hq hdk)
    · exact next (.al ty z) t ht (by rw [hz.1]; rfl) hd hz
    · refine next (.ap c0 c1) t ht hia hd ⟨hg, hdk, ?_⟩
      have h1 := AOp.weakenS (W := fun c L' => ∃ v, c = .v v ∧ L' = c1 v :: L) (hlook ts hts) hop hdk
      intro w S a hs nx Qr hnx
      refine h1 w S a hs nx Qr ?_
      rintro sl' L' S2 a2 w2 ⟨c, rfl, v, rfl, rfl⟩ k1 k2 k3
      exact hnx _ _ S2 a2 w2 ⟨v, rfl, rfl⟩ k1 k2 k3
theorem stepsQ_take {all : List Oper} {sl : Sl} {L : List Ch} {m : Nat} {sp : List Sp} : ∀ (r : List Oper) (q : List Sp) (i k : Nat), q.length = k → StepsQ P n all sl L m sp (r.take k) q i → StepsQ P n all sl L m sp r q i
  | [], q, i, k, _, h => by simpa using h
  | o :: r, [], i, k, _, _ => trivial
  | o :: r, s :: q, i, k, hk, h => by
    cases k with
    | zero => simp at hk
    | succ k => exact ⟨h.1, stepsQ_take r q (i + 1) k (by simpa using hk) h.2⟩
theorem aw_drawA {ro : Option Nat} {id : Nat} {ops : List Oper} {sl : Sl} {L As L0 : List Ch} {Q : Exit → Sl → List Ch → Prop} (hL : L.Perm (As ++ L0)) (m : Nat) (js : List Nat) (hm : P.follows .mixedOrders = true) (hf : fit ops.toArray m = true) (hmn : Nat.ble m ops.length = true) (hj : junkOk ops m js = true)
    (h : DrawH P n ops sl As L0 (Q .normal) m js 0 (ops.take m) []) : AW P n ro (.region id ops.toArray true) sl L Q := by
  have hml := Nat.le_of_ble_eq_true hmn
  obtain ⟨q, a1, a0, a2, a3⟩ := drawH_steps hf hj hml (ops.take m) 0 [] [] rfl (by rw [List.length_take]; omega) (fun k o hk => by
    rw [List.getElem?_take] at hk
    split at hk
    · rw [Nat.zero_add]; exact hk
    · cases hk) (fun t j s => by simp) (fun j s h => by simp at h) (fun β => by simp [gch, allF]) (by simp [gch0, all0]) h
  have hq : q.length = m := by rw [a1, List.length_take]; omega
  rw [List.nil_append] at a0 a2 a3
  exact aw_le (.perm (hL.trans (List.Perm.append_right L0 a0))) (aw_draw m q hq hm hf hmn (stepsQ_take _ _ _ m hq a2) a3)
theorem aw_drawH {ro : Option Nat} {id : Nat} {ops : List Oper} {sl : Sl} {L : List Ch} {Q : Exit → Sl → List Ch → Prop} (m : Nat) (js : List Nat) (hm : P.follows .mixedOrders = true) (hf : fit ops.toArray m = true) (hmn : Nat.ble m ops.length = true) (hj : junkOk ops m js = true)
    (h : DrawH P n ops sl [] L (Q .normal) m js 0 (ops.take m) []) : AW P n ro (.region id ops.toArray true) sl L Q := aw_drawA (.refl _) m js hm hf hmn hj h
theorem drawh_take {all : List Oper} {sl : Sl} {As L : List Ch} {K : Sl → List Ch → Prop} {m : Nat} {js : List Nat} {i : Nat} {r r' : List Oper} {pre : Pre} (h : r = r') (h2 : DrawH P n all sl As L K m js i r' pre) : DrawH P n all sl As L K m js i r pre := h ▸ h2
section
variable {all : List Oper} {sl : Sl} {As L : List Ch} {K : Sl → List Ch → Prop} {m : Nat} {js : List Nat} {i : Nat} {o : Oper} {r : List Oper} {pre : Pre}
theorem drawh_q (ts : List Nat) {c : V} {t : Nat} (ht : o.dst = some t) (ha : isAl o.op = false) (hd : dstOk n o.dst = true) (hts : tsOk all i ts = true) (h : AQ P n all.toArray o (selS pre ts ++ (junk js ++ sl)) L c) (h2 : DrawH P n all sl As L K m js (i + 1) r ((t, i, .q c) :: pre)) : DrawH P n all sl As L K m js i (o :: r) pre := .inl ⟨c, ts, t, ht, ha, hd, hts, h, h2⟩
theorem drawh_al {ty : TypeId} {z : List Value} {t : Nat} [hz : TyZ P ty z] (ho : o.op = .alloc ty) (ht : o.dst = some t) (hg : o.guard = none) (hd : dstOk n o.dst = true) (h2 : DrawH P n all sl As L K m js (i + 1) r ((t, i, .al ty z) :: pre)) : DrawH P n all sl As L K m js i (o :: r) pre := .inr (.inl ⟨ty, z, t, ht, ⟨ho, hz, hg, hd⟩, h2⟩)
theorem drawh_ap (ts : List Nat) {t : Nat} (c0 : Ch) (c1 : Value → Ch) (ht : o.dst = some t) (ha : isAl o.op = true) (hg : o.guard = none) (hd : dstOk n o.dst = true) (hts : tsOk all i ts = true) (h : AOp P n o (selS pre ts ++ (junk js ++ sl)) (c0 :: L) fun sl' L' => ∃ c, sl' = put (selS pre ts ++ (junk js ++ sl)) o.dst c ∧ ∃ v, c = .v v ∧ L' = c1 v :: L) (h2 : DrawH P n all sl As L K m js (i + 1) r ((t, i, .ap c0 c1) :: pre)) : DrawH P n all sl As L K m js i (o :: r) pre := .inr (.inr ⟨c0, c1, ts, t, ht, ha, hg, hd, hts, h, h2⟩)
theorem drawh_nil (h0 : As.Perm (gch0 pre)) (h : ∀ β : Nat → Nat × Value, AOs P n all.toArray (all.drop m) (gsl β pre ++ sl) (gch β pre ++ L) K) : DrawH P n all sl As L K m js i [] pre := ⟨h0, h⟩
end
end Go.Proofs.Ytlagablcopmhkaa
/- Walking with descriptions: a range over a function. -/
namespace Go.Proofs.Ytlagablcopmhkaa
open Go.RowKit
variable {P : Program} {n : Nat}


theorem Le.eqs' {sl sl' : Sl} {L L' : List Ch} (h : sl'.map (fun p => look sl p.1) = sl'.map (·.2)) (hL : L = L') : Le n sl L sl' L' := hL ▸ .eqs h
theorem aw_meet {ro : Option Nat} {ι : Type} {x y : Code} {sl : Sl} {L : List Ch} {Q1 Q2 : Exit → Sl → List Ch → Prop} (Sf : ι → Sl) (Hf : ι → List Ch) (p : ι → Prop) (h1 : AW P n ro x sl L (thenQ (fun sl1 L1 => ∃ i, p i ∧ Le n sl1 L1 (Sf i) (Hf i)) Q1)) (h2 : ∀ i, p i → AW P n ro y (Sf i) (Hf i) Q2) :
    AW P n ro x sl L (thenQ (fun sl' L' => AW P n ro y sl' L' Q2) Q1) :=
  aw_mono h1 fun ex sl1 L1 h => by
    cases ex with
    | normal => obtain ⟨i, a1, a2⟩ := h; exact aw_le a2 (h2 i a1)
    | _ => exact h
/-- how a round may end -/
def rndQ (I : List Ch → Prop) (X : Code → List Ch → Prop) : Exit → Sl → List Ch → Prop
  | .normal, _, O => I O
  | .ret, _, O => X .ret O
  | .exit id, _, O => X (.exit id) O
  | _, _, _ => False
/-- the slots of a round -/
def rndSl (sl : Sl) (l : List (Nat × Value)) : Sl := l.foldl (fun s p => (p.1, V.v p.2) :: s) sl
theorem rndSl_ok {w : World} {S : Nat → Prop} : ∀ (l : List (Nat × Value)) (sl : Sl) (t : Array Value), t.size = n → (l.all fun p => Nat.blt p.1 n) = true → (∀ x, R w S (look sl x) (t.getD x undef)) →
    (l.foldl (fun t p => t.setIfInBounds p.1 p.2) t).size = n ∧ ∀ x, R w S (look (rndSl sl l) x) ((l.foldl (fun t p => t.setIfInBounds p.1 p.2) t).getD x undef)
  | [], sl, t, h1, _, h3 => ⟨h1, h3⟩
  | (p, v) :: l, sl, t, h1, h2, h3 => by
    simp only [List.all_cons, Bool.and_eq_true] at h2
    have hp : p < n := by simpa using h2.1
    refine rndSl_ok l ((p, V.v v) :: sl) (t.setIfInBounds p v) (by simpa using h1) h2.2 fun x => ?_
    show R w S (bif Nat.beq p x then V.v v else look sl x) _
    by_cases e : p = x
    · subst e
      have : (t.setIfInBounds p v).getD p undef = v := by simp [h1, hp]
      rw [this]; simpa using R.v v
    · have hb : Nat.beq p x = false := by cases hb : Nat.beq p x with | false => rfl | true => exact absurd (Nat.eq_of_beq_eq_true hb) e
      have h4 : (t.setIfInBounds p v).getD x undef = t.getD x undef := by simp [Array.getElem?_setIfInBounds_ne e]
      rw [hb, h4]; exact h3 x

/-- what stands between the rounds -/
structure Rnd (w : World) (S : Nat → Prop) (L C O : List Ch) (Rel : Nat → Prop) (J : List Ch → Prop) (G : Nat → Prop) (W : World) : Prop where
  ex : ∃ (S' : Nat → Prop) (O' : List Ch), J O' ∧ Hp W S' (C ++ O') ∧ Fr w S L W S' (C ++ O') ∧ (∀ b, S' b → w.heap.size ≤ b → G b) ∧ (∀ b, inL O' b → G b)
  g : ∀ b, G b → b < W.heap.size ∧ ¬ Rel b ∧ ¬ inL C b ∧ (w.heap.size ≤ b ∨ inL O b)
theorem Rnd.keep {w : World} {S : Nat → Prop} {L C O : List Ch} {Rel : Nat → Prop} {J : List Ch → Prop} {G : Nat → Prop} {W W' : World} (hC : ∀ b, inL C b → b < w.heap.size) (h : Rnd w S L C O Rel J G W) {B : Nat} (hB : w.heap.size ≤ B) (hk : Keeps B G W W') : Rnd w S L C O Rel J G W' := by
  obtain ⟨⟨S', O', h1, h2, h3, h4, h5⟩, hg⟩ := h
  have hS : ∀ b, S' b → W'.heap[b]? = W.heap[b]? := fun b hb => hk.same b (h2.lt b hb) (by
    rcases Nat.lt_or_ge b w.heap.size with h | h
    · exact .inl (by omega)
    · exact .inr (h4 b hb h))
  have hCO : ∀ b, inL (C ++ O') b → W'.heap[b]? = W.heap[b]? := fun b hb => hk.same b (h2.blt hb) (by
    rcases inL_append.1 hb with h | h
    · have := hC b h; exact .inl (by omega)
    · exact .inr (h5 b h))
  have hkk : Kept W S' W' S' := fun b hb _ => ⟨hS b hb, hb⟩
  refine ⟨⟨S', O', h1, ⟨fun c hc => (h2.ok c hc).move (fun b hb => hCO b ⟨c, hc, hb⟩) hkk, h2.ap, h2.out, fun b hb => Nat.lt_of_lt_of_le (h2.lt b hb) hk.size⟩, ?_, h4, h5⟩, fun b hb => ⟨Nat.lt_of_lt_of_le (hg b hb).1 hk.size, (hg b hb).2⟩⟩
  exact ⟨hk.os.trans h3.os, hk.tape.trans h3.tape, hk.output.trans h3.output, Nat.le_trans h3.size hk.size, fun b hb hn => (hk.same b (Nat.lt_of_lt_of_le hb h3.size) (.inl (by omega))).trans (h3.same b hb hn), h3.SS, h3.Sn, h3.Ln⟩

theorem aw_range {g : Operand} {ps : Array Tmp} {assign body : Code} {sl : Sl} {L C O : List Ch} {Q : Exit → Sl → List Ch → Prop} {gf : Nat} {cap : List V} {N : Nat} (vals : Nat → Array Value) (I : Nat → List Ch → Prop) (Xp : Code → List Ch → Prop)
    (hg : ev sl g = .f (.func gf) [] cap) (eg : ∀ args w, (callFunc gf args).run P w = .ok (.enter gf args) w) (hL : L.Perm (C ++ O))
    (hseq : ∀ (w : World) (S : Nat → Prop) (lb : List Value), Hp w S C → RL w S cap lb → ∃ Rel, Seq P gf lb.toArray N vals w Rel ∧ ∀ b, Rel b → b < w.heap.size ∧ (S b ∨ inL C b))
    (hps : ∀ k, (vals k).size = ps.size) (hpn : (ps.toList.all fun p => Nat.blt p n) = true) (hI0 : I 0 O)
    (hround : ∀ (l k : Nat) (O' : List Ch), k < N → I k O' → AW P n (some l) assign (rndSl sl (ps.toList.zip (vals k).toList)) [] fun ex sl1 O1 => ex = .normal ∧ O1 = [] ∧ AW P n (some l) body sl1 O' (rndQ (I (k + 1)) Xp))
    (hdone : ∀ O', I N O' → Q .normal sl (C ++ O')) (hX : ∀ c O', Xp c O' → (c = .ret ∧ Q .ret sl (C ++ O')) ∨ ∃ id, c = .exit id ∧ Q (.exit id) sl (C ++ O')) : AW P n none (.rangeFunc g ps assign body) sl L Q := by
  intro w S a B hs hb Qr hQr
  have h1 := hs.ev g
  rw [hg] at h1
  generalize hv : a.eval g = v at h1
  cases h1 with
  | f us lb hl hr hl2 hr2 =>
    have hus : us = [] := List.length_eq_zero_iff.1 hl
    subst hus
    have hp0 := hs.hp.perm hL
    obtain ⟨Rel, hsq, hRel⟩ := hseq w S lb hp0.left ⟨hl2, hr2⟩
    have hClt : ∀ b, inL C b → b < w.heap.size := fun b hb => hp0.blt (inL_append.2 (.inl hb))
    have hap := List.pairwise_append.1 hp0.ap
    have hCO : ∀ b, inL O b → ¬ inL C b := fun b ⟨c, hc, hb⟩ ⟨c', hc', hb'⟩ => hap.2.2 c' hc' c hc b hb' hb
    have hOR : ∀ b, inL O b → ¬ Rel b := fun b hb hR => (hRel b hR).2.elim (hp0.out b (inL_append.2 (.inr hb))) (hCO b hb)
    have hend : ∀ (J : List Ch → Prop) (D : Nat) (G : Nat → Prop) (W : World), w.heap.size ≤ D → ¬ G D → Rnd w S L C O Rel J G W → W.heap[D]? = some (.deferred (some [])) →
        ∃ (S' : Nat → Prop) (O' : List Ch), J O' ∧ St n W S' sl (C ++ O') { a with defers := mark D :: a.defers } ∧ Fr w S L W S' (C ++ O') ∧ MB B W { a with defers := mark D :: a.defers } := fun J D G W hD hGD hR hWD => by
      obtain ⟨⟨S', O', h1, h2, h3, h4, h5⟩, hgg⟩ := hR
      have hk := h3.kept hs.hp
      obtain ⟨U, m1, m2, m3⟩ := hs.df.move h3
      have hDW : D < W.heap.size := (Array.getElem?_eq_some_iff.1 hWD).1
      obtain ⟨U0, n1, n2, n3⟩ := hs.df
      have n4 : Marks W D a.defers := n1.move (by omega) fun b hb hm => h3.same b (by omega) (n3 b hm).2
      refine ⟨S', O', h1, ⟨h2, hs.size, fun t => (hs.sl t).move hk, D + 1, ⟨D, rfl, by omega, hWD, n4⟩, hDW, fun D' hm => ?_⟩, h3, ⟨Nat.le_trans hb.1 h3.size, fun D' hm => ?_⟩⟩
      · rcases List.mem_cons.1 hm with e | e
        · cases e
          exact ⟨fun hS => hGD (h4 D hS hD), fun hL => (inL_append.1 hL).elim (fun h => by have := hClt D h; omega) (fun h => hGD (h5 D h))⟩
        · exact m3 D' e
      · rcases List.mem_cons.1 hm with e | e
        · cases e; exact Nat.le_trans hb.1 hD
        · exact hb.2 D' e
    refine wpIn_range (gf := gf) (lb := lb.toArray) (by rw [hv]) eg hsq (Nat.le_refl _) (fun b hb => (hRel b hb).1) (fun _ _ => rfl) hps
      (fun k => Rnd w S L C O Rel (I k)) (fun c => Rnd w S L C O Rel (Xp c)) (inL O) hOR
      (fun k G A W' h hk => h.keep hClt (Nat.le_refl _) hk) (fun c G A W' h hk => h.keep hClt (Nat.le_refl _) hk) (fun k G A h b hb => (h.g b hb).1) ?h0 ?hround ?hdone ?hstop
    case h0 =>
      exact ⟨⟨S, O, hI0, hp0, (Fr.refl w S L).perm (.refl _) hL, fun b hb h => by have := hs.hp.lt b hb; omega, fun _ h => h⟩, fun b hb => ⟨hp0.blt (inL_append.2 (.inr hb)), hOR b hb, hCO b hb, .inr hb⟩⟩
    case hdone =>
      intro D G W hD hDW hGD hR hWD
      obtain ⟨S', O', h1, h2, h3, h4⟩ := hend _ D G W hD hGD hR hWD
      exact hQr _ _ _ _ _ _ (hdone O' h1) h2 h3 h4
    case hstop =>
      intro D c G W hD hDW hGD hR hWD
      obtain ⟨S', O', h1, h2, h3, h4⟩ := hend _ D G W hD hGD hR hWD
      rcases hX c O' h1 with ⟨rfl, h5⟩ | ⟨id, rfl, h5⟩
      · exact wpIn_ret (hQr _ _ _ _ _ _ h5 h2 h3 h4)
      · exact wpIn_exit (hQr _ _ _ _ _ _ h5 h2 h3 h4)
    case hround =>
      intro l k G W hl hlW hGl hk hR
      obtain ⟨⟨S', O', h1, h2, h3, h4, h5⟩, hgg⟩ := hR
      have hkp := h3.kept hs.hp
      have hz : (ps.zip (vals k)).foldl (fun t (p, v) => t.setIfInBounds p v) a.tmps = (ps.toList.zip (vals k).toList).foldl (fun t p => t.setIfInBounds p.1 p.2) a.tmps := by
        rw [← Array.foldl_toList, Array.toList_zip]
      obtain ⟨s1, s2⟩ := rndSl_ok (w := W) (S := S') (n := n) (ps.toList.zip (vals k).toList) sl a.tmps hs.size (List.all_eq_true.2 fun p hp => List.all_eq_true.1 hpn p.1 (List.of_mem_zip hp).1) (fun x => (hs.sl x).move hkp)
      rw [hz]
      have hp2 : Hp W S' [] := ⟨by simp, List.Pairwise.nil, fun b hb => absurd hb inL_nil, h2.lt⟩
      refine wpIn_mono (hround l k O' hk h1 W S' _ W.heap.size ⟨hp2, s1, s2, .nil _ _ _⟩ ⟨Nat.le_refl _, fun D hm => (by cases hm)⟩ (fun ex a1 W1 => ex = .normal ∧ ∃ sl1 S1, AW P n (some l) body sl1 O' (rndQ (I (k + 1)) Xp) ∧ St n W1 S1 sl1 [] a1 ∧ Fr W S' [] W1 S1 [] ∧ MB W.heap.size W1 a1) ?_) ?_
      · rintro ex sl1 O1 S1 a1 W1 ⟨rfl, rfl, q1⟩ q2 q3 q4
        exact ⟨rfl, sl1, S1, q1, q2, q3, q4⟩
      · rintro ex a1 W1 ⟨rfl, sl1, S1, q1, q2, q3, q4⟩
        have hsame : ∀ b, b < W.heap.size → W1.heap[b]? = W.heap[b]? := fun b hb => q3.same b hb inL_nil
        refine ⟨⟨q3.os, q3.tape, q3.output, q3.size, hsame⟩, fun W2 e1 e2 e3 e4 e5 => ?_⟩
        have hlS : ¬ S1 l := fun h => by
          rcases q3.Sn l h hlW with h | h
          · exact hGl (h4 l h hl)
          · exact inL_nil h
        have hlC : ¬ inL C l := fun h => by have := hClt l h; omega
        have hlO : ¬ inL O' l := fun h => hGl (h5 l h)
        have hk12 : Kept W1 S1 W2 S1 := fun b hb _ => ⟨e5 b (by rintro rfl; exact hlS hb), hb⟩
        have hkS : Kept W S' W2 S1 := fun b hb hlt => ⟨(e5 b (by rintro rfl; exact hGl (h4 b hb hl))).trans (hsame b hlt), q3.SS b hb⟩
        have hblk : ∀ b, inL (C ++ O') b → W2.heap[b]? = W.heap[b]? := fun b hb => (e5 b (by rintro rfl; exact (inL_append.1 hb).elim hlC hlO)).trans (hsame b (h2.blt hb))
        have hp3 : Hp W2 S1 (O' ++ C) := by
          have : Hp W2 S1 (C ++ O') := ⟨fun c hc => (h2.ok c hc).move (fun b hb => hblk b ⟨c, hc, hb⟩) hkS, h2.ap, fun b hb hS => (by
            rcases q3.Sn b hS (h2.blt hb) with h | h
            · exact h2.out b hb h
            · exact inL_nil h), fun b hb => by rw [e4]; exact q2.hp.lt b hb⟩
          exact this.perm List.perm_append_comm
        have hst : St n W2 S1 sl1 O' a1 := ⟨hp3.left, q2.size, fun t => (q2.sl t).move hk12, by
          obtain ⟨U, m1, m2, m3⟩ := q2.df
          refine ⟨U, m1.move (Nat.le_refl _) fun b _ hm => e5 b (by rintro rfl; have := q4.2 b hm; omega), by omega, fun D hm => ⟨(m3 D hm).1, fun hL => ?_⟩⟩
          have := q4.2 D hm
          have := h2.blt (inL_append.2 (.inr hL) : inL (C ++ O') D)
          omega⟩
        refine q1 W2 S1 a1 W.heap.size hst ⟨by rw [e4]; exact q3.size, q4.2⟩ _ fun ex sl2 O2 S2 a2 W3 k1 k2 k3 k4 => ?_
        -- the end of a round
        obtain ⟨f1, f2⟩ := hp3.frame k2.hp k3
        have hfW : Fr w S L W2 S1 (O' ++ C) := by
          refine ⟨e1.trans (q3.os.trans h3.os), e2.trans (q3.tape.trans h3.tape), e3.trans (q3.output.trans h3.output), by rw [e4]; exact Nat.le_trans h3.size q3.size, fun b hb hn => ?_, fun b hb => q3.SS b (h3.SS b hb), fun b hb hlt => ?_, fun b hb hlt => ?_⟩
          · exact (e5 b (by omega)).trans ((hsame b (Nat.lt_of_lt_of_le hb h3.size)).trans (h3.same b hb hn))
          · rcases q3.Sn b hb (Nat.lt_of_lt_of_le hlt h3.size) with h | h
            · exact h3.Sn b h hlt
            · exact absurd h inL_nil
          · exact h3.Ln b (inL_append.2 ((inL_append.1 hb).symm)) hlt
        have hfin := hfW.trans f2
        have mk : ∀ J : List Ch → Prop, J O2 → ∃ G', Own W.heap.size G G' W2 W3 ∧ Rnd w S L C O Rel J G' W3 := fun J hJ => by
          refine ⟨fun b => (G b ∨ (W.heap.size ≤ b ∧ (S2 b ∨ inL O2 b))), ⟨k3.os, k3.tape, k3.output, k3.size, fun b h => .inl h, fun b h => h.imp id (·.1), fun b hb hg => k3.same b (by rw [e4]; exact Nat.lt_of_lt_of_le hb q3.size) fun hi => hg (h5 b hi)⟩, ⟨S2, O2, hJ, f1.perm List.perm_append_comm, hfin.perm (.refl _) List.perm_append_comm, fun b hb hlt => ?_, fun b hb => ?_⟩, fun b hb => ?_⟩
          · by_cases hbW : W.heap.size ≤ b
            · exact .inr ⟨hbW, .inl hb⟩
            · left
              rcases k3.Sn b hb (by rw [e4]; have := q3.size; omega) with h | h
              · rcases q3.Sn b h (by omega) with h | h
                · exact h4 b h hlt
                · exact absurd h inL_nil
              · exact h5 b h
          · by_cases hbW : W.heap.size ≤ b
            · exact .inr ⟨hbW, .inr hb⟩
            · left
              exact h5 b (k3.Ln b hb (by rw [e4]; have := q3.size; omega))
          · rcases hb with hb | ⟨hb, hb2⟩
            · obtain ⟨a1, a2⟩ := hgg b hb
              exact ⟨Nat.lt_of_lt_of_le a1 (Nat.le_trans q3.size (by rw [← e4]; exact k3.size)), a2⟩
            · have hwb : w.heap.size ≤ b := Nat.le_trans h3.size hb
              refine ⟨hb2.elim (k2.hp.lt b) (fun h => k2.hp.blt h), fun h => ?_, fun h => ?_, .inl hwb⟩
              · have := (hRel b h).1; omega
              · have := hClt b h; omega
        cases ex with
        | normal => exact mk _ k1
        | ret => exact mk _ k1
        | exit id => exact mk _ k1
        | _ => exact k1.elim
end Go.Proofs.Ytlagablcopmhkaa
