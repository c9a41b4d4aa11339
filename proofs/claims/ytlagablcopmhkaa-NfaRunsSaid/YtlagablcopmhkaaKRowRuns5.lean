/- Packed: Draw -/
import Derived.Lib.Hide
import Derived.Orders
import Derived.WalkKit
set_option linter.unusedVariables false
set_option linter.unusedSimpArgs false
/- A region that draws its order, walked once for each operation: what each operation yields is said by a word of its own, which stands in all later worlds. -/
namespace Go.Proofs.Ytlagablcopmhkaa
open Go.RowKit

def dstOf (ops : Array Oper) (i : Nat) : Option Tmp := (ops[i]?).bind (·.dst)
def depsOf (ops : Array Oper) (i : Nat) : List Nat := match ops[i]? with
  | some o => (o.after.toList.filter (Region.binds .any)).map (·.on)
  | none => []
def upd (xs : Nat → Value) (i : Nat) (v : Value) : Nat → Value := fun j => if j = i then v else xs j
def layT (ops : Array Oper) (xs : Nat → Value) (l : List Nat) (t : Array Value) : Array Value :=
  l.foldl (fun t i => match dstOf ops i with | some d => t.setIfInBounds d (xs i) | none => t) t
/-- the frame, with what the operations have yielded -/
def lay (ops : Array Oper) (a : Act) (xs : Nat → Value) : Act := { a with tmps := layT ops xs (List.range ops.size) a.tmps }

/-- no two operations yield into one slot; each leans on earlier ones alone; those from m on lean on all before. -/
def coverB (ops : Array Oper) : List Nat → Nat → Bool
  | _, 0 => true
  | S, j + 1 => S.contains j && coverB ops (depsOf ops j ++ S) j
def fit (ops : Array Oper) (m : Nat) : Bool :=
  ((List.range ops.size).all fun i => ((List.range ops.size).all fun j => i == j || dstOf ops i == none || dstOf ops i != dstOf ops j) && (depsOf ops i).all (fun d => decide (d < i)) && (decide (i < m) || coverB ops (depsOf ops i) i))

theorem layT_size (ops : Array Oper) (xs : Nat → Value) (l : List Nat) : ∀ t, (layT ops xs l t).size = t.size := by
  induction l with
  | nil => intro t; rfl
  | cons i l ih =>
    intro t
    simp only [layT, List.foldl_cons]
    rw [show List.foldl _ _ l = layT ops xs l _ from rfl, ih]
    split <;> simp

theorem layT_none (ops : Array Oper) (xs : Nat → Value) (d : Tmp) (l : List Nat) (hl : ∀ i ∈ l, dstOf ops i ≠ some d) : ∀ t, (layT ops xs l t)[d]? = t[d]? := by
  induction l with
  | nil => intro t; rfl
  | cons i l ih =>
    intro t
    simp only [layT, List.foldl_cons]
    rw [show List.foldl _ _ l = layT ops xs l _ from rfl, ih (fun j hj => hl j (List.mem_cons_of_mem _ hj))]
    have := hl i List.mem_cons_self
    split
    · rename_i d' hd
      rw [Array.getElem?_setIfInBounds_ne (by rintro rfl; exact this hd)]
    · rfl

theorem layT_some (ops : Array Oper) (xs : Nat → Value) (d : Tmp) (i : Nat) (hd : dstOf ops i = some d) (l : List Nat) (hi : i ∈ l) (hl : ∀ j ∈ l, dstOf ops j = some d → j = i) :
    ∀ t, (layT ops xs l t)[d]? = if d < t.size then some (xs i) else none := by
  induction l with
  | nil => simp at hi
  | cons j l ih =>
    intro t
    simp only [layT, List.foldl_cons]
    rw [show List.foldl _ _ l = layT ops xs l _ from rfl]
    by_cases hil : i ∈ l
    · rw [ih hil (fun k hk => hl k (List.mem_cons_of_mem _ hk))]
      split <;> simp
    · obtain rfl : i = j := by simpa [hil] using hi
      rw [layT_none ops xs d l (fun k hk hkd => hil (hl k (List.mem_cons_of_mem _ hk) hkd ▸ hk)), hd]
      simp [Array.getElem?_setIfInBounds]

section
variable {ops : Array Oper} {m : Nat}

theorem fit_dst (hf : fit ops m = true) {i j : Nat} {d : Tmp} (hi : dstOf ops i = some d) (hj : dstOf ops j = some d) : i = j := by
  have lt : ∀ {k}, dstOf ops k = some d → k < ops.size := fun {k} h => by
    unfold dstOf at h
    cases ho : ops[k]? with
    | none => rw [ho] at h; cases h
    | some o => exact (Array.getElem?_eq_some_iff.1 ho).1
  simp only [fit, List.all_eq_true, List.mem_range, Bool.and_eq_true, Bool.or_eq_true] at hf
  have := (hf i (lt hi)).1.1 j (lt hj)
  rw [hi, hj] at this
  simpa using this
theorem fit_dep (hf : fit ops m = true) {i d : Nat} (hi : i < ops.size) (hd : d ∈ depsOf ops i) : d < i := by
  simp only [fit, List.all_eq_true, List.mem_range, Bool.and_eq_true, Bool.or_eq_true] at hf
  simpa using (hf i hi).1.2 d hd
theorem fit_cover (hf : fit ops m = true) {i : Nat} (hi : i < ops.size) (hm : m ≤ i) : coverB ops (depsOf ops i) i = true := by
  simp only [fit, List.all_eq_true, List.mem_range, Bool.and_eq_true, Bool.or_eq_true] at hf
  rcases (hf i hi).2 with h | h
  · simp at h; omega
  · exact h

theorem lay_put (hf : fit ops m = true) (a : Act) (xs : Nat → Value) {i : Nat} (hi : i < ops.size) (v : Value) : (lay ops a xs).put (dstOf ops i) v = lay ops a (upd xs i v) := by
  cases hd : dstOf ops i with
  | none =>
    show lay ops a xs = _
    have : ∀ l t, layT ops xs l t = layT ops (upd xs i v) l t := by
      intro l
      induction l with
      | nil => intro t; rfl
      | cons j l ih =>
        intro t
        simp only [layT, List.foldl_cons]
        rw [show List.foldl _ _ l = layT ops xs l _ from rfl, show List.foldl _ _ l = layT ops (upd xs i v) l _ from rfl, ih]
        congr 1
        split
        · rename_i d hj
          rw [show upd xs i v j = xs j from if_neg (by rintro rfl; rw [hd] at hj; cases hj)]
        · rfl
    unfold lay
    rw [this]
  | some d =>
    suffices e : (layT ops xs (List.range ops.size) a.tmps).setIfInBounds d v = layT ops (upd xs i v) (List.range ops.size) a.tmps by simp [Act.put, lay, e]
    apply Array.ext_getElem?
    intro d'
    have key : ∀ (xs : Nat → Value) (j : Nat), j < ops.size → dstOf ops j = some d' → (layT ops xs (List.range ops.size) a.tmps)[d']? = if d' < a.tmps.size then some (xs j) else none := fun xs j hj hjd =>
      layT_some ops xs d' j hjd _ (List.mem_range.2 hj) (fun k _ hk => fit_dst hf hk hjd) _
    by_cases h : d = d'
    · subst h
      rw [key (upd xs i v) i hi hd, Array.getElem?_setIfInBounds, if_pos rfl, layT_size, show upd xs i v i = v from if_pos rfl]
    · rw [Array.getElem?_setIfInBounds_ne h]
      by_cases hex : ∃ j, j < ops.size ∧ dstOf ops j = some d'
      · obtain ⟨j, hj, hjd⟩ := hex
        rw [key xs j hj hjd, key (upd xs i v) j hj hjd, show upd xs i v j = xs j from if_neg (by rintro rfl; rw [hd] at hjd; cases hjd; exact h rfl)]
      · rw [layT_none ops xs d' _ (fun j hj hjd => hex ⟨j, List.mem_range.1 hj, hjd⟩), layT_none ops _ d' _ (fun j hj hjd => hex ⟨j, List.mem_range.1 hj, hjd⟩)]

theorem lay_start (hf : fit ops m = true) (a : Act) : ∃ xs, a = lay ops a xs := by
  refine ⟨fun i => ((dstOf ops i).bind (a.tmps[·]?)).getD undef, ?_⟩
  have : a.tmps = layT ops (fun i => ((dstOf ops i).bind (a.tmps[·]?)).getD undef) (List.range ops.size) a.tmps := by
    apply Array.ext_getElem?
    intro d
    by_cases hex : ∃ j, j < ops.size ∧ dstOf ops j = some d
    · obtain ⟨j, hj, hjd⟩ := hex
      rw [layT_some ops _ d j hjd _ (List.mem_range.2 hj) (fun k _ hk => fit_dst hf hk hjd), hjd]
      by_cases hlt : d < a.tmps.size
      · rw [if_pos hlt]; simp [Array.getElem?_eq_getElem hlt]
      · rw [if_neg hlt]; exact Array.getElem?_eq_none (by omega)
    · rw [layT_none ops _ d _ (fun j hj hjd => hex ⟨j, List.mem_range.1 hj, hjd⟩)]
  unfold lay
  rw [← this]

theorem cover_listed {L : Nat → Prop} (hcl : ∀ i, L i → ∀ d ∈ depsOf ops i, L d) : ∀ j S, (∀ s ∈ S, L s) → coverB ops S j = true → ∀ k, k < j → L k := by
  intro j
  induction j with
  | zero => intro S _ _ k hk; omega
  | succ j ih =>
    intro S hS hc k hk
    simp only [coverB, Bool.and_eq_true, List.contains_iff_mem] at hc
    have hj : L j := hS j hc.1
    by_cases hkj : k = j
    · exact hkj ▸ hj
    · exact ih (depsOf ops j ++ S) (fun s hs => by rcases List.mem_append.1 hs with h | h; exact hcl j hj s h; exact hS s h) hc.2 k (by omega)

theorem mem_ready' {j : Nat} {listed : Array Bool} (h : j ∈ Region.ready .any ops listed) : j < ops.size ∧ listed.getD j true = false ∧ ∀ d ∈ depsOf ops j, listed.getD d false = true := by
  obtain ⟨h0, o, ho, hall⟩ := mem_ready.1 h
  refine ⟨(Array.getElem?_eq_some_iff.1 ho).1, h0, fun d hd => ?_⟩
  unfold depsOf at hd
  rw [ho] at hd
  simp only [List.mem_map, List.mem_filter, Array.mem_toList_iff] at hd
  obtain ⟨e, ⟨he, hb⟩, rfl⟩ := hd
  exact hall e he hb
theorem ready_of {j : Nat} {listed : Array Bool} (hj : j < ops.size) (h0 : listed.getD j true = false) (hd : ∀ d ∈ depsOf ops j, listed.getD d false = true) : j ∈ Region.ready .any ops listed := by
  refine mem_ready.2 ⟨h0, ops[j], Array.getElem?_eq_getElem hj, fun e he hb => hd _ ?_⟩
  unfold depsOf
  rw [Array.getElem?_eq_getElem hj]
  simp only [List.mem_map, List.mem_filter, Array.mem_toList_iff]
  exact ⟨e, ⟨he, hb⟩, rfl⟩

end

variable {P : Program} {ops : Array Oper} {Q : Exit → Act → World → Prop} {m : Nat}

/-- what stands now and in all later worlds -/
def Stands (Φ : Value → World → Prop) (v : Value) (w : World) : Prop := ∀ w', Below w.heap.size w w' → Φ v w'
theorem Stands.now {Φ : Value → World → Prop} {v : Value} {w : World} (h : Stands Φ v w) : Φ v w := h w (Below.refl _ _)
theorem Stands.later {Φ : Value → World → Prop} {v : Value} {w w' : World} (h : Stands Φ v w) (hb : Below w.heap.size w w') : Stands Φ v w' := fun w2 h2 => h w2 (hb.trans (h2.mono hb.size))

/-- ONE OPERATION: from any frame and world in which what it leans on has been yielded. -/
def StepAt (P : Program) (ops : Array Oper) (Q : Exit → Act → World → Prop) (a : Act) (w0 : World) (Φ : Nat → Value → World → Prop) (i : Nat) : Prop :=
  ∀ (xs : Nat → Value) (w : World), Below w0.heap.size w0 w → (∀ k ∈ depsOf ops i, Stands (Φ k) (xs k) w) →
    ∀ K : Act → World → Prop, Hid (∀ v w', Below w.heap.size w w' → Stands (Φ i) v w' → K ((lay ops a xs).put (dstOf ops i) v) w') → wpOp P ops Q i K (lay ops a xs) w

theorem tail_sound (hf : fit ops m = true) : ∀ (fuel r : Nat) (listed : Array Bool) (a : Act) (w : World), m ≤ r → ops.size ≤ r + fuel → (∀ j, j < ops.size → (listed.getD j true = true ↔ j < r)) → listed.size = ops.size →
    wpOps P ops Q (List.range' r (ops.size - r)) a w → wpAny P .any ops Q fuel listed a w := by
  intro fuel
  induction fuel with
  | zero =>
    intro r listed a w hm hr hl hs h
    have hz : Region.ready .any ops listed = [] := by
      rw [List.eq_nil_iff_forall_not_mem]
      intro j hj
      obtain ⟨h1, h2, _⟩ := mem_ready' hj
      have := (hl j h1).2 (by omega)
      rw [h2] at this; cases this
    rw [show ops.size - r = 0 by omega] at h
    exact ⟨hz, by simpa [wpOps] using h⟩
  | succ fuel ih =>
    intro r listed a w hm hr hl hs h
    by_cases hrn : r < ops.size
    · have only : ∀ j ∈ Region.ready .any ops listed, j = r := by
        intro j hj
        obtain ⟨h1, h2, h3⟩ := mem_ready' hj
        have hge : r ≤ j := by
          rcases Nat.lt_or_ge j r with h | h
          · have := (hl j h1).2 h; rw [h2] at this; cases this
          · exact h
        rcases Nat.lt_or_ge r j with hlt | hge2
        · exfalso
          have hd : ∀ i, i < ops.size → ∀ {b c : Bool}, listed.getD i b = listed.getD i c := fun i hi {b c} => by simp [Array.getElem?_eq_getElem (hs ▸ hi : i < listed.size)]
          have := cover_listed (ops := ops) (L := fun k => k < ops.size ∧ k < r) (fun i hi d hd' => by have := fit_dep hf hi.1 hd'; omega) j (depsOf ops j) (fun s hs' => by
            have h4 := fit_dep hf h1 hs'
            have h5 := h3 s hs'
            rw [hd s (by omega) (c := true)] at h5
            exact ⟨by omega, (hl s (by omega)).1 h5⟩) (fit_cover hf h1 (by omega)) r hlt
          omega
        · omega
      refine ⟨fun h0 => ?_, fun i hi => ?_⟩
      · exfalso
        have hin : r ∈ Region.ready .any ops listed := by
          refine ready_of hrn ?_ fun d hd => ?_
          · cases hx : listed.getD r true
            · rfl
            · have := (hl r hrn).1 hx; omega
          · have h4 := fit_dep hf hrn hd
            have h5 := (hl d (by omega)).2 h4
            simpa [Array.getElem?_eq_getElem (show d < listed.size by omega)] using h5
        rw [h0] at hin; cases hin
      · obtain rfl := only i hi
        rw [show ops.size - i = (ops.size - (i + 1)) + 1 by omega, List.range'_succ, wpOps_cons] at h
        refine wpOp_mono (fun a' w' h' => ih (i + 1) _ a' w' (by omega) (by omega) (fun j hj => ?_) (by simpa using hs) h') h
        by_cases hji : j = i
        · subst hji
          simp [hs, hj]
        · rw [getD_set_ne true (Ne.symm hji), hl j hj]; omega
    · have hz : Region.ready .any ops listed = [] := by
        rw [List.eq_nil_iff_forall_not_mem]
        intro j hj
        obtain ⟨h1, h2, _⟩ := mem_ready' hj
        have := (hl j h1).2 (by omega)
        rw [h2] at this; cases this
      rw [show ops.size - r = 0 by omega] at h
      exact ⟨fun _ => by simpa [wpOps] using h, by rw [hz]; simp⟩

theorem count_lt {p q : Nat → Bool} (h : ∀ k, q k = true → p k = true) {i : Nat} (hp : p i = true) (hq : q i = false) : ∀ n, i < n → (List.range n).countP q < (List.range n).countP p := by
  have le : ∀ n, (List.range n).countP q ≤ (List.range n).countP p := fun n => List.countP_mono_left (fun k _ => h k)
  intro n
  induction n with
  | zero => intro hi; omega
  | succ n ih =>
    intro hi
    rw [List.range_succ, List.countP_append, List.countP_append]
    by_cases e : i = n
    · subst e
      have := le i
      simp [hp, hq]
      omega
    · have h1 := ih (by omega)
      have h2 : List.countP q [n] ≤ List.countP p [n] := List.countP_mono_left (fun k _ => h k)
      omega
theorem count_ge {p : Nat → Bool} {m : Nat} : ∀ n, (∀ k, m ≤ k → k < n → p k = true) → n - m ≤ (List.range n).countP p := by
  intro n
  induction n with
  | zero => intro _; simp
  | succ n ih =>
    intro h
    rw [List.range_succ, List.countP_append]
    have := ih (fun k h1 h2 => h k h1 (by omega))
    by_cases e : m ≤ n
    · simp [h n e (by omega)]; omega
    · omega

/-- THE LAW: the operations below m in any order, each by its own word; those from m on, which lean on all, one behind the other. -/
theorem wp_region_parts {id : Nat} {a : Act} {w : World} (hm : P.follows .mixedOrders = true) (m : Nat) (hf : fit ops m = true) (hmn : m ≤ ops.size) (Φ : Nat → Value → World → Prop)
    (hstep : ∀ i, i < m → StepAt P ops Q a w Φ i)
    (hend : ∀ (xs : Nat → Value) (W : World), Below w.heap.size w W → (∀ k, k < m → Stands (Φ k) (xs k) W) → wpOps P ops Q (List.range' m (ops.size - m)) (lay ops a xs) W) :
    (Code.region id ops true).wp P Q a w := by
  refine wp_region_any hm ?_
  have main : ∀ (fuel : Nat) (listed : Array Bool) (xs : Nat → Value) (W : World), listed.size = ops.size → ((List.range ops.size).countP fun k => !listed.getD k true) ≤ fuel → Below w.heap.size w W →
      (∀ k, k < ops.size → listed.getD k true = true → k < m ∧ Stands (Φ k) (xs k) W ∧ ∀ d ∈ depsOf ops k, listed.getD d true = true) → wpAny P .any ops Q fuel listed (lay ops a xs) W := by
    intro fuel
    induction fuel with
    | zero =>
      intro listed xs W hs hc hb hl
      have all : ∀ k, k < ops.size → listed.getD k true = true := fun k hk => by
        cases hx : listed.getD k true
        · have := List.countP_eq_zero.1 (Nat.le_zero.1 hc) k (List.mem_range.2 hk)
          rw [hx] at this; exact absurd rfl this
        · rfl
      have hmn2 : m = ops.size := by
        rcases Nat.lt_or_ge m ops.size with h | h
        · have := (hl m h (all m h)).1; omega
        · omega
      refine tail_sound hf 0 ops.size listed _ _ (by omega) (by omega) (fun j hj => ⟨fun _ => hj, fun _ => all j hj⟩) hs ?_
      have := hend xs W hb (fun k hk => (hl k (by omega) (all k (by omega))).2.1)
      rw [hmn2] at this
      exact this
    | succ fuel ih =>
      intro listed xs W hs hc hb hl
      by_cases hall : ∀ k, k < m → listed.getD k true = true
      · refine tail_sound hf (fuel + 1) m listed _ _ (Nat.le_refl _) ?_ (fun j hj => ⟨fun h => (hl j hj h).1, hall j⟩) hs (hend xs W hb fun k hk => (hl k (by omega) (hall k hk)).2.1)
        have := count_ge (p := fun k => !listed.getD k true) (m := m) ops.size (fun k h1 h2 => by
          cases hx : listed.getD k true
          · rfl
          · have := (hl k h2 hx).1; omega)
        omega
      · have gd : ∀ i, i < ops.size → ∀ {b c : Bool}, listed.getD i b = listed.getD i c := fun i hi {b c} => by simp [Array.getElem?_eq_getElem (hs ▸ hi : i < listed.size)]
        refine ⟨fun h0 => ?_, fun i hi => ?_⟩
        · exfalso
          apply hall
          have : ∀ k, k < ops.size → listed.getD k true = true := by
            intro k
            induction k using Nat.strongRecOn with
            | ind k ihk =>
              intro hk
              cases hx : listed.getD k true
              · have hin : k ∈ Region.ready .any ops listed := ready_of hk hx fun d hd => by
                  have h4 := fit_dep hf hk hd
                  rw [gd d (by omega) (c := true)]
                  exact ihk d h4 (by omega)
                rw [h0] at hin; cases hin
              · rfl
          exact fun k hk => this k (by omega)
        · obtain ⟨h1, h2, h3⟩ := mem_ready' hi
          have him : i < m := by
            rcases Nat.lt_or_ge i m with h | h
            · exact h
            · exfalso
              apply hall
              have := cover_listed (ops := ops) (L := fun k => k < ops.size ∧ listed.getD k true = true) (fun j hj d hd => ⟨by have := fit_dep hf hj.1 hd; omega, (hl j hj.1 hj.2).2.2 d hd⟩) i (depsOf ops i) (fun s hs' => by
                have h4 := fit_dep hf h1 hs'
                exact ⟨by omega, by rw [gd s (by omega) (c := false)]; exact h3 s hs'⟩) (fit_cover hf h1 h)
              exact fun k hk => (this k (by omega)).2
          refine hstep i him xs W hb (fun k hk => ?_) _ ?_
          · have h4 := fit_dep hf h1 hk
            exact (hl k (by omega) (by rw [gd k (by omega) (c := false)]; exact h3 k hk)).2.1
          · intro v w' hb' hΦ
            rw [lay_put hf a xs h1]
            refine ih _ _ w' (by simpa using hs) ?_ (hb.trans (hb'.mono hb.size)) fun k hk hkl => ?_
            · have := count_lt (p := fun k => !listed.getD k true) (q := fun k => !(listed.setIfInBounds i true).getD k true) (i := i) (fun k hk => by
                by_cases e : k = i
                · subst e; simp [hs, h1] at hk
                · rw [getD_set_ne true (Ne.symm e)] at hk; exact hk) (by simp only [h2]; rfl) (by simp [hs, h1]) ops.size h1
              omega
            · by_cases e : k = i
              · subst e
                refine ⟨him, by rw [show upd xs k v k = v from if_pos rfl]; exact hΦ, fun d hd => ?_⟩
                have h4 := fit_dep hf h1 hd
                rw [getD_set_ne true (by omega), gd d (by omega) (c := false)]
                exact h3 d hd
              · rw [getD_set_ne true (Ne.symm e)] at hkl
                obtain ⟨a1, a2, a3⟩ := hl k hk hkl
                refine ⟨a1, by rw [show upd xs i v k = xs k from if_neg e]; exact a2.later hb', fun d hd => ?_⟩
                by_cases e2 : d = i
                · subst e2; simp [hs, h1]
                · rw [getD_set_ne true (Ne.symm e2)]; exact a3 d hd
  obtain ⟨xs, hxs⟩ := lay_start hf a
  have hxs2 : lay ops a xs = a := hxs.symm
  have := main ops.size (Array.replicate ops.size false) xs { w with drawn := w.drawn + 1 } (by simp) (by have := List.countP_le_length (p := fun k => !(Array.replicate ops.size false).getD k true) (l := List.range ops.size); simpa using this) ⟨rfl, rfl, rfl, Nat.le_refl _, fun _ _ => rfl⟩ fun k hk h => by
    simp [hk] at h
  rw [hxs2] at this
  exact this

def layL (xs : Nat → Value) : List Oper → Nat → Array Value → Array Value
  | [], _, t => t
  | o :: r, i, t => layL xs r (i + 1) (match o.dst with | some d => t.setIfInBounds d (xs i) | none => t)
theorem layT_layL (xs : Nat → Value) : ∀ (r p : List Oper) (t : Array Value), layT (p ++ r).toArray xs (List.range' p.length r.length) t = layL xs r p.length t := by
  intro r
  induction r with
  | nil => intro p t; simp [layT, layL]
  | cons o r ih =>
    intro p t
    have h := ih (p ++ [o]) (match o.dst with | some d => t.setIfInBounds d (xs p.length) | none => t)
    rw [List.append_assoc, List.singleton_append, List.length_append, List.length_singleton] at h
    rw [layL, List.length_cons, List.range'_succ, ← h]
    have e : dstOf (p ++ o :: r).toArray p.length = o.dst := by simp [dstOf]
    show layT _ xs _ (match dstOf (p ++ o :: r).toArray p.length with | some d => t.setIfInBounds d (xs p.length) | none => t) = _
    rw [e]
theorem lay_lit (l : List Oper) (a : Act) (xs : Nat → Value) : lay l.toArray a xs = { a with tmps := layL xs l 0 a.tmps } := by
  have := layT_layL xs l [] a.tmps
  unfold lay
  rw [List.range_eq_range']
  simp only [List.nil_append, List.length_nil] at this
  rw [List.size_toArray, this]

def ofL (l : List (Value → World → Prop)) (k : Nat) : Value → World → Prop := l.getD k fun _ _ => True
def needs (l : List (Value → World → Prop)) (xs : Nat → Value) (W : World) : List Nat → Prop
  | [] => True
  | k :: r => Stands (ofL l k) (xs k) W ∧ needs l xs W r

theorem needs_of {l : List (Value → World → Prop)} {xs : Nat → Value} {W : World} : ∀ {ds : List Nat}, (∀ k ∈ ds, Stands (ofL l k) (xs k) W) → needs l xs W ds
  | [], _ => trivial
  | k :: r, h => ⟨h k List.mem_cons_self, needs_of fun j hj => h j (List.mem_cons_of_mem _ hj)⟩

theorem needs_sub {l : List (Value → World → Prop)} {xs : Nat → Value} {W : World} {ds : List Nat} (h : needs l xs W ds) : ∀ k ∈ ds, Stands (ofL l k) (xs k) W := by
  induction ds with
  | nil => intro k hk; cases hk
  | cons d ds ih =>
    intro k hk
    rcases List.mem_cons.1 hk with rfl | hk
    · exact h.1
    · exact ih h.2 k hk

/-- one operation, written out -/
def StepO (P : Program) (L : List Oper) (Q : Exit → Act → World → Prop) (mk : (Nat → Value) → Act) (w0 : World) (l : List (Value → World → Prop)) (o : Oper) (i : Nat) : Prop :=
  ∀ (xs : Nat → Value) (W : World), Below w0.heap.size w0 W → needs l xs W (depsOf L.toArray i) →
    ∀ K : Act → World → Prop, Hid (∀ v w', Below W.heap.size W w' → Stands (ofL l i) v w' → K ((mk xs).put o.dst v) w') →
      if Region.wanted o (yielded L.toArray (mk xs).tmps) then Oper.wp P o (mk xs) W K Q else K ((mk xs).put o.dst undef) W
def allO (F : Oper → Nat → Prop) : List Oper → Nat → Nat → Prop
  | o :: r, n + 1, i => F o i ∧ allO F r n (i + 1)
  | _, _, _ => True
theorem allO_at {F : Oper → Nat → Prop} : ∀ {r : List Oper} {n i : Nat}, allO F r n i → ∀ k o, k < n → r[k]? = some o → F o (i + k)
  | [], _, _, _, k, o, _, h2 => by simp at h2
  | _ :: _, 0, _, _, k, o, h1, _ => by omega
  | q :: r, n + 1, i, h, k, o, h1, h2 => by
    cases k with
    | zero => simp at h2; subst h2; exact h.1
    | succ k => have := allO_at h.2 k o (by omega) (by simpa using h2); rwa [show i + 1 + k = i + (k + 1) by omega] at this

theorem region_lit {id : Nat} {a : Act} {w : World} {L : List Oper} (hm : P.follows .mixedOrders = true) (mk : (Nat → Value) → Act) (hmk : ∀ xs, ({ a with tmps := layL xs L 0 a.tmps } : Act) = mk xs) (l : List (Value → World → Prop)) (hf : fit L.toArray l.length = true) (hmn : Nat.ble l.length L.length = true)
    (hstep : allO (StepO P L Q mk w l) L l.length 0)
    (hend : ∀ (xs : Nat → Value) (W : World), Below w.heap.size w W → needs l xs W (List.range l.length) → wpOps P L.toArray Q (List.range' l.length (L.length - l.length)) (mk xs) W) :
    (Code.region id L.toArray true).wp P Q a w := by
  have hle := Nat.le_of_ble_eq_true hmn
  have hmk' : ∀ xs, lay L.toArray a xs = mk xs := fun xs => (lay_lit L a xs).trans (hmk xs)
  refine wp_region_parts hm l.length hf (by simpa using hle) (ofL l) (fun i hi xs W hb hd K hK => ?_) (fun xs W hb hd => ?_)
  · rw [hmk'] at hK ⊢
    obtain ⟨o, ho⟩ : ∃ o, L[i]? = some o := ⟨L[i]'(by omega), by simp⟩
    have ho2 : L.toArray[i]? = some o := by simpa using ho
    have hdst : dstOf L.toArray i = o.dst := by simp [dstOf, ho]
    have h := allO_at hstep i o hi ho
    rw [Nat.zero_add] at h
    have h2 := h xs W hb (needs_of hd) K (by rw [← hdst]; exact hK)
    unfold wpOp
    simp only [ho2]
    split
    · rename_i hw; rw [if_pos hw] at h2; exact .inl h2
    · rename_i hw; rw [if_neg hw] at h2; exact h2
  · rw [hmk']
    have := hend xs W hb (needs_of fun k hk => hd k (List.mem_range.1 hk))
    rwa [List.size_toArray]

theorem step_plain {L : List Oper} {mk : (Nat → Value) → Act} {w0 : World} {l : List (Value → World → Prop)} {i : Nat} {o : Oper} (hg : o.guard = none) (ds : List Nat) (hds : (ds.all fun d => (depsOf L.toArray i).contains d) = true)
    (h : ∀ (xs : Nat → Value) (W : World), Below w0.heap.size w0 W → needs l xs W ds → ∀ K : Act → World → Prop, Hid (∀ v w', Below W.heap.size W w' → Stands (ofL l i) v w' → K ((mk xs).put o.dst v) w') → Oper.wp P o (mk xs) W K Q) : StepO P L Q mk w0 l o i := by
  intro xs W hb hd K hK
  rw [if_pos (by simp [Region.wanted, hg])]
  exact h xs W hb (needs_of fun k hk => needs_sub hd k (by simpa using List.all_eq_true.1 hds k hk)) K hK

theorem tail_one {L : List Oper} {a : Act} {W : World} {n : Nat} (o : Oper) (ho : L.drop n = [o]) (hg : o.guard = none) (h : Oper.wp P o a W (fun a w => Q .normal a w) Q) : wpOps P L.toArray Q (List.range' n (L.length - n)) a W := by
  have hn : L.length - n = 1 := by rw [← List.length_drop, ho]; rfl
  have ho2 : L.toArray[n]? = some o := by
    have : (L.drop n)[0]? = some o := by rw [ho]; rfl
    simpa using this
  rw [hn]
  show wpOps P L.toArray Q [n] a W
  rw [wpOps_cons]
  unfold wpOp
  simp only [ho2]
  rw [if_pos (by simp [Region.wanted, hg])]
  exact .inl h

theorem tail_cons {L r : List Oper} {a : Act} {W : World} {n : Nat} (o : Oper) (ho : L.drop n = o :: r) (hg : o.guard = none) (h : ∀ K : Act → World → Prop, Hid (∀ a w, wpOps P L.toArray Q (List.range' (n + 1) (L.length - (n + 1))) a w → K a w) → Oper.wp P o a W K Q) : wpOps P L.toArray Q (List.range' n (L.length - n)) a W := by
  have hl : L.length - n = (L.length - (n + 1)) + 1 := by
    have := congrArg List.length ho
    rw [List.length_drop, List.length_cons] at this
    omega
  have ho2 : L.toArray[n]? = some o := by
    have : (L.drop n)[0]? = some o := by rw [ho]; rfl
    simpa using this
  rw [hl, List.range'_succ, wpOps_cons]
  unfold wpOp
  simp only [ho2]
  rw [if_pos (by simp [Region.wanted, hg])]
  exact .inl (h _ fun _ _ h => h)

theorem stands_eq (v : Value) (w : World) : Stands (fun x _ => x = v) v w := fun _ _ => rfl
end Go.Proofs.Ytlagablcopmhkaa
