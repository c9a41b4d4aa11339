/- Packed: AlMake, AlCode -/
import Derived.Test.YtlagablcopmhkaaKRowRuns3
set_option linter.unusedVariables false
set_option linter.unusedSimpArgs false
/- Walking with descriptions: structs and slices that are made; append; make. -/
namespace Go.Proofs.Ytlagablcopmhkaa
open Go.RowKit
variable {P : Program}

/-- what a literal's parts make -/
def fillV (pl : Nat → Option (Nat × Nat)) (cells : List V) : List (Nat × V) → Option (List V)
  | [] => some cells
  | (i, c) :: r => match pl i with
    | none => none
    | some (off, size) => bif (Nat.beq c.cells.length size && Nat.ble (off + size) cells.length && c.cells.all V.one) then fillV pl (cells.take off ++ c.cells ++ cells.drop (off + size)) r else none

theorem foldl_splice : ∀ (l : List Value) (off k : Nat) (cs : Array Value), off + k + l.length ≤ cs.size → (l.zipIdx k).foldl (fun (cs : Array Value) (p : Value × Nat) => cs.setIfInBounds (off + p.2) p.1) cs = (cs.toList.take (off + k) ++ l ++ cs.toList.drop (off + k + l.length)).toArray := by
  intro l
  induction l with
  | nil => intro off k cs h; simp
  | cons x l ih =>
    intro off k cs h
    rw [List.zipIdx_cons, List.foldl_cons, ih off (k + 1) _ (by simp at h ⊢; omega)]
    have hk : off + k < cs.size := by simp at h; omega
    congr 1
    simp only [Array.toList_setIfInBounds]
    apply List.ext_getElem?
    intro j
    simp only [List.getElem?_append, List.getElem?_take, List.getElem?_drop, List.getElem?_set, List.length_append, List.length_take, List.length_set, Array.length_toList, List.length_cons, List.getElem?_cons]
    grind

theorem fill_rep {w : World} {S : Nat → Prop} {pl : Nat → Option (Nat × Nat)} : ∀ (parts : List (Nat × V)) (vs : List (Nat × Value)) (cells out : List V) (us : List Value), fillV pl cells parts = some out → RL w S cells us → (∀ u ∈ us, u.oneCell' = true) →
    parts.length = vs.length → (∀ (j i i' : Nat) (c : V) (v : Value), parts[j]? = some (i, c) → vs[j]? = some (i', v) → i = i' ∧ R w S c v) →
    ∃ us' : List Value, Instr.fill pl us.toArray vs = some us'.toArray ∧ RL w S out us' ∧ ∀ u ∈ us', u.oneCell' = true
  | [], vs, cells, out, us, h, hr, h1, hl, _ => by
    have : vs = [] := List.length_eq_zero_iff.1 hl.symm
    subst this
    cases h
    exact ⟨us, rfl, hr, h1⟩
  | (i, c) :: r, vs, cells, out, us, h, hr, h1, hl, hp => by
    cases vs with
    | nil => simp at hl
    | cons q vs =>
      obtain ⟨i', v⟩ := q
      obtain ⟨rfl, hc⟩ := hp 0 i i' c v rfl rfl
      simp only [fillV] at h
      cases hpl : pl i with
      | none => rw [hpl] at h; cases h
      | some q =>
        obtain ⟨off, size⟩ := q
        rw [hpl] at h
        simp only at h
        cases hb : (Nat.beq c.cells.length size && Nat.ble (off + size) cells.length && c.cells.all V.one) with
        | false => rw [hb] at h; cases h
        | true =>
          rw [hb, cond_true] at h
          simp only [Bool.and_eq_true] at hb
          obtain ⟨⟨hb1, hb2⟩, hb3⟩ := hb
          have hb1 := Nat.eq_of_beq_eq_true hb1
          have hb2 := Nat.le_of_ble_eq_true hb2
          obtain ⟨vs', hv, hrv, hov⟩ := hc.cells hb3
          have hvl : vs'.length = size := by rw [hrv.1, hb1]
          obtain ⟨us', g1, g2, g3⟩ := fill_rep r vs _ out (us.take off ++ vs' ++ us.drop (off + size)) h (by have := hr.splice hrv off; rw [hb1, hvl] at this; exact this) (fun u hu => by
            simp only [List.mem_append] at hu
            rcases hu with (hu | hu) | hu
            · exact h1 u (List.mem_of_mem_take hu)
            · exact hov u hu
            · exact h1 u (List.mem_of_mem_drop hu)) (by simpa using hl) (fun j i i' c v h1 h2 => hp (j + 1) i i' c v (by simpa using h1) (by simpa using h2))
          refine ⟨us', ?_, g2, g3⟩
          have hul : us.length = cells.length := hr.1
          simp only [Instr.fill, hpl, hv]
          rw [if_neg (by simp; omega)]
          have := foldl_splice vs' off 0 us.toArray (by simp; omega)
          rw [← Array.foldl_toList, Array.toList_zipIdx]
          simp only [Nat.add_zero, hvl] at this
          simp only at this ⊢
          rw [this]
          exact g1

class TyB (P : Program) (t : TypeId) (z : outParam (List Value)) (pl : outParam (Nat → Option (Nat × Nat))) : Prop where
  run : ∀ w (parts : List (Nat × Value)) (cells : Array Value), Instr.fill pl z.toArray parts = some cells → (Instr.build t parts.toArray).run P w = .ok (.agg cells) w
  one : z.all (·.oneCell') = true

section
variable {n : Nat} {o : Oper} {sl : Sl} {L : List Ch} {K : Sl → List Ch → Prop}
def evP (sl : Sl) (parts : Array (Nat × Operand)) : List (Nat × V) := parts.toList.map fun p => (p.1, ev sl p.2)
theorem evP_rep {w : World} {S : Nat → Prop} {a : Act} (h : ∀ x, R w S (ev sl x) (a.eval x)) (parts : Array (Nat × Operand)) : (evP sl parts).length = (parts.toList.map fun p => (p.1, a.eval p.2)).length ∧
    ∀ (j i i' : Nat) (c : V) (v : Value), (evP sl parts)[j]? = some (i, c) → (parts.toList.map fun p => (p.1, a.eval p.2))[j]? = some (i', v) → i = i' ∧ R w S c v := by
  refine ⟨by simp [evP], fun j i i' c v h1 h2 => ?_⟩
  simp only [evP, List.getElem?_map] at h1 h2
  cases hp : parts.toList[j]? with
  | none => rw [hp] at h1; cases h1
  | some p =>
    rw [hp] at h1 h2
    cases h1; cases h2
    exact ⟨rfl, h p.2⟩
theorem aop_build {t : TypeId} {parts : Array (Nat × Operand)} {z : List Value} {pl : Nat → Option (Nat × Nat)} [hb : TyB P t z pl] (ho : o.op = .build t parts) (hd : dstOk n o.dst = true) (cs : List V) (hc : fillV pl (zV z) (evP sl parts) = some cs)
    (hK : K (put sl o.dst (.a cs)) L) : AOp P n o sl L K := by
  refine .val hd _ (fun w S a hs => ?_) hK
  obtain ⟨e1, e2⟩ := evP_rep hs.ev parts
  obtain ⟨us', g1, g2, _⟩ := fill_rep _ _ _ _ z hc (RL_vals w S z) (fun u hu => List.all_eq_true.1 hb.one u hu) e1 e2
  refine ⟨_, ?_, .a us' g2.1 g2.2⟩
  have := hb.run w _ _ g1
  have e3 : parts.map (fun x : Nat × Operand => (x.1, a.eval x.2)) = (parts.toList.map fun p => (p.1, a.eval p.2)).toArray := by apply Array.ext'; simp
  simp [execOp, ho, e3, this]

def V.toD : V → D
  | .d x => x
  | _ => .v undef
def V.isD : V → Bool
  | .d _ => true
  | _ => false
theorem RL.toD {w : World} {S : Nat → Prop} {cs : List V} {us : List Value} (h : RL w S cs us) (hd : cs.all V.isD = true) : (cs.map V.toD).length = us.length ∧ ∀ (j : Nat) (d : D) (u : Value), (cs.map V.toD)[j]? = some d → us[j]? = some u → Rep w S d u := by
  refine ⟨by simp [h.1], fun j d u h1 h2 => ?_⟩
  rw [List.getElem?_map] at h1
  cases hc : cs[j]? with
  | none => rw [hc] at h1; cases h1
  | some c =>
    rw [hc] at h1; cases h1
    have hr := h.2 j c u hc h2
    have := List.all_eq_true.1 hd c (List.mem_of_getElem? hc)
    cases c with
    | d x => cases hr with | d h => exact h
    | _ => cases this
def zeros (z : List Value) (m : Nat) : List V := (List.range m).map fun j => .v (z.getD (j % z.length) undef)
class TyZL (P : Program) (e : TypeId) (z : outParam (List Value)) : Prop where
  info : ∃ i v, P.info? e = some i ∧ i.zero = some v ∧ v.cells = z.toArray
  one : z.all (·.oneCell') = true
  ne : z ≠ []
theorem zeros_rep (w : World) (S : Nat → Prop) {z : List Value} (m : Nat) (h1 : z.all (·.oneCell') = true) (hz : z ≠ []) : ∃ us : List Value, ((Array.range m).map (fun j => z.toArray[j % z.toArray.size]!)) = us.toArray ∧ RL w S (zeros z m) us ∧ ∀ u ∈ us, u.oneCell' = true := by
  have hlen : 0 < z.length := by cases z with | nil => exact absurd rfl hz | cons x l => simp
  have hlt : ∀ j, j % z.length < z.length := fun j => Nat.mod_lt _ hlen
  refine ⟨(List.range m).map fun j => z.getD (j % z.length) undef, ?_, ⟨by simp [zeros], fun j c u h1 h2 => ?_⟩, fun u hu => ?_⟩
  · apply Array.ext'
    simp only [Array.toList_map, Array.toList_range, List.size_toArray]
    apply List.map_congr_left
    intro j _
    simp [hlt]
  · simp only [zeros, List.getElem?_map] at h1 h2
    cases hr : (List.range m)[j]? with
    | none => rw [hr] at h1; cases h1
    | some q => rw [hr] at h1 h2; cases h1; cases h2; exact .v _
  · obtain ⟨j, _, rfl⟩ := List.mem_map.1 hu
    rw [List.getD_eq_getElem?_getD, List.getElem?_eq_getElem (hlt j)]
    exact List.all_eq_true.1 h1 _ (List.getElem_mem _)
theorem fillV_length (k : Nat) : ∀ (r : List (Nat × V)) (c0 c1 : List V), fillV (fun i => some (i * k, k)) c0 r = some c1 → c1.length = c0.length := by
  intro r
  induction r with
  | nil => intro c0 c1 h; cases h; rfl
  | cons p r ih =>
    intro c0 c1 h
    simp only [fillV] at h
    cases hb : (Nat.beq p.2.cells.length k && Nat.ble (p.1 * k + k) c0.length && p.2.cells.all V.one) with
    | false => rw [hb] at h; cases h
    | true =>
      rw [hb, cond_true] at h
      simp only [Bool.and_eq_true] at hb
      have hb1 := Nat.eq_of_beq_eq_true hb.1.1
      have hb2 := Nat.le_of_ble_eq_true hb.1.2
      rw [ih _ _ h]; simp; omega
theorem aop_buildSlice {t e : TypeId} {len k bytes : Nat} {parts : Array (Nat × Operand)} {z : List Value} [ht : TyL P t e k bytes] [hz : TyZL P e z] (ho : o.op = .buildSlice t len parts) (hd : dstOk n o.dst = true) (cs : List V)
    (hc : fillV (fun i => some (i * k, k)) (zeros z (len * k)) (evP sl parts) = some cs) (hD : cs.all V.isD = true) (h0 : 0 < len) (hsm : len * k ≤ 16777216) (hK : K (put sl o.dst (.d (.s len k (cs.map V.toD)))) L) : AOp P n o sl L K := by
  refine .of hd fun w S a hs => ?_
  obtain ⟨e1, e2⟩ := evP_rep hs.ev parts
  obtain ⟨us0, g0, gr, gone⟩ := zeros_rep w S (len * k) hz.one hz.ne
  obtain ⟨us', g1, g2, g3⟩ := fill_rep _ _ _ _ us0 hc gr gone e1 e2
  obtain ⟨i, v, hi, hiz, hic⟩ := hz.info
  obtain ⟨i', v', hi', hiz', hl, hsz, hby⟩ := ht.info
  rw [hi] at hi'; cases hi'
  rw [hiz] at hiz'; cases hiz'
  have hpos : 0 < len * k := Nat.mul_pos h0 ht.pos
  have hcl : cs.length = len * k := by rw [fillV_length _ _ _ _ hc]; simp [zeros]
  have hul : us'.length = len * k := by rw [g2.1, hcl]
  obtain ⟨h3, h4⟩ := hs.hp.newData (.cells us'.toArray e)
  have hrun := run_buildSlice (P := P) w t e len (parts.map fun x => (x.1, a.eval x.2)) us'.toArray i v ht.und hi hiz (by rw [hsz]; omega) (by rw [hsz]; omega) (by
    rw [hsz, hic, g0]
    have e3 : (parts.map (fun x : Nat × Operand => (x.1, a.eval x.2))).toList = parts.toList.map fun p => (p.1, a.eval p.2) := by simp
    rw [e3]; exact g1)
  have g2' := g2.move (kept_alloc w S (.cells us'.toArray e) (S' := fun b => S b ∨ b = w.heap.size) fun _ h => .inl h)
  obtain ⟨d1, d2⟩ := g2'.toD hD
  have hlk : len ≤ len * k := Nat.le_mul_of_pos_right _ ht.pos
  refine ⟨_, _, w.alloc (.cells us'.toArray e), _, L, by simp [execOp, ho, hrun], .d (.s us' (by omega) (Nat.le_refl _) (by omega) (by simp [hcl]) d1.symm (fun _ => ⟨w.heap.size, 0, rfl, .inr rfl, fun j u hj => ?_⟩) d2), h3, h4, hK⟩
  rw [cell_of_row _ _ _ _ _ _ (heap_alloc_new w _), Nat.zero_add]
  simpa using hj
end

/-- append: the block is the old one, or a new one -/
theorem append_fresh {w : World} {t ty e : TypeId} {i : TypeInfo} {z : Value} {size bytes : Nat} (ht : P.underlying t = some (.slice e)) (hi : P.info? e = some i) (hz : i.zero = some z) (hsize : i.size = size) (hby : i.bytes = bytes)
    {v : Value} {m : Nat} {xs : List Value} (hown : w.ownsRow 0 e size v m xs) (ad : Addr) (q c : Nat) (news : List Value) (hl : news.length = q * size) (hnews : ∀ j u, news[j]? = some u → w.cell? (ad.add j) = some u) (h1 : ∀ u ∈ news, u.oneCell' = true)
    (hbytes : (m + q) * bytes ≤ 140737488355328) (h63 : m + q ≤ 140737488355328) {v' : Value} {w' : World} (hr : (Builtin.append_ #[t, t] ty #[v, .slice (some ad) q c]).run P w = .ok v' w') :
    v'.ownBlock = v.ownBlock ∨ v'.ownBlock = some w.heap.size := by
  subst hsize hby
  rcases hown.2 with ⟨rfl, rfl⟩ | ⟨g, cap, cur, rfl, hbg, hg, hnc, hcm, hcs, htake⟩
  · by_cases hm : q = 0
    · subst hm
      have hn : news = [] := List.eq_nil_of_length_eq_zero (by simpa using hl)
      subst hn
      have : (Builtin.append_ #[t, t] ty #[.slice none 0 0, .slice (some ad) 0 c]).run P w = .ok (.slice none 0 0) w := by
        simp [Builtin.append_, run_underlying ht, sizeOf, typeInfo, hi, Builtin.lenOf, Builtin.firstCells, loadCells, loadCellsFrom]
      rw [this] at hr; cases hr; exact .inl rfl
    · have := run_append_nil (P := P) w t ty e i z ht hi hz ad q c news hl hnews (by omega) (by omega) (by have hb := hbytes; simp only [Nat.zero_add] at hb; omega)
      rw [this] at hr; cases hr; exact .inr rfl
  · by_cases hroom : m + q ≤ cap
    · have hfit : m * i.size + news.length ≤ cur.size := by rw [hl, hcs, ← Nat.add_mul]; exact Nat.mul_le_mul_right _ hroom
      have := run_append_room (P := P) w t ty e i ht hi g m cap cur hg ad q c news hl hnews h1 hroom hfit
      rw [this] at hr; cases hr; exact .inl rfl
    · have holds : ∀ j u, xs[j]? = some u → w.cell? ((⟨g, 0, none⟩ : Addr).add j) = some u := hown.cells (g := g) rfl
      have := run_append_grow (P := P) w t ty e i z ht hi hz ⟨g, 0, none⟩ m cap xs hown.1 holds ad q c news hl hnews (by omega) (by omega) (growslice_fits (by omega) hbytes)
      rw [this] at hr; cases hr; exact .inr rfl

theorem Hp.append1 {w w' : World} {S : Nat → Prop} {v v' : Value} {e : TypeId} {k m q : Nat} {cs xs : List V} (h : Hp w S [.row v e k m cs]) (hg : w.grownBy w' v.ownBlock) (hb : v'.ownBlock = v.ownBlock ∨ v'.ownBlock = some w.heap.size) {us vs : List Value}
    (hown : w'.ownsRow 0 e k v' (m + q) (us ++ vs)) (hr : RL w S cs us) (hone : ∀ u ∈ us, u.oneCell' = true) (hx : RL w S xs vs) (hone2 : ∀ u ∈ vs, u.oneCell' = true) (hm : m + q ≤ 140737488355328) :
    Hp w' S [.row v' e k (m + q) (cs ++ xs)] ∧ Fr w S [.row v e k m cs] w' S [.row v' e k (m + q) (cs ++ xs)] := by
  have hk : Kept w S w' S := kept_same (fun b hb hlt => hg.block b hlt fun e => h.out b (inL_one.2 e.symm) hb) fun _ h => h
  refine ⟨⟨fun c hc => ?_, List.pairwise_singleton _ _, fun b hbl => ?_, fun b hS => Nat.lt_of_lt_of_le (h.lt b hS) hg.size⟩, ⟨hg.os, hg.tape, hg.output, hg.size, fun b hlt hn => hg.block b hlt fun e => hn (inL_one.2 e.symm), fun _ h => h, fun _ h _ => .inl h, fun b hbl hlt => ?_⟩⟩
  · simp at hc; subst hc
    refine ⟨us ++ vs, hown, (hr.move hk).append (hx.move hk), fun u hu => ?_, hm⟩
    rcases List.mem_append.1 hu with hu | hu
    · exact hone u hu
    · exact hone2 u hu
  · have hb2 : v'.ownBlock = some b := inL_one.1 hbl
    intro hS
    rcases hb with hb | hb
    · exact h.out b (inL_one.2 (show v.ownBlock = some b by rw [← hb]; exact hb2)) hS
    · rw [hb] at hb2; cases hb2; exact Nat.lt_irrefl _ (h.lt _ hS)
  · have hb2 : v'.ownBlock = some b := inL_one.1 hbl
    rcases hb with hb | hb
    · exact inL_one.2 (show v.ownBlock = some b by rw [← hb]; exact hb2)
    · rw [hb] at hb2; cases hb2; exact absurd hlt (Nat.lt_irrefl _)

section
variable {n : Nat} {o : Oper} {sl : Sl} {L : List Ch} {K : Sl → List Ch → Prop}
theorem set_self {L : List Ch} {j : Nat} {c : Ch} (h : L[j]? = some c) : L.set j c = L := by
  apply List.ext_getElem?
  intro i
  rw [List.getElem?_set]
  split
  · rename_i e; subst e; rw [if_pos (List.getElem?_eq_some_iff.1 h).1, h]
  · rfl
theorem Rep.ones {w : World} {S : Nat → Prop} {ds : List D} {us : List Value} (hl : us.length = ds.length) (hr : ∀ (j : Nat) (d : D) (u : Value), ds[j]? = some d → us[j]? = some u → Rep w S d u) (h1 : ds.all D.one = true) : ∀ u ∈ us, u.oneCell' = true := fun u hu => by
  obtain ⟨j, hj⟩ := List.getElem?_of_mem hu
  obtain ⟨d, hd⟩ : ∃ d, ds[j]? = some d := ⟨ds[j]'(by have := (List.getElem?_eq_some_iff.1 hj).1; omega), by simp⟩
  exact (hr j d u hd hj).one (List.all_eq_true.1 h1 d (List.mem_of_getElem? hd))
theorem aop_append {t e : TypeId} {x y : Operand} {j m q k bytes : Nat} {v : Value} {cs : List V} {ds : List D} [ht : TyL P t e k bytes] (ho : o.op = .call { callee := .builtin .append, args := #[x, y], argTypes := #[t, t] }) (hd : dstOk n o.dst = true)
    (hx : ev sl x = .v v) (hj : L[j]? = some (.row v e k m cs)) (hy : ev sl y = .d (.s q k ds)) (h1 : ds.all D.one = true) (hb : (m + q) * bytes ≤ 140737488355328) (hm : m + q ≤ 140737488355328)
    (hK : ∀ v', K (put sl o.dst (.v v')) (L.set j (.row v' e k (m + q) (cs ++ ds.map .d)))) : AOp P n o sl L K := by
  refine .of hd fun w S a hs => ?_
  have h := hs.ev y
  rw [hy] at h
  obtain ⟨p, cap, us, hv, _, _, _, hdl, hul, hp, hr⟩ := h.slice.slice
  have hone := Rep.ones hul hr h1
  obtain ⟨⟨us0, hown, hr0, hone0, hm0⟩, hp1⟩ := hs.hp.mem hj
  obtain ⟨i, z, hi, hiz, hzs, hsz, hby⟩ := ht.info
  by_cases hq : q = 0
  · subst hq
    have hd0 : ds = [] := List.length_eq_zero_iff.1 (by simpa using hdl)
    subst hd0
    have hrun : (Builtin.append_ #[t, t] o.type #[v, .slice p 0 cap]).run P w = .ok v w := by
      rcases hown.2 with ⟨rfl, rfl⟩ | ⟨g, cap', cur, rfl, _, _, hnc, _⟩
      · cases p <;> simp [Builtin.append_, run_underlying ht.und, sizeOf, typeInfo, hi, Builtin.lenOf, Builtin.firstCells, loadCells, loadCellsFrom]
      · cases p <;> simp [Builtin.append_, run_underlying ht.und, sizeOf, typeInfo, hi, Builtin.lenOf, Builtin.firstCells, hnc, storeCells, loadCells, loadCellsFrom]
    refine ⟨v, _, w, S, _, by simp [execOp, ho, resolve, invoke, builtin, hs.evv hx, hv, hrun], .v _, ?_, ?_, hK v⟩
    · simp only [Nat.add_zero, List.map_nil, List.append_nil]; rw [set_self hj]; exact hs.hp
    · simp only [Nat.add_zero, List.map_nil, List.append_nil]; rw [set_self hj]; exact .refl _ _ _
  · obtain ⟨b, off, rfl, hS, hc⟩ := hp (fun e => by rw [e] at hul; simp at hul; have := Nat.mul_pos (Nat.pos_of_ne_zero hq) ht.pos; omega)
    have hml : m + q ≤ maxLen := by unfold maxLen; omega
    have hnews : ∀ j u, us[j]? = some u → w.cell? ((⟨b, off, none⟩ : Addr).add j) = some u := fun j u hj => by rw [Addr.add_mid]; exact hc j u hj
    obtain ⟨v', w', hrun, h2, h3, _⟩ := run_append_own (P := P) w 0 t o.type e i z k bytes ht.und hi hiz hsz hby hzs ht.pos v m us0 hown ⟨b, off, none⟩ q cap us (by omega) hnews hone hml hb (Nat.zero_le _)
    have hfr := append_fresh ht.und hi hiz hsz hby hown ⟨b, off, none⟩ q cap us (by omega) hnews hone hb hm hrun
    obtain ⟨g1, g2⟩ := hp1.append1 h3 hfr h2 hr0 hone0 (xs := ds.map .d) ⟨by simpa using hul, fun j c u h1 h2 => by
      rw [List.getElem?_map] at h1
      cases hdj : ds[j]? with
      | none => rw [hdj] at h1; cases h1
      | some d => rw [hdj] at h1; cases h1; exact .d (hr j d u hdj h2)⟩ hone hm
    obtain ⟨g3, g4⟩ := hs.hp.upd hj g1 g2
    exact ⟨v', _, w', S, _, by simp [execOp, ho, resolve, invoke, builtin, hs.evv hx, hv, hrun], .v _, g3, g4, hK v'⟩

theorem madeCells_one (z : Value) (m : Nat) : (madeCells #[z] m).toList = List.replicate m z := by
  apply List.ext_getElem?
  intro i
  simp only [madeCells, Array.toList_map, Array.toList_range, List.getElem?_map, List.getElem?_replicate]
  by_cases h : i < m
  · simp [h, Nat.mod_one]
  · simp [h]
theorem Hp.newRow {w w' : World} {S : Nat → Prop} {L : List Ch} (h : Hp w S L) {v : Value} {e : TypeId} {k m : Nat} {us : List Value} {cs : List V} (hg : w.grownBy w' none) (hown : w'.ownsRow 0 e k v m us) (hv : v.ownBlock = some w.heap.size) (hr : RL w S cs us) (h1 : ∀ u ∈ us, u.oneCell' = true) (hm : m ≤ 140737488355328) :
    Hp w' S (.row v e k m cs :: L) ∧ Fr w S L w' S (.row v e k m cs :: L) := by
  have hk : Kept w S w' S := kept_same (fun b _ hlt => hg.block b hlt (by simp)) fun _ h => h
  refine ⟨⟨fun c hc => ?_, List.pairwise_cons.2 ⟨fun c hc b hb hb' => ?_, h.ap⟩, fun b hb hS => ?_, fun b hb => Nat.lt_of_lt_of_le (h.lt b hb) hg.size⟩, ⟨hg.os, hg.tape, hg.output, hg.size, fun b hb _ => hg.block b hb (by simp), fun _ h => h, fun _ h _ => .inl h, fun b hb hlt => ?_⟩⟩
  · rcases List.mem_cons.1 hc with rfl | hc
    · exact ⟨us, hown, hr.move hk, h1, hm⟩
    · exact (h.ok c hc).move (fun b hb => hg.block b ((h.ok c hc).lt hb) (by simp)) hk
  · have hb : v.ownBlock = some b := hb
    rw [hv] at hb; cases hb; exact Nat.lt_irrefl _ ((h.ok c hc).lt hb')
  · rcases inL_cons.1 hb with hb | hb
    · have hb : v.ownBlock = some b := hb
      rw [hv] at hb; cases hb; exact Nat.lt_irrefl _ (h.lt _ hS)
    · exact h.out b hb hS
  · rcases inL_cons.1 hb with hb | hb
    · have hb : v.ownBlock = some b := hb
      rw [hv] at hb; cases hb; exact absurd hlt (Nat.lt_irrefl _)
    · exact hb
theorem aop_make {t e : TypeId} {x y : Operand} {bytes : Nat} {z : Value} {kl kc : IntKind} {p q : Int} [ht : TyL P t e 1 bytes] [hz : TyZL P e [z]] (ho : o.op = .makeSlice t x y) (hd : dstOk n o.dst = true) (hx : ev sl x = .v (.int kl p)) (hy : ev sl y = .v (.int kc q)) (m : Nat) (hp : p = (m : Int)) (hq : q = (m : Int)) (hb : bytes * m ≤ 281474976710656) (hm : m ≤ 140737488355328)
    (hK : ∀ v, v ≠ .slice none 0 0 → K (put sl o.dst (.v v)) (.row v e 1 m (List.replicate m (.v z)) :: L)) : AOp P n o sl L K := by
  subst hp hq
  refine .of hd fun w S a hs => ?_
  obtain ⟨i, v, hi, hiz, hic⟩ := hz.info
  obtain ⟨i', v', hi', hiz', hl, hsz, hby⟩ := ht.info
  rw [hi] at hi'; cases hi'
  rw [hiz] at hiz'; cases hiz'
  have hz1 : z.oneCell' = true := by have := hz.one; simpa using this
  obtain ⟨w', hrun, hown, hgr⟩ := run_make_full (P := P) w 0 t e i v 1 ht.und hi hiz hsz kl kc m (by rw [hby]; exact hb) (by unfold maxLen; omega) (Nat.zero_le _)
  rw [hic, Nat.mul_one] at hown
  have hc1 : (madeCells [z].toArray m).toList = List.replicate m z := madeCells_one z m
  rw [hc1] at hown
  obtain ⟨g1, g2⟩ := hs.hp.newRow (cs := List.replicate m (.v z)) hgr hown rfl (by have := RL_vals w S (List.replicate m z); simpa [zV] using this) (fun u hu => by rw [(List.mem_replicate.1 hu).2]; exact hz1) hm
  exact ⟨_, _, w', S, _, by simp [execOp, ho, hs.evv hx, hs.evv hy, hrun], .v _, g1, g2, hK _ (by simp)⟩
/-- a slice literal as a row of one's own -/
theorem aop_buildRow {t e : TypeId} {len k bytes : Nat} {parts : Array (Nat × Operand)} {z : List Value} [ht : TyL P t e k bytes] [hz : TyZL P e z] (ho : o.op = .buildSlice t len parts) (hd : dstOk n o.dst = true) (cs : List V)
    (hc : fillV (fun i => some (i * k, k)) (zeros z (len * k)) (evP sl parts) = some cs) (h0 : 0 < len) (hsm : len * k ≤ 16777216) (hK : ∀ v, K (put sl o.dst (.v v)) (.row v e k len cs :: L)) : AOp P n o sl L K := by
  refine .of hd fun w S a hs => ?_
  obtain ⟨e1, e2⟩ := evP_rep hs.ev parts
  obtain ⟨us0, g0, gr, gone⟩ := zeros_rep w S (len * k) hz.one hz.ne
  obtain ⟨us', g1, g2, g3⟩ := fill_rep _ _ _ _ us0 hc gr gone e1 e2
  obtain ⟨i, v, hi, hiz, hic⟩ := hz.info
  obtain ⟨i', v', hi', hiz', hl, hsz, hby⟩ := ht.info
  rw [hi] at hi'; cases hi'
  rw [hiz] at hiz'; cases hiz'
  have hpos : 0 < len * k := Nat.mul_pos h0 ht.pos
  have hul : us'.length = len * k := by rw [g2.1, fillV_length _ _ _ _ hc]; simp [zeros]
  have hrun := run_buildSlice (P := P) w t e len (parts.map fun x => (x.1, a.eval x.2)) us'.toArray i v ht.und hi hiz (by rw [hsz]; omega) (by rw [hsz]; omega) (by
    rw [hsz, hic, g0]
    have e3 : (parts.map (fun x : Nat × Operand => (x.1, a.eval x.2))).toList = parts.toList.map fun p => (p.1, a.eval p.2) := by simp
    rw [e3]; exact g1)
  have hlk : len ≤ len * k := Nat.le_mul_of_pos_right _ ht.pos
  obtain ⟨h3, h4⟩ := hs.hp.newRow (w' := w.alloc (.cells us'.toArray e)) (v := .slice (some ⟨w.heap.size, 0, none⟩) len len) (e := e) (k := k) (m := len) (World.grownBy_alloc w _ none)
    ⟨hul, .inr ⟨w.heap.size, len, us'.toArray, rfl, Nat.zero_le _, heap_alloc_new w _, Nat.le_refl _, by unfold maxLen; omega, by simpa using hul, by rw [← hul]; simp⟩⟩ rfl g2 g3 (by omega)
  exact ⟨_, _, w.alloc (.cells us'.toArray e), S, _, by simp [execOp, ho, hrun], .v _, h3, h4, hK _⟩

theorem Hp.toData {w w' : World} {S : Nat → Prop} {v : Value} {e : TypeId} {k m : Nat} {cs : List V} (h : Hp w S [.row v e k m cs]) (hd : cs.all V.isD = true) (hc : ∀ b o, w'.cell? ⟨b, o, none⟩ = w.cell? ⟨b, o, none⟩) (hsame : ∀ b, v.ownBlock ≠ some b → w'.heap[b]? = w.heap[b]?) (hsz : w'.heap.size = w.heap.size)
    (hos : w'.os = w.os) (htape : w'.tape = w.tape) (hout : w'.output = w.output) :
    Rep w' (fun b => S b ∨ v.ownBlock = some b) (.s m k (cs.map V.toD)) v ∧ Hp w' (fun b => S b ∨ v.ownBlock = some b) [.emp] ∧ Fr w S [.row v e k m cs] w' (fun b => S b ∨ v.ownBlock = some b) [.emp] := by
  obtain ⟨us, hown, hr, hone, hm⟩ := h.ok (.row v e k m cs) (by simp)
  have hk : Kept w S w' (fun b => S b ∨ v.ownBlock = some b) := kept_same (fun b hb _ => hsame b fun e => h.out b (inL_one.2 e) hb) fun _ h => .inl h
  have hrep : Rep w' (fun b => S b ∨ v.ownBlock = some b) (.s m k (cs.map V.toD)) v := by
    obtain ⟨d1, d2⟩ := (hr.move hk).toD hd
    have hdl : (cs.map V.toD).length = m * k := by rw [d1]; exact hown.1
    rcases hown.2 with ⟨rfl, rfl⟩ | ⟨g, cap, cur, rfl, _, hg, hnc, hcm, hcs, htake⟩
    · exact .s us (by omega) (Nat.le_refl _) (by omega) hdl d1.symm (fun hne => absurd (List.length_eq_zero_iff.1 (by have := hown.1; simpa using this)) hne) d2
    · refine .s us hm hnc (by simpa [maxLen] using hcm) hdl d1.symm (fun _ => ⟨g, 0, rfl, .inr rfl, fun j u hj => ?_⟩) d2
      rw [hc, Nat.zero_add]
      have := hown.cells (g := g) rfl j u hj
      rwa [Addr.add_mid, Nat.zero_add] at this
  refine ⟨hrep, ⟨fun c hc => by simp at hc; subst hc; trivial, List.pairwise_singleton _ _, fun b hb => (by have := inL_one.1 hb; cases this), fun b hb => ?_⟩, ⟨hos, htape, hout, Nat.le_of_eq hsz.symm, fun b _ hn => hsame b fun e => hn (inL_one.2 e), fun _ h => .inl h, fun b hb _ => hb.imp id fun e => inL_one.2 e, fun b hb => (by have := inL_one.1 hb; cases this)⟩⟩
  rw [hsz]
  rcases hb with hb | hb
  · exact h.lt b hb
  · exact (hown.lt b hb).2
theorem aop_conv_row {t e : TypeId} {x : Operand} {j m k bytes : Nat} {v : Value} {cs : List V} [ht : TyL P t e k bytes] (hu8 : P.underlying e = some (.int .u8)) (ho : o.op = .convert t t x) (hd : dstOk n o.dst = true) (hx : ev sl x = .v v) (hj : L[j]? = some (.row v e k m cs)) (hD : cs.all V.isD = true) (hm : 0 < m)
    (hK : K (put sl o.dst (.d (.s m k (cs.map V.toD)))) (L.set j .emp)) : AOp P n o sl L K := by
  refine .of hd fun w S a hs => ?_
  obtain ⟨⟨us, hown, hr, hone, _⟩, hp1⟩ := hs.hp.mem hj
  rcases hown.2 with ⟨_, h0⟩ | ⟨g, cap, cur, rfl, _, hg, _⟩
  · omega
  · have hheap : ∀ b, (w.freeze ⟨g, cur.size, none⟩ 1).heap[b]? = if b = g then some (.cells cur e (cur.size, cur.size + 1)) else w.heap[b]? := fun b => by
      by_cases hb : b = g
      · subst hb
        simp [World.freeze, Array.getElem?_modify, hg]
      · simp only [World.freeze]
        rw [if_neg (by decide), if_neg hb, Array.getElem?_modify, if_neg (fun e => hb e.symm)]
    have hcell : ∀ b o, (w.freeze ⟨g, cur.size, none⟩ 1).cell? ⟨b, o, none⟩ = w.cell? ⟨b, o, none⟩ := fun b o => by
      unfold World.cell?
      rw [hheap]
      by_cases hb : b = g
      · subst hb; simp [hg]
      · simp [hb]
    have hsz : (w.freeze ⟨g, cur.size, none⟩ 1).heap.size = w.heap.size := by simp [World.freeze]
    obtain ⟨q1, q2, q3⟩ := hp1.toData hD hcell (fun b hb => by rw [hheap, if_neg (fun e => hb (by rw [e]; rfl))]) hsz (by simp [World.freeze]) (by simp [World.freeze]) (by simp [World.freeze])
    obtain ⟨q4, q5⟩ := hs.hp.upd hj q2 q3
    have hsh : w.shape? g = some (e, cur.size) := by simp [World.shape?, hg]
    refine ⟨_, _, w.freeze ⟨g, cur.size, none⟩ 1, _, _, ?_, .d q1, q4, q5, hK⟩
    simp [execOp, ho, hs.evv hx, convert, run_underlying ht.und, run_underlying hu8, markStringish, shape, Sem.run, hsh, freeze]
end
end Go.Proofs.Ytlagablcopmhkaa
/- Walking with descriptions: regions, code, loops, functions, calls. -/
namespace Go.Proofs.Ytlagablcopmhkaa
open Go.RowKit
variable {P : Program} {n : Nat}

/-- weaker descriptions -/
def Le (n : Nat) (sl : Sl) (L : List Ch) (sl' : Sl) (L' : List Ch) : Prop := ∀ (w : World) (S : Nat → Prop) (a : Act), St n w S sl L a → ∃ S', St n w S' sl' L' a ∧ Fr w S L w S' L'
theorem Le.refl (sl : Sl) (L : List Ch) : Le n sl L sl L := fun w S _ h => ⟨S, h, .refl w S L⟩
theorem Le.trans {sl sl1 sl2 : Sl} {L L1 L2 : List Ch} (h : Le n sl L sl1 L1) (k : Le n sl1 L1 sl2 L2) : Le n sl L sl2 L2 := fun w S a hs =>
  let ⟨S1, h1, f1⟩ := h w S a hs; let ⟨S2, h2, f2⟩ := k w S1 a h1; ⟨S2, h2, f1.trans f2⟩
def VLe (c c' : V) : Prop := ∀ (w : World) (S : Nat → Prop) (v : Value), R w S c v → R w S c' v
theorem VLe.refl (c : V) : VLe c c := fun _ _ _ h => h
theorem VLe.j (c : V) : VLe c .j := fun _ _ v _ => .j v
theorem VLe.nil (k : Nat) : VLe .nil (.d (.s 0 k [])) := fun w S v h => by
  rw [h.unv]; exact .d (.s [] (by simp) (by simp) (by simp) (by simp) rfl (fun h => absurd rfl h) (by simp))
/-- fewer slots, and weaker ones -/
theorem Le.slots {sl sl' : Sl} {L : List Ch} (h : ∀ p ∈ sl', VLe (look sl p.1) p.2) : Le n sl L sl' L := fun w S a hs => by
  refine ⟨S, ⟨hs.hp, hs.size, fun t => ?_, hs.df⟩, .refl _ _ _⟩
  have key : ∀ l : Sl, (∀ p ∈ l, VLe (look sl p.1) p.2) → R w S (look l t) (a.tmps.getD t undef) := by
    intro l
    induction l with
    | nil => intro _; exact .j _
    | cons p r ih =>
      intro hl
      obtain ⟨d, c⟩ := p
      show R w S (bif Nat.beq d t then c else look r t) _
      cases hb : Nat.beq d t with
      | true =>
        have := Nat.eq_of_beq_eq_true hb
        subst this
        exact hl (d, c) List.mem_cons_self w S _ (hs.sl d)
      | false => exact ih fun p hp => hl p (List.mem_cons_of_mem _ hp)
  exact key sl' h
theorem Le.eqs {sl : Sl} {L : List Ch} {sl' : Sl} (h : sl'.map (fun p => look sl p.1) = sl'.map (·.2)) : Le n sl L sl' L := .slots fun p hp => by
  have : look sl p.1 = p.2 := by
    obtain ⟨j, hj⟩ := List.getElem?_of_mem hp
    have e := congrArg (·[j]?) h
    simpa [hj] using e
  rw [this]; exact .refl _
theorem Le.perm {sl : Sl} {L L' : List Ch} (h : L.Perm L') : Le n sl L sl L' := fun w S a hs => ⟨S, ⟨hs.hp.perm h, hs.size, hs.sl, hs.df.move ((Fr.refl w S L).perm (.refl _) h)⟩, (Fr.refl w S L).perm (.refl _) h⟩
theorem Le.sub {sl : Sl} {L L' : List Ch} (h : L'.Sublist L) : Le n sl L sl L' := fun w S a hs => ⟨S, ⟨(hs.hp.sub h).1, hs.size, hs.sl, hs.df.move (hs.hp.sub h).2⟩, (hs.hp.sub h).2⟩
/-- a nil slice as a row of one's own -/
theorem Le.addNil {sl : Sl} {L : List Ch} (e : TypeId) (k : Nat) : Le n sl L sl (.row (.slice none 0 0) e k 0 [] :: L) := fun w S a hs => by
  have e1 : ∀ b, inL (.row (.slice none 0 0) e k 0 [] :: L) b ↔ inL L b := fun b => by rw [inL_cons]; exact ⟨fun h => h.elim (fun h => (by cases h)) id, .inr⟩
  have hf : Fr w S L w S (.row (.slice none 0 0) e k 0 [] :: L) := ⟨rfl, rfl, rfl, Nat.le_refl _, fun _ _ _ => rfl, fun _ h => h, fun _ h _ => .inl h, fun b hb _ => (e1 b).1 hb⟩
  refine ⟨S, ⟨⟨fun c hc => ?_, List.pairwise_cons.2 ⟨fun c _ b hb => (by cases hb), hs.hp.ap⟩, fun b hb => hs.hp.out b ((e1 b).1 hb), hs.hp.lt⟩, hs.size, hs.sl, hs.df.move hf⟩, hf⟩
  rcases List.mem_cons.1 hc with rfl | hc
  · exact ⟨[], World.ownsRow_nil _ _ _ _, .nil _ _, by simp, by omega⟩
  · exact hs.hp.ok c hc
/-- a row is written no more -/
theorem Le.freeze {sl : Sl} {L : List Ch} (s : Nat) {j m k : Nat} {v : Value} {e : TypeId} {cs : List V} (hj : L[j]? = some (.row v e k m cs)) (hs : look sl s = .v v) (hD : cs.all V.isD = true) : Le n sl L ((s, .d (.s m k (cs.map V.toD))) :: sl) (L.set j .emp) := fun w S a h => by
  obtain ⟨q1, q2, q3⟩ := (h.hp.mem hj).2.toData hD (fun _ _ => rfl) (fun _ _ => rfl) rfl rfl rfl rfl
  obtain ⟨q4, q5⟩ := h.hp.upd hj q2 q3
  refine ⟨_, ⟨q4, h.size, fun t => ?_, h.df.move q5⟩, q5⟩
  show R w _ (bif Nat.beq s t then _ else look sl t) _
  cases hb : Nat.beq s t with
  | true =>
    have := Nat.eq_of_beq_eq_true hb
    subst this
    have h1 := h.sl s
    rw [hs] at h1
    rw [h1.unv]
    exact .d q1
  | false => exact (h.sl t).move (q5.kept h.hp)
/-- a row in a box's cell is written no more -/
theorem Le.freezeIn {sl : Sl} {L : List Ch} {i j o m k b : Nat} {v : Value} {e ty : TypeId} {cs bs : List V} (hj : L[j]? = some (.row v e k m cs)) (hi : L[i]? = some (.box b ty bs)) (ho : bs[o]? = some (.v v)) (hD : cs.all V.isD = true) :
    Le n sl L sl ((L.set j .emp).set i (.box b ty (bs.set o (.d (.s m k (cs.map V.toD)))))) := fun w S a h => by
  obtain ⟨q1, q2, q3⟩ := (h.hp.mem hj).2.toData hD (fun _ _ => rfl) (fun _ _ => rfl) rfl rfl rfl rfl
  obtain ⟨q4, q5⟩ := h.hp.upd hj q2 q3
  have hij : i ≠ j := by rintro rfl; rw [hi] at hj; cases hj
  have hi2 : (L.set j .emp)[i]? = some (.box b ty bs) := by rw [List.getElem?_set_ne hij.symm]; exact hi
  obtain ⟨⟨us, hb1, hb2, hb3⟩, q6⟩ := q4.mem hi2
  have q7 : Hp w (fun x => S x ∨ v.ownBlock = some x) [.box b ty (bs.set o (.d (.s m k (cs.map V.toD))))] := by
    refine ⟨fun c hc => ?_, List.pairwise_singleton _ _, fun x hx => q6.out x (inL_one.2 (by have := inL_one.1 hx; exact this)), q6.lt⟩
    simp at hc; subst hc
    refine ⟨us, hb1, ⟨by simp [hb2.1], fun t c u h1 h2 => ?_⟩, hb3⟩
    rw [List.getElem?_set] at h1
    split at h1
    · rename_i e1
      subst e1
      split at h1
      · cases h1
        have hr := hb2.2 o _ u ho h2
        rw [hr.unv]
        exact .d q1
      · cases h1
    · exact hb2.2 t c u h1 h2
  obtain ⟨q8, q9⟩ := q4.upd hi2 q7 ⟨rfl, rfl, rfl, Nat.le_refl _, fun _ _ _ => rfl, fun _ h => h, fun _ h _ => .inl h, fun x hx _ => inL_one.2 (by have := inL_one.1 hx; exact this)⟩
  exact ⟨_, ⟨q8, h.size, fun t => (h.sl t).move ((q5.trans q9).kept h.hp), h.df.move (q5.trans q9)⟩, q5.trans q9⟩

def gslot (all : Array Oper) (j : Nat) : Option Tmp := (all[j]?).bind (·.dst)
/-- operations one behind the other -/
def AOs (P : Program) (n : Nat) (all : Array Oper) : List Oper → Sl → List Ch → (Sl → List Ch → Prop) → Prop
  | [], sl, L, K => K sl L
  | o :: r, sl, L, K =>
    (o.guard = none ∧ AOp P n o sl L fun sl' L' => AOs P n all r sl' L' K) ∨
    (∃ (j : Nat) (want c : Bool) (d : Nat), o.guard = some (j, want) ∧ gslot all j = some d ∧ look sl d = .b c ∧
      ((c = want ∧ AOp P n o sl L fun sl' L' => AOs P n all r sl' L' K) ∨ (c ≠ want ∧ dstOk n o.dst = true ∧ AOs P n all r (put sl o.dst (.v undef)) L K))) ∨
    (∃ (j : Nat) (want : Bool) (d : Nat), o.guard = some (j, want) ∧ gslot all j = some d ∧ look sl d = .v undef ∧ dstOk n o.dst = true ∧ AOs P n all r (put sl o.dst (.v undef)) L K)
theorem yielded_of {all : Array Oper} {w : World} {S : Nat → Prop} {sl : Sl} {L : List Ch} {a : Act} (h : St n w S sl L a) {j d : Nat} {c : Bool} (hj : gslot all j = some d) (hd : look sl d = .b c) : yielded all a.tmps j = some c := by
  have h1 := h.evv (x := .tmp d) (v := .bool c) hd
  have h2 : a.tmps.getD d undef = .bool c := h1
  unfold gslot at hj
  rw [Array.getD_eq_getD_getElem?] at h2
  cases ht : a.tmps[d]? with
  | none => rw [ht] at h2; cases h2
  | some u => rw [ht] at h2; simp at h2; subst h2; simp [yielded, hj, ht]
theorem yielded_undef {all : Array Oper} {w : World} {S : Nat → Prop} {sl : Sl} {L : List Ch} {a : Act} (h : St n w S sl L a) {j d : Nat} (hj : gslot all j = some d) (hd : look sl d = .v undef) : yielded all a.tmps j = none := by
  have h1 := h.evv (x := .tmp d) (v := undef) hd
  have h2 : a.tmps.getD d undef = undef := h1
  unfold gslot at hj
  rw [Array.getD_eq_getD_getElem?] at h2
  cases ht : a.tmps[d]? with
  | none => simp [yielded, hj, ht]
  | some u => rw [ht] at h2; simp at h2; subst h2; simp [yielded, hj, ht, undef]
theorem put_defers (a : Act) (d : Option Tmp) (v : Value) : (a.put d v).defers = a.defers := by cases d <;> rfl
theorem AOs.sound {all : Array Oper} {K : Sl → List Ch → Prop} (ro : Option Nat) : ∀ (r : List Oper) (i : Nat) (sl : Sl) (L : List Ch), all.toList.drop i = r → AOs P n all r sl L K → ∀ (w : World) (S : Nat → Prop) (a : Act), St n w S sl L a → ∀ Q : Exit → Act → World → Prop,
    (∀ (sl' : Sl) (L' : List Ch) (S' : Nat → Prop) (a' : Act) (w' : World), K sl' L' → St n w' S' sl' L' a' → Fr w S L w' S' L' → a'.defers = a.defers → Q .normal a' w') → wpOpsIn (fen ro) 0 P all Q (List.range' i r.length) a w
  | [], i, sl, L, _, h, w, S, a, hs, Q, hQ => hQ _ _ _ _ _ h hs (.refl _ _ _) rfl
  | o :: r, i, sl, L, hi, h, w, S, a, hs, Q, hQ => by
    have hoi : all[i]? = some o := by
      have : (all.toList.drop i)[0]? = some o := by rw [hi]; rfl
      simpa using this
    have hr : all.toList.drop (i + 1) = r := by rw [← List.drop_drop, hi]; rfl
    rw [List.length_cons, List.range'_succ, wpOpsIn_cons]
    unfold wpOpIn
    simp only [hoi]
    have go : AOp P n o sl L (fun sl' L' => AOs P n all r sl' L' K) → o.wpIn (fen ro) 0 P a w (wpOpsIn (fen ro) 0 P all Q (List.range' (i + 1) r.length)) Q := fun h1 =>
      h1.wpIn ro hs _ _ fun sl' L' S' a' w' hK hs' hf ⟨v, hv⟩ => AOs.sound ro r (i + 1) sl' L' hr hK w' S' a' hs' Q fun sl2 L2 S2 a2 w2 hK2 hs2 hf2 hd => hQ _ _ _ _ _ hK2 hs2 (hf.trans hf2) (by rw [hd, hv, put_defers])
    have skip : dstOk n o.dst = true → AOs P n all r (put sl o.dst (.v undef)) L K → wpOpsIn (fen ro) 0 P all Q (List.range' (i + 1) r.length) (a.put o.dst undef) w := fun hdst h1 =>
      AOs.sound ro r (i + 1) _ L hr h1 w S _ (hs.put hdst (.refl _ _ _) hs.hp (.v undef)) Q fun sl2 L2 S2 a2 w2 hK2 hs2 hf2 hd => hQ _ _ _ _ _ hK2 hs2 hf2 (by rw [hd, put_defers])
    rcases h with ⟨hg, h1⟩ | ⟨j, want, c, d, hg, hj, hd, h1⟩ | ⟨j, want, d, hg, hj, hd, hdst, h1⟩
    · rw [if_pos (by simp [Region.wanted, hg])]
      exact go h1
    rotate_left
    · have hy := yielded_undef hs hj hd
      rw [if_neg (by simp [Region.wanted, hg, hy])]
      exact ⟨fun _ _ => trivial, skip hdst h1⟩
    · have hy := yielded_of hs hj hd
      rcases h1 with ⟨hc, h1⟩ | ⟨hc, hdst, h1⟩
      · rw [if_pos (by simp [Region.wanted, hg, hy, hc])]
        exact go h1
      · rw [if_neg (by simp [Region.wanted, hg, hy, hc])]
        exact ⟨fun _ _ => trivial, skip hdst h1⟩

section
variable {all : Array Oper} {o : Oper} {r : List Oper} {sl : Sl} {L : List Ch} {K : Sl → List Ch → Prop}
theorem aos_nil (h : K sl L) : AOs P n all [] sl L K := h
theorem aos_cons (hg : o.guard = none) (h : AOp P n o sl L fun sl' L' => AOs P n all r sl' L' K) : AOs P n all (o :: r) sl L K := .inl ⟨hg, h⟩
theorem aos_yes {j d : Nat} {c : Bool} (hg : o.guard = some (j, c)) (hj : gslot all j = some d) (hd : look sl d = .b c) (h : AOp P n o sl L fun sl' L' => AOs P n all r sl' L' K) : AOs P n all (o :: r) sl L K := .inr (.inl ⟨j, c, c, d, hg, hj, hd, .inl ⟨rfl, h⟩⟩)
theorem aos_no {j d : Nat} {want c : Bool} (hg : o.guard = some (j, want)) (hj : gslot all j = some d) (hd : look sl d = .b c) (hc : c = !want) (hdst : dstOk n o.dst = true) (h : AOs P n all r (put sl o.dst (.v undef)) L K) : AOs P n all (o :: r) sl L K :=
  .inr (.inl ⟨j, want, c, d, hg, hj, hd, .inr ⟨by rw [hc]; cases want <;> simp, hdst, h⟩⟩)
theorem aos_le {sl' : Sl} {L' : List Ch} (hl : Le n sl L sl' L') (h : AOs P n all (o :: r) sl' L' K) (hg : o.guard = none) : AOs P n all (o :: r) sl L K := by
  refine .inl ⟨hg, fun w S a hs nx Q hnx => ?_⟩
  obtain ⟨S', h1, f1⟩ := hl w S a hs
  rcases h with ⟨_, h2⟩ | ⟨j, want, c, d, hg2, _⟩ | ⟨j, want, d, hg2, _⟩
  · exact h2 w S' a h1 nx Q fun sl2 L2 S2 a2 w2 k1 k2 k3 k4 => hnx _ _ _ _ _ k1 k2 (f1.trans k3) k4
  · rw [hg] at hg2; cases hg2
  · rw [hg] at hg2; cases hg2
end

/-- the marks are new -/
def MB (B : Nat) (w : World) (a : Act) : Prop := B ≤ w.heap.size ∧ ∀ D, mark D ∈ a.defers → B ≤ D
theorem MB.same {B : Nat} {w w' : World} {a a' : Act} {S S' : Nat → Prop} {L L' : List Ch} (h : MB B w a) (hf : Fr w S L w' S' L') (hd : a'.defers = a.defers) : MB B w' a' := ⟨Nat.le_trans h.1 hf.size, fun D hm => h.2 D (by rw [← hd]; exact hm)⟩
/-- code -/
def AW (P : Program) (n : Nat) (ro : Option Nat) (c : Code) (sl : Sl) (L : List Ch) (Q : Exit → Sl → List Ch → Prop) : Prop :=
  ∀ (w : World) (S : Nat → Prop) (a : Act) (B : Nat), St n w S sl L a → MB B w a → ∀ Qr : Exit → Act → World → Prop,
    (∀ (ex : Exit) (sl' : Sl) (L' : List Ch) (S' : Nat → Prop) (a' : Act) (w' : World), Q ex sl' L' → St n w' S' sl' L' a' → Fr w S L w' S' L' → MB B w' a' → Qr ex a' w') → c.wpIn (fen ro) 0 P Qr a w
variable {ro : Option Nat}
section
variable {sl : Sl} {L : List Ch} {Q : Exit → Sl → List Ch → Prop}
def thenQ (K : Sl → List Ch → Prop) (Q : Exit → Sl → List Ch → Prop) : Exit → Sl → List Ch → Prop
  | .normal => K
  | e => Q e
def inBlk (id : Nat) (Q : Exit → Sl → List Ch → Prop) : Exit → Sl → List Ch → Prop
  | .exit i => bif Nat.beq i id then Q .normal else Q (.exit i)
  | e => Q e
theorem aw_mono {c : Code} {Q' : Exit → Sl → List Ch → Prop} (h : AW P n ro c sl L Q) (hq : ∀ ex sl' L', Q ex sl' L' → Q' ex sl' L') : AW P n ro c sl L Q' := fun w S a B hs hb Qr hQr => h w S a B hs hb Qr fun ex sl' L' S' a' w' h1 h2 h3 h4 => hQr _ _ _ _ _ _ (hq _ _ _ h1) h2 h3 h4
theorem aw_le {c : Code} {sl' : Sl} {L' : List Ch} (hl : Le n sl L sl' L') (h : AW P n ro c sl' L' Q) : AW P n ro c sl L Q := fun w S a B hs hb Qr hQr => by
  obtain ⟨S', h1, f1⟩ := hl w S a hs
  exact h w S' a B h1 hb Qr fun ex sl2 L2 S2 a2 w2 k1 k2 k3 k4 => hQr _ _ _ _ _ _ k1 k2 (f1.trans k3) k4
theorem aw_skip (h : Q .normal sl L) : AW P n ro .skip sl L Q := fun _ _ _ _ hs hb _ hQr => wpIn_skip (hQr _ _ _ _ _ _ h hs (.refl _ _ _) hb)
theorem aw_exit {id : Nat} (h : Q (.exit id) sl L) : AW P n ro (.exit id) sl L Q := fun _ _ _ _ hs hb _ hQr => wpIn_exit (hQr _ _ _ _ _ _ h hs (.refl _ _ _) hb)
theorem aw_ret (h : Q .ret sl L) : AW P n ro .ret sl L Q := fun _ _ _ _ hs hb _ hQr => wpIn_ret (hQr _ _ _ _ _ _ h hs (.refl _ _ _) hb)
theorem aw_region {id : Nat} {ops : List Oper} (h : AOs P n ops.toArray ops sl L (Q .normal)) : AW P n ro (.region id ops.toArray false) sl L Q := fun w S a B hs hb Qr hQr => by
  refine wpIn_region ?_
  have := AOs.sound ro ops 0 sl L (by simp) h w S a hs Qr fun sl' L' S' a' w' h1 h2 h3 h4 => hQr _ _ _ _ _ _ h1 h2 h3 (hb.same h3 h4)
  rwa [List.size_toArray, List.range_eq_range']
theorem aw_seq {x y : Code} (h : AW P n ro x sl L (thenQ (fun sl' L' => AW P n ro y sl' L' Q) Q)) : AW P n ro (.seq x y) sl L Q := fun w S a B hs hb Qr hQr => by
  refine wpIn_seq (h w S a B hs hb _ fun ex sl' L' S' a' w' h1 h2 h3 h4 => ?_)
  cases ex with
  | normal => exact h1 w' S' a' B h2 h4 Qr fun ex2 sl2 L2 S2 a2 w2 k1 k2 k3 k4 => hQr _ _ _ _ _ _ k1 k2 (h3.trans k3) k4
  | _ => exact hQr _ _ _ _ _ _ h1 h2 h3 h4
theorem aw_cond {c : Operand} {x y : Code} (t : Bool) (hc : ev sl c = .b t) (h : AW P n ro (bif t then x else y) sl L Q) : AW P n ro (.cond c x y) sl L Q := fun w S a B hs hb Qr hQr => by
  refine wpIn_cond (hs.evv hc) ?_
  cases t
  · exact h w S a B hs hb Qr hQr
  · exact h w S a B hs hb Qr hQr
theorem aw_block {id : Nat} {c : Code} (h : AW P n ro c sl L (inBlk id Q)) : AW P n ro (.block id c) sl L Q := fun w S a B hs hb Qr hQr => by
  refine wpIn_block (h w S a B hs hb _ fun ex sl' L' S' a' w' h1 h2 h3 h4 => ?_)
  cases ex with
  | exit i =>
    by_cases e : i = id
    · subst e
      simp only [inBlk, Nat.beq_refl, cond_true] at h1
      simp only [Exit.inBlock, if_true]
      exact hQr _ _ _ _ _ _ h1 h2 h3 h4
    · have hb : Nat.beq i id = false := by cases hb : Nat.beq i id with | false => rfl | true => exact absurd (Nat.eq_of_beq_eq_true hb) e
      simp only [inBlk, hb, cond_false] at h1
      simp only [Exit.inBlock, e, if_false]
      exact hQr _ _ _ _ _ _ h1 h2 h3 h4
  | _ => exact hQr _ _ _ _ _ _ h1 h2 h3 h4
/-- a loop: what holds at its head, with a number that goes down -/
theorem aw_loop {c : Code} (I : Nat → Sl → List Ch → Prop) (m0 : Nat) (h0 : ∃ sl' L', Le n sl L sl' L' ∧ I m0 sl' L')
    (round : ∀ m sl L, I m sl L → AW P n ro c sl L (thenQ (fun sl1 L1 => ∃ m' sl' L', m' < m ∧ Le n sl1 L1 sl' L' ∧ I m' sl' L') Q)) : AW P n ro (.loop c) sl L Q := fun w S a B hs hb Qr hQr => by
  let T : Nat → Act → World → Prop := fun m a' w' => ∃ sl' L' S', I m sl' L' ∧ St n w' S' sl' L' a' ∧ Fr w S L w' S' L' ∧ MB B w' a'
  have hex : ∀ (a' : Act) (w' : World), (∃ m, T m a' w') → ∃ m, T m a' w' ∧ ∀ m', T m' a' w' → m ≤ m' := fun a' w' ⟨m, hm⟩ => by
    induction m using Nat.strongRecOn with
    | _ m ih =>
      by_cases h : ∃ m', m' < m ∧ T m' a' w'
      · obtain ⟨m', h1, h2⟩ := h; exact ih m' h1 h2
      · exact ⟨m, hm, fun m' hm' => Nat.le_of_not_lt fun hlt => h ⟨m', hlt, hm'⟩⟩
  classical
  let μ : Act → World → Nat := fun a' w' => if h : ∃ m, T m a' w' then Classical.choose (hex a' w' h) else 0
  have hμ : ∀ a' w', (∃ m, T m a' w') → T (μ a' w') a' w' ∧ ∀ m', T m' a' w' → μ a' w' ≤ m' := fun a' w' h => by
    have := Classical.choose_spec (hex a' w' h)
    simp only [μ, dif_pos h]
    exact this
  obtain ⟨sl0, L0, hle, hI0⟩ := h0
  obtain ⟨S0, hs0, f0⟩ := hle w S a hs
  refine wpIn_loop (fun a' w' => ∃ m, T m a' w') μ ⟨m0, sl0, L0, S0, hI0, hs0, f0, hb⟩ fun a' w' hT => ?_
  obtain ⟨⟨sl1, L1, S1, hI1, hs1, f1, hb1⟩, _⟩ := hμ a' w' hT
  refine round _ sl1 L1 hI1 w' S1 a' B hs1 hb1 _ fun ex sl2 L2 S2 a2 w2 h1 h2 h3 h4 => ?_
  cases ex with
  | normal =>
    obtain ⟨m', sl3, L3, hlt, hle3, hI3⟩ := h1
    obtain ⟨S3, hs3, f3⟩ := hle3 w2 S2 a2 h2
    have hT2 : T m' a2 w2 := ⟨sl3, L3, S3, hI3, hs3, f1.trans (h3.trans f3), h4⟩
    exact ⟨⟨m', hT2⟩, Nat.lt_of_le_of_lt ((hμ a2 w2 ⟨m', hT2⟩).2 m' hT2) hlt⟩
  | _ => exact hQr _ _ _ _ _ _ h1 h2 (f1.trans h3) h4
/-- a loop by its states -/
theorem aw_for {ι : Type} {c : Code} (Sf : ι → Sl) (Hf : ι → List Ch) (p : ι → Prop) (μ : ι → Nat) (i0 : ι) (h0 : p i0) (hle : Le n sl L (Sf i0) (Hf i0))
    (round : ∀ i, p i → AW P n ro c (Sf i) (Hf i) (thenQ (fun sl1 L1 => ∃ i', p i' ∧ μ i' < μ i ∧ Le n sl1 L1 (Sf i') (Hf i')) Q)) : AW P n ro (.loop c) sl L Q :=
  aw_loop (fun m sl' L' => ∃ i, p i ∧ m = μ i ∧ sl' = Sf i ∧ L' = Hf i) (μ i0) ⟨_, _, hle, i0, h0, rfl, rfl, rfl⟩ fun m sl' L' ⟨i, h1, h2, h3, h4⟩ => by
    subst h2 h3 h4
    refine aw_mono (round i h1) fun ex sl1 L1 h => ?_
    cases ex with
    | normal => obtain ⟨i', a1, a2, a3⟩ := h; exact ⟨μ i', _, _, a2, a3, i', a1, rfl, rfl, rfl⟩
    | _ => exact h
end

/-- a function's contract -/
def AC (P : Program) (f : FuncId) (args : List V) (L : List Ch) (Q : V → List Ch → Prop) : Prop :=
  ∀ (w : World) (S : Nat → Prop) (vs : List Value), Hp w S L → RL w S args vs → Calls P f vs.toArray w fun e w' => ∃ v c S' L', e = .returned v ∧ Q c L' ∧ R w' S' c v ∧ Hp w' S' L' ∧ Fr w S L w' S' L'
/-- what a function hands back -/
def ResV (P : Program) (n : Nat) (rs : Array ResultVar) (sl : Sl) (L : List Ch) (c : V) : Prop :=
  ∀ (w : World) (S : Nat → Prop) (a : Act), St n w S sl L a → ∀ fn : Func, fn.results = rs → ∃ v, (results fn a.tmps).run P w = .ok v w ∧ R w S c v
def FPost (P : Program) (n : Nat) (rs : Array ResultVar) (Q : V → List Ch → Prop) (ex : Exit) (sl : Sl) (L : List Ch) : Prop :=
  (ex = .normal ∨ ex = .ret) ∧ ∀ (w : World) (S : Nat → Prop) (a : Act), St n w S sl L a → ∀ fn : Func, fn.results = rs → ∃ v c S' L', (results fn a.tmps).run P w = .ok v w ∧ Q c L' ∧ R w S' c v ∧ Hp w S' L' ∧ Fr w S L w S' L'
theorem fpost {rs : Array ResultVar} {Q : V → List Ch → Prop} {ex : Exit} {sl : Sl} {L : List Ch} (he : ex = .normal ∨ ex = .ret) {sl' : Sl} {L' : List Ch} (c : V) (hle : Le n sl L sl' L') (hr : ResV P n rs sl' L' c) {L2 : List Ch} (hs : L2.Sublist L') (hQ : Q c L2) : FPost P n rs Q ex sl L := ⟨he, fun w S a h fn hf => by
  obtain ⟨S2, h5, f5⟩ := hle w S a h
  obtain ⟨v, hv, hrv⟩ := hr w S2 a h5 fn hf
  exact ⟨v, c, S2, L2, hv, hQ, hrv, (h5.hp.sub hs).1, f5.trans (h5.hp.sub hs).2⟩⟩
/-- the end of a function that leaves memory as it is -/
theorem fpost0 {rs : Array ResultVar} {ex : Exit} {sl : Sl} {L : List Ch} {c c' : V} (he : ex = .normal ∨ ex = .ret) (hr : ResV P n rs sl L c) (hc : c = c') : FPost P n rs (fun r L' => r = c' ∧ L' = []) ex sl L := by
  subst hc
  exact fpost he c (.refl _ _) hr (List.nil_sublist _) ⟨rfl, rfl⟩
def argSl : List V → Nat → Sl
  | [], _ => []
  | c :: r, i => (i, c) :: argSl r (i + 1)
theorem look_argSl : ∀ (args : List V) (i t : Nat), look (argSl args i) t = if i ≤ t ∧ t < i + args.length then args.getD (t - i) .j else .j
  | [], i, t => by simp [argSl, look]
  | c :: r, i, t => by
    show (bif Nat.beq i t then c else look (argSl r (i + 1)) t) = _
    by_cases e : i = t
    · subst e; simp
    · have hb : Nat.beq i t = false := by cases hb : Nat.beq i t with | false => rfl | true => exact absurd (Nat.eq_of_beq_eq_true hb) e
      rw [hb, cond_false, look_argSl r (i + 1) t]
      by_cases h : i + 1 ≤ t ∧ t < i + 1 + r.length
      · rw [if_pos h, if_pos (by simp; omega), show t - i = (t - (i + 1)) + 1 by omega]; rfl
      · rw [if_neg h, if_neg (by simp; omega)]
theorem ac_body {f : FuncId} {fn : Func} {code : Code} {args : List V} {L : List Ch} {Q : V → List Ch → Prop} (rs : Array ResultVar) (hf : P.funcs[f]? = some fn) (hb : fn.body = some code) (hn : fn.ntmps = n) (hrs : fn.results = rs) (hl : Nat.ble args.length n = true)
    (h : AW P n none code (argSl args 0) L (FPost P n rs Q)) : AC P f args L Q := fun w S vs hp hr => by
  have hl := Nat.le_of_ble_eq_true hl
  have hvl : vs.length = args.length := hr.1
  refine callsIn_wide.1 (callsIn_of_wp_marks (n := 0) hf hb trivial (h w S _ w.heap.size ⟨hp, ?_, fun t => ?_, .nil _ _ _⟩ ⟨Nat.le_refl _, fun D hm => (by cases hm)⟩ _ fun ex sl' L' S' a' w' h1 h2 h3 h4 => ?_))
  · simp [hn]; omega
  · rw [look_argSl]
    by_cases ht : 0 ≤ t ∧ t < 0 + args.length
    · rw [if_pos ht]
      obtain ⟨u, hu, hru⟩ := hr.at (j := t) (c := args.getD (t - 0) .j) (by simp; rw [List.getElem?_eq_getElem (by omega)]; simp)
      have : (vs.toArray ++ Array.replicate (fn.ntmps - vs.toArray.size) undef).getD t undef = u := by
        rw [Array.getD_eq_getD_getElem?, Array.getElem?_append_left (by simp; omega)]
        simp [hu]
      rw [this]; exact hru
    · rw [if_neg ht]; exact .j _
  · obtain ⟨he, hpost⟩ := h1
    have hend : LeavesInM WF 0 P fn a'.tmps (fun e w' => ∃ v c S' L', e = .returned v ∧ Q c L' ∧ R w' S' c v ∧ Hp w' S' L' ∧ Fr w S L w' S' L') a'.defers .returning w' := by
      obtain ⟨U, m1, m2, m3⟩ := h2.df
      refine leaves_marks (by simp) _ U w' m1 fun W e1 e2 e3 e4 e5 => ?_
      have hk : Kept w' S' W S' := fun b hb _ => ⟨e5 b fun hm => (m3 b hm).1 hb, hb⟩
      have hpW : Hp W S' L' := ⟨fun x hx => (h2.hp.ok x hx).move (fun b hb => e5 b fun hm => (m3 b hm).2 ⟨x, hx, hb⟩) hk, h2.hp.ap, h2.hp.out, fun b hb => by rw [e4]; exact h2.hp.lt b hb⟩
      have hsW : St n W S' sl' L' { a' with defers := [] } := ⟨hpW, h2.size, fun t => (h2.sl t).move hk, .nil _ _ _⟩
      obtain ⟨v, c, S2, L2, hv, hQ, hrv, hp2, f2⟩ := hpost W S' _ hsW fn hrs
      have f7 : Fr w S L W S' L' := ⟨e1.trans h3.os, e2.trans h3.tape, e3.trans h3.output, by rw [e4]; exact h3.size, fun b hb hn => (e5 b fun hm => (by have := h4.2 b hm; omega)).trans (h3.same b hb hn), h3.SS, h3.Sn, h3.Ln⟩
      exact ⟨v, hv, v, c, S2, L2, rfl, hQ, hrv, hp2, f7.trans f2⟩
    rcases he with rfl | rfl
    · exact hend
    · exact hend
section
variable {sl : Sl} {L : List Ch}
theorem res_tmp (t : Nat) : ResV P n #[.tmp t] sl L (look sl t) := fun w S a hs fn hf => ⟨a.tmps.getD t undef, by simp [results, hf], hs.sl t⟩
theorem res_tmp2 (t t' : Nat) : ResV P n #[.tmp t, .tmp t'] sl L (.t [look sl t, look sl t']) := fun w S a hs fn hf => by
  refine ⟨.tuple [a.tmps.getD t undef, a.tmps.getD t' undef].toArray, by simp [results, hf], ?_⟩
  have : RL w S [look sl t, look sl t'] [a.tmps.getD t undef, a.tmps.getD t' undef] := .cons (hs.sl t) (.cons (hs.sl t') (.nil _ _))
  exact .t _ this.1 this.2
theorem res_none : ResV P n #[] sl L (.t []) := fun w S a hs fn hf => by
  refine ⟨.tuple [].toArray, by simp [results, hf], ?_⟩
  exact .t [] rfl (by simp)
theorem load_box {w : World} {S : Nat → Prop} {a : Act} (hs : St n w S sl L a) {t i b m : Nat} {ty ty' : TypeId} {cs : List V} [ht : TyS P ty m true] (hp : look sl t = .ptr b 0) (hi : L[i]? = some (.box b ty' cs)) (hm : cs.length = m) :
    ∃ us : List Value, a.tmps.getD t undef = .pointer (some ⟨b, 0, none⟩) ∧ (loadVar ty ⟨b, 0, none⟩).run P w = .ok (.agg us.toArray) w ∧ R w S (.a cs) (.agg us.toArray) := by
  have h1 := hs.evv (x := .tmp t) hp
  obtain ⟨us, r1, _, r3⟩ := (hs.hp.mem hi).1.at (g := b) (cs := cs) ⟨rfl, rfl⟩
  have hld := run_loadAt_cells (P := P) (w := w) (b := b) (o := 0) ht (us := us) (by rw [r1.1, hm]) (fun j u hj => by rw [Nat.zero_add]; exact r3 j u hj)
  exact ⟨us, h1, by simpa [Instr.loadAt, Instr.sureAddr] using hld, .a us r1.1 r1.2⟩
theorem res_cell {t i b m : Nat} {ty ty' : TypeId} {cs : List V} [ht : TyS P ty m true] (hp : look sl t = .ptr b 0) (hi : L[i]? = some (.box b ty' cs)) (hm : cs.length = m) : ResV P n #[.cell t ty] sl L (.a cs) := fun w S a hs fn hf => by
  obtain ⟨us, h1, h2, h3⟩ := load_box (P := P) (ty := ty) hs hp hi hm
  have h1' : a.tmps[t]?.getD undef = .pointer (some ⟨b, 0, none⟩) := by simpa using h1
  exact ⟨_, by simp [results, hf, h1', asAddr, h2], h3⟩
theorem res_cell_tmp {t t' i b m : Nat} {ty ty' : TypeId} {cs : List V} [ht : TyS P ty m true] (hp : look sl t = .ptr b 0) (hi : L[i]? = some (.box b ty' cs)) (hm : cs.length = m) : ResV P n #[.cell t ty, .tmp t'] sl L (.t [.a cs, look sl t']) := fun w S a hs fn hf => by
  obtain ⟨us, h1, h2, h3⟩ := load_box (P := P) (ty := ty) hs hp hi hm
  have h1' : a.tmps[t]?.getD undef = .pointer (some ⟨b, 0, none⟩) := by simpa using h1
  have h4 : RL w S [.a cs, look sl t'] [.agg us.toArray, a.tmps.getD t' undef] := .cons h3 (.cons (hs.sl t') (.nil _ _))
  exact ⟨.tuple [.agg us.toArray, a.tmps.getD t' undef].toArray, by simp [results, hf, h1', asAddr, h2], .t _ h4.1 h4.2⟩
end

def ArgsLe : List V → List V → Prop
  | [], [] => True
  | c :: r, c' :: r' => VLe c c' ∧ ArgsLe r r'
  | _, _ => False
theorem ArgsLe.refl : ∀ l : List V, ArgsLe l l
  | [] => trivial
  | c :: r => ⟨.refl c, .refl r⟩
theorem ArgsLe.rl {w : World} {S : Nat → Prop} : ∀ {l l' : List V} {us : List Value}, ArgsLe l l' → RL w S l us → RL w S l' us
  | [], [], us, _, h => h
  | c :: r, c' :: r', us, hl, h => by obtain ⟨u, us', rfl, h1, h2⟩ := h.uncons; exact .cons (hl.1 w S u h1) (hl.2.rl h2)
  | [], _ :: _, _, hl, _ => hl.elim
  | _ :: _, [], _, hl, _ => hl.elim
section
variable {o : Oper} {sl : Sl} {L : List Ch} {K : Sl → List Ch → Prop}
theorem aop_call {f : FuncId} {g : Operand} {ag : Array Operand} {ts : Array TypeId} {first cap args : List V} {L1 F : List Ch} {Q : V → List Ch → Prop} (ho : o.op = .call { callee := .value g, args := ag, argTypes := ts }) (hd : dstOk n o.dst = true) (hg : ev sl g = .f (.func f) first cap)
    (eg : ∀ (args : Array Value) (w : World), (callFunc f args).run P w = .ok (.enter f args) w) (hp : L.Perm (L1 ++ F)) (hc : AC P f args L1 Q) (ha : ArgsLe (first ++ (ag.toList.map (ev sl) ++ cap)) args) (hK : ∀ c L', Q c L' → K (put sl o.dst c) (L' ++ F)) : AOp P n o sl L K := by
  intro w S a hs nx Qr hnx
  have h1 := hs.ev g
  rw [hg] at h1
  generalize hv : a.eval g = v at h1
  cases h1 with
  | f us vs hl hr hl2 hr2 =>
    have hargs : RL w S args (us ++ (ag.toList.map a.eval ++ vs)) := ha.rl (RL.append (cs := first) (us := us) ⟨hl, hr⟩ ((RL.map_ev hs.ev ag.toList).append ⟨hl2, hr2⟩))
    have hrun : (execOp a.eval o).run P w = .ok (.enter f (us ++ (ag.toList.map a.eval ++ vs)).toArray) w := by
      have e1 : ag.map a.eval = (ag.toList.map a.eval).toArray := by apply Array.ext'; simp
      simp [execOp, ho, resolve, invoke, Deferred.ofValue, hv, e1, eg]
    unfold Oper.wp
    rw [hrun, Oper.upon_enter]
    refine (hc w S _ (hs.hp.perm hp).left hargs).mono ?_
    rintro e w' ⟨v, c, S', L', rfl, hQ, hrv, hp', hf'⟩
    obtain ⟨q1, q2⟩ := (hs.hp.perm hp).frame hp' hf'
    have q3 := q2.perm hp.symm (.refl _)
    exact hnx _ _ _ _ _ (hK c L' hQ) (hs.put hd q3 q1 hrv) q3 ⟨_, rfl⟩
/-- a call that leaves memory as it is -/
theorem aop_call0 {f : FuncId} {g : Operand} {ag : Array Operand} {ts : Array TypeId} {first cap args : List V} {c : V} (ho : o.op = .call { callee := .value g, args := ag, argTypes := ts }) (hd : dstOk n o.dst = true) (hg : ev sl g = .f (.func f) first cap)
    (eg : ∀ (args : Array Value) (w : World), (callFunc f args).run P w = .ok (.enter f args) w) (hc : AC P f args [] fun r L' => r = c ∧ L' = []) (ha : ArgsLe (first ++ (ag.toList.map (ev sl) ++ cap)) args) (hK : K (put sl o.dst c) L) : AOp P n o sl L K :=
  aop_call ho hd hg eg (F := L) (.refl _) hc ha fun c L' h => by obtain ⟨rfl, rfl⟩ := h; exact hK
end
theorem AC.mono {f : FuncId} {args : List V} {L : List Ch} {Q Q' : V → List Ch → Prop} (h : AC P f args L Q) (hq : ∀ c L', Q c L' → Q' c L') : AC P f args L Q' := fun w S vs hp hr => (h w S vs hp hr).mono fun _ _ ⟨v, c, S', L', h1, h2, h3⟩ => ⟨v, c, S', L', h1, hq _ _ h2, h3⟩
end Go.Proofs.Ytlagablcopmhkaa
