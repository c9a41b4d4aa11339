/- Packed: AlMem, AlMore -/
import Derived.Laws.AppendOwnNone
import Derived.Test.YtlagablcopmhkaaKRowRuns2
set_option linter.unusedVariables false
set_option linter.unusedSimpArgs false
/- Walking with descriptions: memory of one's own: made, read, written, grown. -/
namespace Go.Proofs.Ytlagablcopmhkaa
open Go.RowKit
variable {P : Program}

theorem kept_same {w w' : World} {S S' : Nat → Prop} (h : ∀ b, S b → b < w.heap.size → w'.heap[b]? = w.heap[b]?) (hS : ∀ b, S b → S' b) : Kept w S w' S' := fun b hb hlt => ⟨h b hb hlt, hS b hb⟩
theorem kept_alloc (w : World) (S : Nat → Prop) (o : Obj) {S' : Nat → Prop} (hS : ∀ b, S b → S' b) : Kept w S (w.alloc o) S' := kept_same (fun b _ hlt => Below.heap_alloc w o b hlt) hS
theorem inL_cons {c : Ch} {L : List Ch} {b : Nat} : inL (c :: L) b ↔ c.owns b ∨ inL L b := by
  unfold inL; simp
theorem inL_nil {b : Nat} : ¬ inL [] b := by rintro ⟨c, hc, _⟩; cases hc
theorem inL_one {c : Ch} {b : Nat} : inL [c] b ↔ c.owns b := by simp [inL_cons, inL_nil]

theorem Hp.newBox {w : World} {S : Nat → Prop} {L : List Ch} (h : Hp w S L) (ty : TypeId) {cs : List V} {us : List Value} (hr : RL w S cs us) (h1 : ∀ u ∈ us, u.oneCell' = true) :
    Hp (w.alloc (.cells us.toArray ty)) S (.box w.heap.size ty cs :: L) ∧ Fr w S L (w.alloc (.cells us.toArray ty)) S (.box w.heap.size ty cs :: L) := by
  have hk := kept_alloc w S (.cells us.toArray ty) (S' := S) fun _ h => h
  refine ⟨⟨fun c hc => ?_, List.pairwise_cons.2 ⟨fun c hc b hb hb' => ?_, h.ap⟩, fun b hb hS => ?_, fun b hb => ?_⟩, ⟨rfl, rfl, rfl, by simp, fun b hb _ => Below.heap_alloc w _ b hb, fun _ h => h, fun _ h _ => .inl h, fun b hb hlt => ?_⟩⟩
  · rcases List.mem_cons.1 hc with rfl | hc
    · exact ⟨us, heap_alloc_new w _, hr.move hk, h1⟩
    · exact (h.ok c hc).move (fun b hb => Below.heap_alloc w _ b ((h.ok c hc).lt hb)) hk
  · cases hb; exact Nat.lt_irrefl _ ((h.ok c hc).lt hb')
  · rcases inL_cons.1 hb with hb | hb
    · cases hb; exact Nat.lt_irrefl _ (h.lt _ hS)
    · exact h.out b hb hS
  · have := h.lt b hb; rw [World.size_alloc]; omega
  · rcases inL_cons.1 hb with hb | hb
    · cases hb; exact absurd hlt (Nat.lt_irrefl _)
    · exact hb
theorem Hp.newData {w : World} {S : Nat → Prop} {L : List Ch} (h : Hp w S L) (o : Obj) :
    Hp (w.alloc o) (fun b => S b ∨ b = w.heap.size) L ∧ Fr w S L (w.alloc o) (fun b => S b ∨ b = w.heap.size) L := by
  have hk := kept_alloc w S o (S' := fun b => S b ∨ b = w.heap.size) fun _ h => .inl h
  refine ⟨⟨fun c hc => (h.ok c hc).move (fun b hb => Below.heap_alloc w _ b ((h.ok c hc).lt hb)) hk, h.ap, fun b hb hS => ?_, fun b hb => ?_⟩, ⟨rfl, rfl, rfl, by simp, fun b hb _ => Below.heap_alloc w _ b hb, fun _ h => .inl h, fun b h hlt => ?_, fun _ hb _ => hb⟩⟩
  · rcases hS with hS | rfl
    · exact h.out b hb hS
    · exact Nat.lt_irrefl _ (h.blt hb)
  · rw [World.size_alloc]; rcases hb with hb | rfl
    · have := h.lt b hb; omega
    · omega
  · rcases h with h | rfl
    · exact .inl h
    · exact absurd hlt (Nat.lt_irrefl _)
/-- a chunk less -/
theorem Hp.sub {w : World} {S : Nat → Prop} {L L' : List Ch} (h : Hp w S L) (hs : L'.Sublist L) : Hp w S L' ∧ Fr w S L w S L' :=
  ⟨⟨fun c hc => h.ok c (hs.subset hc), h.ap.sublist hs, fun b ⟨c, hc, hb⟩ => h.out b ⟨c, hs.subset hc, hb⟩, h.lt⟩, ⟨rfl, rfl, rfl, Nat.le_refl _, fun _ _ _ => rfl, fun _ h => h, fun _ h _ => .inl h, fun _ ⟨c, hc, hb⟩ _ => ⟨c, hs.subset hc, hb⟩⟩⟩

theorem perm_at {L : List Ch} {i : Nat} {c : Ch} (h : L[i]? = some c) (c' : Ch) : L.Perm ([c] ++ L.eraseIdx i) ∧ (L.set i c').Perm ([c'] ++ L.eraseIdx i) := by
  induction L generalizing i with
  | nil => simp at h
  | cons x L ih =>
    cases i with
    | zero => simp at h; subst h; exact ⟨.refl _, .refl _⟩
    | succ i =>
      obtain ⟨h1, h2⟩ := ih (by simpa using h)
      exact ⟨(h1.cons x).trans (.swap _ _ _), (h2.cons x).trans (.swap _ _ _)⟩
/-- one chunk changes -/
theorem Hp.upd {w w' : World} {S S' : Nat → Prop} {L : List Ch} (h : Hp w S L) {i : Nat} {c c' : Ch} (hi : L[i]? = some c) (h' : Hp w' S' [c']) (hf : Fr w S [c] w' S' [c']) : Hp w' S' (L.set i c') ∧ Fr w S L w' S' (L.set i c') := by
  obtain ⟨p1, p2⟩ := perm_at hi c'
  obtain ⟨q1, q2⟩ := (h.perm p1).frame h' hf
  exact ⟨q1.perm p2.symm, q2.perm p1.symm p2.symm⟩
theorem Hp.mem {w : World} {S : Nat → Prop} {L : List Ch} (h : Hp w S L) {i : Nat} {c : Ch} (hi : L[i]? = some c) : c.ok w S ∧ Hp w S [c] := by
  have := List.mem_of_getElem? hi
  refine ⟨h.ok c this, ⟨fun x hx => ?_, List.pairwise_singleton _ _, fun b hb => ?_, h.lt⟩⟩
  · simp at hx; subst hx; exact h.ok x this
  · exact h.out b ⟨c, this, inL_one.1 hb⟩

class TyS (P : Program) (t : TypeId) (m : outParam Nat) (g : outParam Bool) : Prop where
  size : ∀ w, (sizeOf t).run P w = .ok m w
  agg : ∀ w, (isAgg t).run P w = .ok g w
class TyZ (P : Program) (t : TypeId) (z : outParam (List Value)) : Prop where
  run : ∀ w, ∃ v, (zeroValue t).run P w = .ok v w ∧ v.cells = z.toArray
  one : z.all (·.oneCell') = true
class TyF (P : Program) (s : TypeId) (f : Nat) (off : outParam Nat) : Prop where
  run : ∀ w b o, (Instr.fieldAt s (.pointer (some ⟨b, o, none⟩)) f).run P w = .ok (.pointer (some ⟨b, o + off, none⟩)) w
class TyL (P : Program) (t : TypeId) (e : outParam TypeId) (k bytes : outParam Nat) : Prop where
  und : P.underlying t = some (.slice e)
  info : ∃ i z, P.info? e = some i ∧ i.zero = some z ∧ z.cells.size = k ∧ i.size = k ∧ i.bytes = bytes
  pos : 0 < k
class TyA (P : Program) (t : TypeId) (len : outParam Nat) (e : outParam TypeId) (k : outParam Nat) : Prop where
  und : P.underlying t = some (.array len e)
  size : ∀ w, (sizeOf e).run P w = .ok k w
theorem TyL.size {t e : TypeId} {k bytes : Nat} (h : TyL P t e k bytes) (w : World) : (sizeOf e).run P w = .ok k w := by
  obtain ⟨i, z, hi, _, _, hs, _⟩ := h.info
  simp [sizeOf, typeInfo, hi, hs]

def zV (z : List Value) : List V := z.map V.v
theorem RL_vals (w : World) (S : Nat → Prop) (z : List Value) : RL w S (zV z) z :=
  ⟨by simp [zV], fun j c u h1 h2 => by simp [zV, h2] at h1; subst h1; exact .v u⟩
def V.cells : V → List V
  | .a cs => cs
  | c => [c]
def D.one : D → Bool
  | .v x => x.oneCell'
  | .s .. => true
def V.one : V → Bool
  | .d x => x.one
  | .e .. => true
  | .f .. => true
  | _ => false
theorem Rep.one {w : World} {S : Nat → Prop} {x : D} {v : Value} (h : Rep w S x v) (h1 : x.one = true) : v.oneCell' = true := by
  cases h with
  | v x => exact h1
  | s us hn hc hm hd hu hp hr => rfl
theorem R.one {w : World} {S : Nat → Prop} {c : V} {v : Value} (h : R w S c v) (h1 : c.one = true) : v.oneCell' = true := by
  cases h with
  | d h => exact h.one h1
  | e us hu ho hS hc hr => rfl
  | f us vs hl hr hl2 hr2 => rfl
  | a us hl hr => cases h1
  | t us hl hr => cases h1
  | j v => cases h1
theorem R.cells {w : World} {S : Nat → Prop} {c : V} {v : Value} (h : R w S c v) (h1 : c.cells.all V.one = true) : ∃ us : List Value, v.cells = us.toArray ∧ RL w S c.cells us ∧ ∀ u ∈ us, u.oneCell' = true := by
  have key : ∀ {cs : List V} {us : List Value}, RL w S cs us → cs.all V.one = true → ∀ u ∈ us, u.oneCell' = true := fun {cs us} hr h1 u hu => by
    obtain ⟨j, hj⟩ := List.getElem?_of_mem hu
    obtain ⟨c, hc⟩ : ∃ c, cs[j]? = some c := ⟨cs[j]'(by have := (List.getElem?_eq_some_iff.1 hj).1; rw [hr.1] at this; exact this), by simp⟩
    exact (hr.2 j c u hc hj).one (List.all_eq_true.1 h1 c (List.mem_of_getElem? hc))
  have single : ∀ {c : V}, R w S c v → c.one = true → v.cells = #[v] → ∃ us : List Value, v.cells = us.toArray ∧ RL w S [c] us ∧ ∀ u ∈ us, u.oneCell' = true := fun h h1 h2 =>
    ⟨[v], h2, .cons h (.nil _ _), fun u hu => by simp at hu; subst hu; exact h.one h1⟩
  have cell1 : ∀ {x : Value}, x.oneCell' = true → x.cells = #[x] := fun {x} hx => by cases x <;> first | rfl | (simp [Value.oneCell'] at hx)
  cases h with
  | a us hl hr => exact ⟨us, rfl, ⟨hl, hr⟩, key ⟨hl, hr⟩ h1⟩
  | d h => exact single (.d h) (by simpa [V.cells] using h1) (cell1 (h.one (by simpa [V.cells, V.one] using h1)))
  | e us hu ho hS hc hr => exact single (.e us hu ho hS hc hr) rfl rfl
  | f us vs hl hr hl2 hr2 => exact single (.f us vs hl hr hl2 hr2) rfl rfl
  | t us hl hr => simp [V.cells, V.one] at h1
  | j v => simp [V.cells, V.one] at h1

section
variable {n : Nat} {o : Oper} {sl : Sl} {L : List Ch} {K : Sl → List Ch → Prop}

theorem aop_alloc {ty : TypeId} {z : List Value} [hz : TyZ P ty z] (ho : o.op = .alloc ty) (hd : dstOk n o.dst = true) (hK : ∀ b, K (put sl o.dst (.ptr b 0)) (.box b ty (zV z) :: L)) : AOp P n o sl L K := by
  refine .of hd fun w S a hs => ?_
  obtain ⟨v, hv, hc⟩ := hz.run w
  obtain ⟨h1, h2⟩ := hs.hp.newBox ty (RL_vals w S z) (fun u hu => List.all_eq_true.1 hz.one u hu)
  refine ⟨.pointer (some ⟨w.heap.size, 0, none⟩), _, w.alloc (.cells z.toArray ty), S, _, ?_, .v _, h1, h2, hK _⟩
  simp [execOp, ho, Instr.alloc, hv, newVar, hc, newRow]
theorem aop_box {ty : TypeId} {x : Operand} (ho : o.op = .box ty x) (hd : dstOk n o.dst = true) (h1 : (ev sl x).cells.all V.one = true) (hK : ∀ b, K (put sl o.dst (.ptr b 0)) (.box b ty (ev sl x).cells :: L)) : AOp P n o sl L K := by
  refine .of hd fun w S a hs => ?_
  obtain ⟨us, hc, hr, hone⟩ := (hs.ev x).cells h1
  obtain ⟨h1, h2⟩ := hs.hp.newBox ty hr hone
  refine ⟨.pointer (some ⟨w.heap.size, 0, none⟩), _, w.alloc (.cells us.toArray ty), S, _, ?_, .v _, h1, h2, hK _⟩
  simp [execOp, ho, Instr.box, newVar, hc, newRow]

theorem aop_box_a {ty : TypeId} {x : Operand} {cs : List V} (ho : o.op = .box ty x) (hd : dstOk n o.dst = true) (hx : ev sl x = .a cs) (h1 : cs.all V.one = true) (hK : ∀ b, K (put sl o.dst (.ptr b 0)) (.box b ty cs :: L)) : AOp P n o sl L K :=
  aop_box ho hd (by rw [hx]; exact h1) (by rw [hx]; exact hK)
theorem aop_box_d {ty : TypeId} {x : Operand} {c : D} (ho : o.op = .box ty x) (hd : dstOk n o.dst = true) (hx : ev sl x = .d c) (h1 : c.one = true) (hK : ∀ b, K (put sl o.dst (.ptr b 0)) (.box b ty [.d c] :: L)) : AOp P n o sl L K :=
  aop_box ho hd (by rw [hx]; simpa [V.cells, V.one] using h1) (by rw [hx]; exact hK)
theorem aop_fieldAddr {s : TypeId} {x : Operand} {f off b o' : Nat} [hf : TyF P s f off] (ho : o.op = .fieldAddr s x f) (hd : dstOk n o.dst = true) (hx : ev sl x = .ptr b o') (hK : K (put sl o.dst (.ptr b (o' + off))) L) : AOp P n o sl L K :=
  aop_pure hd _ (fun w S a hs => by simp [execOp, ho, hs.evv hx, hf.run]) hK
theorem aop_nilCheck {x : Operand} {b o' : Nat} (ho : o.op = .nilCheck x) (hd : dstOk n o.dst = true) (hx : ev sl x = .ptr b o') (hK : K (put sl o.dst (.ptr b o')) L) : AOp P n o sl L K :=
  aop_pure hd _ (fun w S a hs => by simp [execOp, ho, hs.evv hx]) hK

theorem run_loadAt_cells {w : World} {b o : Nat} {ty : TypeId} {m : Nat} (hs : TyS P ty m true) {us : List Value} (hl : us.length = m) (hc : ∀ (j : Nat) (u : Value), us[j]? = some u → w.cell? ⟨b, o + j, none⟩ = some u) :
    (Instr.loadAt ty (.pointer (some ⟨b, o, none⟩))).run P w = .ok (.agg us.toArray) w := by
  have hl' : (loadCells ⟨b, o, none⟩ m).run P w = .ok us.toArray w := by
    rw [← hl]; exact run_loadCells_list (P := P) w ⟨b, o, none⟩ us (fun j v hv => by rw [Addr.add_mid]; exact hc j v hv)
  simp [Instr.loadAt, Instr.sureAddr, loadVar, hs.agg, hs.size, hl']
theorem run_loadAt_cell {w : World} {b o : Nat} {ty : TypeId} {m : Nat} (hs : TyS P ty m false) {u : Value} (hc : w.cell? ⟨b, o, none⟩ = some u) :
    (Instr.loadAt ty (.pointer (some ⟨b, o, none⟩))).run P w = .ok u w := by
  simp [Instr.loadAt, Instr.sureAddr, loadVar, hs.agg, load, Sem.run, hc]

/-- a chunk's cells -/
def Ch.has : Ch → Nat → List V → Prop
  | .emp, _, _ => False
  | .box b _ cs, g, cs' => b = g ∧ cs' = cs
  | .row v _ _ _ cs, g, cs' => v.ownBlock = some g ∧ cs' = cs
  | .reg _ _, _, _ => False
theorem Ch.has.box {b : Nat} {ty : TypeId} {cs : List V} : (Ch.box b ty cs).has b cs := ⟨rfl, rfl⟩
theorem Ch.ok.at {w : World} {S : Nat → Prop} {c : Ch} {g : Nat} {cs : List V} (h : c.ok w S) (hh : c.has g cs) : ∃ us : List Value, RL w S cs us ∧ (∀ u ∈ us, u.oneCell' = true) ∧ ∀ (j : Nat) (u : Value), us[j]? = some u → w.cell? ⟨g, j, none⟩ = some u := by
  cases c with
  | emp => exact hh.elim
  | reg _ _ => exact hh.elim
  | box b ty cs' =>
    obtain ⟨rfl, rfl⟩ := hh
    obtain ⟨us, h1, h2, h3⟩ := h
    exact ⟨us, h2, h3, fun j u hj => by rw [cell_of_row _ _ j _ _ _ h1]; simpa using hj⟩
  | row v e k m cs' =>
    obtain ⟨hv, rfl⟩ := hh
    obtain ⟨us, h1, h2, h3, _⟩ := h
    exact ⟨us, h2, h3, fun j u hj => by have := h1.cells hv j u hj; rwa [Addr.add_mid, Nat.zero_add] at this⟩

theorem aop_load {ty : TypeId} {x : Operand} {b o' i : Nat} {ch : Ch} {cs : List V} {c : V} {m : Nat} [ht : TyS P ty m false] (ho : o.op = .load ty x) (hd : dstOk n o.dst = true) (hx : ev sl x = .ptr b o') (hi : L[i]? = some ch) (hh : ch.has b cs) (hc : cs[o']? = some c)
    (hK : K (put sl o.dst c) L) : AOp P n o sl L K := by
  refine .val hd _ (fun w S a hs => ?_) hK
  obtain ⟨us, h1, _, h3⟩ := (hs.hp.mem hi).1.at hh
  obtain ⟨u, hu, hr⟩ := h1.at hc
  exact ⟨u, by simp [execOp, ho, hs.evv hx, run_loadAt_cell ht (h3 o' u hu)], hr⟩
theorem aop_load_agg {ty : TypeId} {x : Operand} {b o' i : Nat} {ch : Ch} {cs : List V} {m : Nat} [ht : TyS P ty m true] (ho : o.op = .load ty x) (hd : dstOk n o.dst = true) (hx : ev sl x = .ptr b o') (hi : L[i]? = some ch) (hh : ch.has b cs) (hm : o' + m ≤ cs.length)
    (hK : K (put sl o.dst (.a ((cs.drop o').take m))) L) : AOp P n o sl L K := by
  refine .val hd _ (fun w S a hs => ?_) hK
  obtain ⟨us, h1, _, h3⟩ := (hs.hp.mem hi).1.at hh
  have h4 := (h1.drop o').take m
  have hl : ((us.drop o').take m).length = m := by have := h1.1; simp; omega
  have hld := run_loadAt_cells (P := P) (w := w) (b := b) (o := o') ht hl (fun j u hj => by
    rw [List.getElem?_take] at hj
    split at hj
    · exact h3 _ _ (by simpa using hj)
    · cases hj)
  exact ⟨_, by simp only [execOp, ho, hs.evv hx, Sem.run_bind, hld, Result.andThen_ok, Sem.run_pure], .a _ h4.1 h4.2⟩
theorem aop_load_all {ty : TypeId} {x : Operand} {b i : Nat} {ch : Ch} {cs : List V} {m : Nat} [ht : TyS P ty m true] (ho : o.op = .load ty x) (hd : dstOk n o.dst = true) (hx : ev sl x = .ptr b 0) (hi : L[i]? = some ch) (hh : ch.has b cs) (hm : cs.length = m)
    (hK : K (put sl o.dst (.a cs)) L) : AOp P n o sl L K :=
  aop_load_agg ho hd hx hi hh (by omega) (by rw [List.drop_zero, List.take_of_length_le (by omega)]; exact hK)
theorem aop_load_e {ty : TypeId} {x : Operand} {o' : Nat} {ds : List D} {dd : D} {m : Nat} [ht : TyS P ty m false] (ho : o.op = .load ty x) (hd : dstOk n o.dst = true) (hx : ev sl x = .e ds o') (hc : ds[o']? = some dd) (hK : K (put sl o.dst (.d dd)) L) : AOp P n o sl L K := by
  refine .val hd _ (fun w S a hs => ?_) hK
  have h := hs.ev x
  rw [hx] at h
  generalize hv : a.eval x = v at h
  cases h with
  | e us hu hlt0 hS hcc hr =>
    obtain ⟨u, hu2⟩ : ∃ u, us[o']? = some u := ⟨us[o']'(by omega), by simp⟩
    exact ⟨u, by simp [execOp, ho, hv, run_loadAt_cell ht (hcc o' u hu2)], .d (hr o' dd u hc hu2)⟩
theorem aop_load_agg_e {ty : TypeId} {x : Operand} {o' : Nat} {ds : List D} {m : Nat} [ht : TyS P ty m true] (ho : o.op = .load ty x) (hd : dstOk n o.dst = true) (hx : ev sl x = .e ds o') (hm : o' + m ≤ ds.length) (hK : K (put sl o.dst (.a (((ds.drop o').take m).map .d))) L) : AOp P n o sl L K := by
  refine .val hd _ (fun w S a hs => ?_) hK
  have h := hs.ev x
  rw [hx] at h
  generalize hv : a.eval x = v at h
  cases h with
  | e us hu hlt0 hS hcc hr =>
    rename_i b off
    have hl : ((us.drop o').take m).length = m := by simp; omega
    have hld := run_loadAt_cells (P := P) (w := w) (b := b) (o := off + o') ht hl (fun j u hj => by
      rw [List.getElem?_take] at hj
      split at hj
      · rw [Nat.add_assoc]; exact hcc _ _ (by simpa using hj)
      · cases hj)
    refine ⟨.agg ((us.drop o').take m).toArray, by simp only [execOp, ho, hv, Sem.run_bind, hld, Result.andThen_ok, Sem.run_pure], .a _ (by simp; omega) (fun j c u h1 h2 => ?_)⟩
    · simp only [List.getElem?_map, List.getElem?_take] at h1 h2
      split at h1
      · rename_i hjm
        rw [if_pos hjm] at h2
        simp only [List.getElem?_drop] at h1 h2
        cases hdd : ds[o' + j]? with
        | none => rw [hdd] at h1; cases h1
        | some dd => rw [hdd] at h1; cases h1; exact .d (hr _ dd u hdd h2)
      · cases h1

/-- a store into a chunk -/
def Ch.splice (o : Nat) (xs : List V) : Ch → Ch
  | .emp => .emp
  | .box b ty cs => .box b ty (cs.take o ++ xs ++ cs.drop (o + xs.length))
  | .row v e k m cs => .row v e k m (cs.take o ++ xs ++ cs.drop (o + xs.length))
  | .reg A Φ => .reg A Φ
theorem RL.splice {w : World} {S : Nat → Prop} {cs xs : List V} {us vs : List Value} (h : RL w S cs us) (hx : RL w S xs vs) (o : Nat) : RL w S (cs.take o ++ xs ++ cs.drop (o + xs.length)) (us.take o ++ vs ++ us.drop (o + vs.length)) :=
  ((h.take o).append hx).append (by rw [hx.1]; exact h.drop _)

theorem Hp.store1 {w : World} {S : Nat → Prop} {c : Ch} (h : Hp w S [c]) {g o : Nat} {cs xs : List V} {vs : List Value} (hh : c.has g cs) (hl : o + xs.length ≤ cs.length) (hx : RL w S xs vs) (h1 : ∀ u ∈ vs, u.oneCell' = true) :
    ∃ w', (storeCells ⟨g, o, none⟩ vs).run P w = .ok () w' ∧ Hp w' S [c.splice o xs] ∧ Fr w S [c] w' S [c.splice o xs] := by
  have hok := h.ok c (by simp)
  have hgL : inL [c] g := by
    rw [inL_one]
    cases c with
    | emp => exact hh.elim
    | reg _ _ => exact hh.elim
    | box b ty cs' => obtain ⟨rfl, rfl⟩ := hh; rfl
    | row v e k m cs' => exact hh.1
  have hgS : ¬ S g := h.out g hgL
  have main : ∀ (cur new : Array Value) (t : TypeId), w.heap[g]? = some (.cells cur t (0, 0)) → Kept w S (w.setRow g new) S ∧ (∀ b, b ≠ g → (w.setRow g new).heap[b]? = w.heap[b]?) := fun cur new t hg =>
    ⟨kept_same (fun b hb _ => setRow_other w g b new (by rintro rfl; exact hgS hb)) fun _ h => h, fun b hb => setRow_other w g b new hb⟩
  have fr : ∀ (new : Array Value) (c' : Ch), (∀ b, c'.owns b → b = g) → (∀ b, b ≠ g → (w.setRow g new).heap[b]? = w.heap[b]?) → Fr w S [c] (w.setRow g new) S [c'] := fun new c' hb' hsame =>
    ⟨rfl, rfl, rfl, by simp, fun b _ hn => hsame b (by rintro rfl; exact hn hgL), fun _ h => h, fun _ h _ => .inl h, fun b hb _ => by rw [hb' b (inL_one.1 hb)]; exact hgL⟩
  have hp : ∀ (new : Array Value) (c' : Ch), c'.ok (w.setRow g new) S → (∀ b, c'.owns b → b = g) → Hp (w.setRow g new) S [c'] := fun new c' hok' hb' =>
    ⟨fun x hx => by simp at hx; subst hx; exact hok', List.pairwise_singleton _ _, fun b hb => by rw [hb' b (inL_one.1 hb)]; exact hgS, fun b hb => by have := h.lt b hb; simpa using this⟩
  cases c with
  | emp => exact hh.elim
  | reg _ _ => exact hh.elim
  | box b ty cs' =>
    obtain ⟨rfl, rfl⟩ := hh
    obtain ⟨us, hg, hr, hone⟩ := hok
    have hst := run_storeCells_at P b o ty vs 0 us.toArray w hg (by have := hr.1; have := hx.1; simp; omega) h1
    obtain ⟨hk, hsame⟩ := main us.toArray (us.take (o + 0) ++ vs ++ us.drop (o + 0 + vs.length)).toArray ty hg
    simp only [Nat.add_zero] at hst hk hsame
    have hrow := setRow_heap w b _ (us.take o ++ vs ++ us.drop (o + vs.length)).toArray _ _ hg
    refine ⟨_, by simpa using hst, hp _ _ ⟨_, by simpa using hrow, (hr.splice hx o).move hk, fun u hu => ?_⟩ (fun b' hb' => by cases hb'; rfl), fr _ _ (fun b' hb' => by cases hb'; rfl) hsame⟩
    simp only [List.mem_append] at hu
    rcases hu with (hu | hu) | hu
    · exact hone u (List.mem_of_mem_take hu)
    · exact h1 u hu
    · exact hone u (List.mem_of_mem_drop hu)
  | row v e k m cs' =>
    obtain ⟨hv, rfl⟩ := hh
    obtain ⟨us, hown, hr, hone, hm⟩ := hok
    rcases hown.2 with ⟨rfl, _⟩ | ⟨g', cap, cur, rfl, hb0, hg, hnc, hcm, hcs, htake⟩
    · simp [Value.ownBlock] at hv
    · simp [Value.ownBlock] at hv
      subst hv
      have hul : us.length = m * k := hown.1
      have hmk : m * k ≤ cap * k := Nat.mul_le_mul_right _ hnc
      have hol : o + vs.length ≤ m * k := by have := hr.1; have := hx.1; omega
      have hst := run_storeCells_at P g' o e vs 0 cur w hg (by omega) h1
      simp only [Nat.add_zero] at hst
      obtain ⟨hk, hsame⟩ := main cur (cur.toList.take o ++ vs ++ cur.toList.drop (o + vs.length)).toArray e hg
      have hrow := setRow_heap w g' _ (cur.toList.take o ++ vs ++ cur.toList.drop (o + vs.length)).toArray _ _ hg
      have hnew : (us.take o ++ vs ++ us.drop (o + vs.length)).length = m * k := by simp; omega
      have hcl : cur.toList.length = cap * k := by simpa using hcs
      refine ⟨_, hst, hp _ _ ⟨us.take o ++ vs ++ us.drop (o + vs.length), ⟨hnew, .inr ⟨g', cap, _, rfl, hb0, hrow, hnc, hcm, ?_, ?_⟩⟩, (hr.splice hx o).move hk, fun u hu => ?_, hm⟩ (fun b' hb' => by simp [Ch.splice, Ch.owns, Value.ownBlock] at hb'; exact hb'.symm), fr _ _ (fun b' hb' => by simp [Ch.splice, Ch.owns, Value.ownBlock] at hb'; exact hb'.symm) hsame⟩
      · simp; omega
      · show (cur.toList.take o ++ vs ++ cur.toList.drop (o + vs.length)).take (m * k) = _
        rw [← htake]
        apply List.ext_getElem?
        intro j
        simp only [List.getElem?_take, List.getElem?_append, List.length_append, List.length_take, List.getElem?_drop]
        grind
      · simp only [List.mem_append] at hu
        rcases hu with (hu | hu) | hu
        · exact hone u (List.mem_of_mem_take hu)
        · exact h1 u hu
        · exact hone u (List.mem_of_mem_drop hu)

theorem aop_store {ty : TypeId} {x y : Operand} {b o' i m : Nat} {g : Bool} {ch : Ch} {cs xs : List V} [ht : TyS P ty m g] (ho : o.op = .store ty x y) (hd : dstOk n o.dst = true) (hx : ev sl x = .ptr b o') (hi : L[i]? = some ch) (hh : ch.has b cs) (hxs : xs = (ev sl y).cells) (hm : xs.length = m) (hl : o' + m ≤ cs.length) (h1 : xs.all V.one = true)
    (hK : K (put sl o.dst (.v undef)) (L.set i (ch.splice o' xs))) : AOp P n o sl L K := by
  subst hxs
  refine .skip hd _ (fun w S a hs => ?_) hK
  obtain ⟨us, hc, hr, hone⟩ := (hs.ev y).cells h1
  obtain ⟨w', hst, hp', hf'⟩ := (hs.hp.mem hi).2.store1 (P := P) hh (by rw [hm]; exact hl) hr hone
  obtain ⟨h3, h4⟩ := hs.hp.upd hi hp' hf'
  have hul : us.length = m := by rw [hr.1, hm]
  exact ⟨w', S, by simp [execOp, ho, hs.evv hx, Instr.storeAt, Instr.sureAddr, storeVar, ht.size, hc, hul, hst], h3, h4⟩
theorem aop_store_all {ty ty' : TypeId} {x y : Operand} {b i m : Nat} {g : Bool} {cs xs : List V} [ht : TyS P ty m g] (ho : o.op = .store ty x y) (hd : dstOk n o.dst = true) (hx : ev sl x = .ptr b 0) (hi : L[i]? = some (.box b ty' cs)) (hy : ev sl y = .a xs) (hm : xs.length = m) (hl : cs.length = m) (h1 : xs.all V.one = true)
    (hK : K (put sl o.dst (.v undef)) (L.set i (.box b ty' xs))) : AOp P n o sl L K :=
  aop_store (xs := xs) ho hd hx hi ⟨rfl, rfl⟩ (by rw [hy]; rfl) hm (by omega) h1 (by
    have : (Ch.box b ty' cs).splice 0 xs = .box b ty' xs := by simp [Ch.splice, List.drop_of_length_le (show cs.length ≤ xs.length by omega)]
    rw [this]; exact hK)
theorem splice_one {cs : List V} {o : Nat} (c : V) (h : o < cs.length) : cs.take o ++ [c] ++ cs.drop (o + 1) = cs.set o c := by
  rw [List.set_eq_take_append_cons_drop, if_pos h]; simp
theorem aop_store1 {ty ty' : TypeId} {x y : Operand} {b o' i : Nat} {cs : List V} {c : D} [ht : TyS P ty 1 false] (ho : o.op = .store ty x y) (hd : dstOk n o.dst = true) (hx : ev sl x = .ptr b o') (hi : L[i]? = some (.box b ty' cs)) (hy : ev sl y = .d c) (hl : Nat.blt o' cs.length = true) (h1 : c.one = true)
    (hK : K (put sl o.dst (.v undef)) (L.set i (.box b ty' (cs.set o' (.d c))))) : AOp P n o sl L K := by
  have hl : o' < cs.length := by simpa using hl
  exact aop_store (xs := [.d c]) ho hd hx hi ⟨rfl, rfl⟩ (by rw [hy]; rfl) rfl (Nat.succ_le_of_lt hl) (by simpa [V.one] using h1) (by
    have : (Ch.box b ty' cs).splice o' [.d c] = .box b ty' (cs.set o' (.d c)) := by simp only [Ch.splice, List.length_singleton]; rw [splice_one _ hl]
    rw [this]; exact hK)
theorem aop_store1_row {ty e : TypeId} {x y : Operand} {b o' i k m : Nat} {v : Value} {cs : List V} {c : D} [ht : TyS P ty 1 false] (ho : o.op = .store ty x y) (hd : dstOk n o.dst = true) (hx : ev sl x = .ptr b o') (hi : L[i]? = some (.row v e k m cs)) (hv : v.ownBlock = some b) (hy : ev sl y = .d c) (hl : o' < cs.length) (h1 : c.one = true)
    (hK : K (put sl o.dst (.v undef)) (L.set i (.row v e k m (cs.set o' (.d c))))) : AOp P n o sl L K :=
  aop_store (xs := [.d c]) ho hd hx hi ⟨hv, rfl⟩ (by rw [hy]; rfl) rfl (Nat.succ_le_of_lt hl) (by simpa [V.one] using h1) (by
    have : (Ch.row v e k m cs).splice o' [.d c] = .row v e k m (cs.set o' (.d c)) := by simp only [Ch.splice, List.length_singleton]; rw [splice_one _ hl]
    rw [this]; exact hK)
end
end Go.Proofs.Ytlagablcopmhkaa
/- Walking with descriptions: slices, structs, functions. -/
namespace Go.Proofs.Ytlagablcopmhkaa
open Go.RowKit
variable {P : Program}

section
variable {n : Nat} {o : Oper} {sl : Sl} {L : List Ch} {K : Sl → List Ch → Prop}

theorem Rep.slice {w : World} {S : Nat → Prop} {m k : Nat} {ds : List D} {v : Value} (h : Rep w S (.s m k ds) v) : ∃ p cap us, v = .slice p m cap ∧ m ≤ 140737488355328 ∧ m ≤ cap ∧ cap ≤ 9223372036854775807 ∧ ds.length = m * k ∧ us.length = ds.length ∧
    (us ≠ [] → ∃ b off, p = some ⟨b, off, none⟩ ∧ S b ∧ ∀ (j : Nat) (u : Value), us[j]? = some u → w.cell? ⟨b, off + j, none⟩ = some u) ∧ ∀ (j : Nat) (d : D) (u : Value), ds[j]? = some d → us[j]? = some u → Rep w S d u := by
  cases h with
  | s us hn hc hm hd hu hp hr => exact ⟨_, _, us, rfl, hn, hc, hm, hd, hu, hp, hr⟩
theorem R.slice {w : World} {S : Nat → Prop} {m k : Nat} {ds : List D} {v : Value} (h : R w S (.d (.s m k ds)) v) : Rep w S (.s m k ds) v := by cases h with | d h => exact h

theorem mul_lt_of {i m k : Nat} (h : i < m) (hk : 0 < k) : i * k < m * k := Nat.mul_lt_mul_of_pos_right h hk
theorem aop_index {t e : TypeId} {x y : Operand} {m k bytes : Nat} {kk : IntKind} {q : Int} {ds : List D} [ht : TyL P t e k bytes] (ho : o.op = .indexAddr t x y) (hd : dstOk n o.dst = true) (hx : ev sl x = .d (.s m k ds)) (hy : ev sl y = .v (.int kk q)) (i : Nat) (hq : q = (i : Int)) (hi : i < m)
    (hK : K (put sl o.dst (.e ds (i * k))) L) : AOp P n o sl L K := by
  refine .val hd _ (fun w S a hs => ?_) hK
  have h := hs.ev x
  rw [hx] at h
  obtain ⟨p, cap, us, hv, _, _, _, hdl, hul, hp, hr⟩ := h.slice.slice
  have hlt : i * k < ds.length := by rw [hdl]; exact mul_lt_of hi ht.pos
  obtain ⟨b, off, rfl, hS, hc⟩ := hp (fun e => by rw [e] at hul; simp at hul; omega)
  refine ⟨.pointer (some ⟨b, off + i * k, none⟩), ?_, .e us hul hlt hS hc hr⟩
  have h0 : ¬ m ≤ i := by omega
  simp [execOp, ho, hv, hs.evv hy, Instr.indexAt, asIntOf, run_underlying ht.und, hq, hi, ht.size, Addr.add_mid]
theorem aop_index_row {t e : TypeId} {x y : Operand} {m k bytes j : Nat} {kk : IntKind} {q : Int} {v : Value} {cs : List V} [ht : TyL P t e k bytes] (ho : o.op = .indexAddr t x y) (hd : dstOk n o.dst = true) (hx : ev sl x = .v v) (hj : L[j]? = some (.row v e k m cs)) (hy : ev sl y = .v (.int kk q)) (i : Nat) (hq : q = (i : Int)) (hi : i < m)
    (hK : ∀ g, v.ownBlock = some g → K (put sl o.dst (.ptr g (i * k))) L) : AOp P n o sl L K := by
  refine .of hd fun w S a hs => ?_
  obtain ⟨us, hown, _⟩ := (hs.hp.mem hj).1
  rcases hown.2 with ⟨_, h0⟩ | ⟨g, cap, cur, rfl, _⟩
  · omega
  · refine ⟨.pointer (some ⟨g, i * k, none⟩), _, w, S, L, ?_, .v _, hs.hp, .refl _ _ _, hK g rfl⟩
    simp [execOp, ho, hs.evv hx, hs.evv hy, Instr.indexAt, asIntOf, run_underlying ht.und, hq, hi, ht.size, Addr.add_mid]
theorem aop_index_arr {t e : TypeId} {x y : Operand} {len k b o' : Nat} {kk : IntKind} {q : Int} [ht : TyA P t len e k] (ho : o.op = .indexAddr t x y) (hd : dstOk n o.dst = true) (hx : ev sl x = .ptr b o') (hy : ev sl y = .v (.int kk q)) (i : Nat) (hq : q = (i : Int)) (hi : i < len)
    (hK : K (put sl o.dst (.ptr b (o' + i * k))) L) : AOp P n o sl L K :=
  aop_pure hd _ (fun w S a hs => by simp [execOp, ho, hs.evv hx, hs.evv hy, Instr.indexAt, Instr.sureAddr, asIntOf, run_underlying ht.und, hq, hi, ht.size, Addr.add_mid]) hK
theorem aop_index_arr_e {t e : TypeId} {x y : Operand} {len k o' : Nat} {ds : List D} {kk : IntKind} {q : Int} [ht : TyA P t len e k] (ho : o.op = .indexAddr t x y) (hd : dstOk n o.dst = true) (hx : ev sl x = .e ds o') (hy : ev sl y = .v (.int kk q)) (i : Nat) (hq : q = (i : Int)) (hi : i < len) (hlt : o' + i * k < ds.length)
    (hK : K (put sl o.dst (.e ds (o' + i * k))) L) : AOp P n o sl L K := by
  refine .val hd _ (fun w S a hs => ?_) hK
  have h := hs.ev x
  rw [hx] at h
  generalize hv : a.eval x = v at h
  cases h with
  | e us hu hlt0 hS hc hr =>
    rename_i b off'
    refine ⟨.pointer (some ⟨b, off' + (o' + i * k), none⟩), ?_, .e us hu hlt hS hc hr⟩
    rw [← Nat.add_assoc]
    simp [execOp, ho, hv, hs.evv hy, Instr.indexAt, Instr.sureAddr, asIntOf, run_underlying ht.und, hq, hi, ht.size, Addr.add_mid]

theorem aop_len {x : Operand} {t e : TypeId} {k' bytes : Nat} {m k : Nat} {ds : List D} [ht : TyL P t e k' bytes] (ho : o.op = .call { callee := .builtin .len, args := #[x], argTypes := #[t] }) (hd : dstOk n o.dst = true) (hx : ev sl x = .d (.s m k ds)) (hK : K (put sl o.dst (.i m)) L) : AOp P n o sl L K := by
  refine .val hd _ (fun w S a hs => ?_) hK
  have h := hs.ev x
  rw [hx] at h
  obtain ⟨p, cap, us, hv, _⟩ := h.slice.slice
  exact ⟨_, by simp [execOp, ho, resolve, invoke, builtin, Builtin.len_, run_underlying ht.und, goInt, hv], .v _⟩
theorem aop_len_row {x : Operand} {t e' : TypeId} {k' bytes : Nat} {j m k : Nat} {e : TypeId} {v : Value} {cs : List V} [ht : TyL P t e' k' bytes] (ho : o.op = .call { callee := .builtin .len, args := #[x], argTypes := #[t] }) (hd : dstOk n o.dst = true) (hx : ev sl x = .v v) (hj : L[j]? = some (.row v e k m cs)) (hK : K (put sl o.dst (.i m)) L) : AOp P n o sl L K := by
  refine .val hd _ (fun w S a hs => ?_) hK
  obtain ⟨us, hown, _⟩ := (hs.hp.mem hj).1
  rcases hown.2 with ⟨rfl, rfl⟩ | ⟨g, cap, cur, rfl, _⟩
  · exact ⟨_, by simp [execOp, ho, resolve, invoke, builtin, Builtin.len_, run_underlying ht.und, goInt, hs.evv hx], .v _⟩
  · exact ⟨_, by simp [execOp, ho, resolve, invoke, builtin, Builtin.len_, run_underlying ht.und, goInt, hs.evv hx], .v _⟩
theorem aop_max {x y : Operand} {ts : Array TypeId} {p q : Int} (ho : o.op = .call { callee := .builtin .max, args := #[x, y], argTypes := ts }) (hd : dstOk n o.dst = true) (hx : ev sl x = .i p) (hy : ev sl y = .i q) (hK : K (put sl o.dst (.i (max p q))) L) : AOp P n o sl L K :=
  aop_pure hd _ (fun w S a hs => by
    have : imax p q = max p q := imax_eq p q
    simp [execOp, ho, resolve, invoke, builtin, max_im, max2_im, hs.evv hx, hs.evv hy, this]) hK
theorem aop_min {x y : Operand} {ts : Array TypeId} {p q : Int} (ho : o.op = .call { callee := .builtin .min, args := #[x, y], argTypes := ts }) (hd : dstOk n o.dst = true) (hx : ev sl x = .i p) (hy : ev sl y = .i q) (hK : K (put sl o.dst (.i (min p q))) L) : AOp P n o sl L K :=
  aop_pure hd _ (fun w S a hs => by
    have : imin p q = min p q := imin_eq p q
    simp [execOp, ho, resolve, invoke, builtin, min_im, min2_im, hs.evv hx, hs.evv hy, this]) hK
theorem aop_extract {x : Operand} {i : Nat} {cs : List V} {c : V} (ho : o.op = .extract x i) (hd : dstOk n o.dst = true) (hx : ev sl x = .t cs) (hc : cs[i]? = some c) (hK : K (put sl o.dst c) L) : AOp P n o sl L K := by
  refine .val hd _ (fun w S a hs => ?_) hK
  have h := hs.ev x
  rw [hx] at h
  generalize hv : a.eval x = v at h
  cases h with
  | t us hl hr =>
    obtain ⟨u, hu⟩ : ∃ u, us[i]? = some u := ⟨us[i]'(by rw [hl]; exact (List.getElem?_eq_some_iff.1 hc).1), by simp⟩
    exact ⟨u, by simp [execOp, ho, hv, Instr.extract, hu], hr i c u hc hu⟩
theorem RL.map_ev {w : World} {S : Nat → Prop} {a : Act} (h : ∀ x, R w S (ev sl x) (a.eval x)) (xs : List Operand) : RL w S (xs.map (ev sl)) (xs.map a.eval) := by
  induction xs with
  | nil => exact .nil _ _
  | cons x xs ih => exact .cons (h x) ih
theorem aop_makeFunc {fn : Fn} {first cap : Array Operand} (ho : o.op = .makeFunc fn first cap) (hd : dstOk n o.dst = true) (hK : K (put sl o.dst (.f fn (first.toList.map (ev sl)) (cap.toList.map (ev sl)))) L) : AOp P n o sl L K := by
  refine .val hd _ (fun w S a hs => ?_) hK
  have h1 := RL.map_ev hs.ev first.toList
  have h2 := RL.map_ev hs.ev cap.toList
  refine ⟨_, ?_, .f _ _ h1.1 h1.2 h2.1 h2.2⟩
  have e1 : ∀ xs : Array Operand, xs.map a.eval = (xs.toList.map a.eval).toArray := fun xs => by apply Array.ext'; simp
  simp [execOp, ho, Instr.makeFunc, e1]

/-- a slice's part -/
theorem Rep.part {w : World} {S : Nat → Prop} {m k : Nat} {ds : List D} {v : Value} (h : Rep w S (.s m k ds) v) {l r : Nat} (hl : l ≤ r) (hr : r ≤ m) : ∃ p cap, v = .slice p m cap ∧ m ≤ cap ∧ cap ≤ 9223372036854775807 ∧
    Rep w S (.s (r - l) k ((ds.drop (l * k)).take ((r - l) * k))) (.slice (if cap = l then p else p.map (·.add (l * k))) (r - l) (cap - l)) := by
  obtain ⟨p, cap, us, rfl, h1, h2, h3, h4, h5, h6, h7⟩ := h.slice
  refine ⟨p, cap, rfl, h2, h3, ?_⟩
  have hk : l * k + (r - l) * k ≤ m * k := by rw [← Nat.add_mul]; exact Nat.mul_le_mul_right _ (by omega)
  refine .s ((us.drop (l * k)).take ((r - l) * k)) (by omega) (by omega) (by omega) (by simp; omega) (by simp; omega) (fun hne => ?_) (fun j d u hd hu => ?_)
  · have hne2 : us ≠ [] := by rintro rfl; simp at hne
    obtain ⟨b, off, rfl, hS, hc⟩ := h6 hne2
    have hlc : cap ≠ l := by
      rintro rfl
      have : r - cap = 0 := by omega
      rw [this] at hne; simp at hne
    refine ⟨b, off + l * k, by rw [if_neg hlc]; simp [Addr.add_mid], hS, fun j u hj => ?_⟩
    rw [List.getElem?_take] at hj
    split at hj
    · rw [Nat.add_assoc]; exact hc _ _ (by simpa using hj)
    · cases hj
  · rw [List.getElem?_take] at hd hu
    split at hd
    · rename_i hj
      rw [if_pos hj] at hu
      exact h7 _ d u (by simpa using hd) (by simpa using hu)
    · cases hd
theorem aop_slice {t e : TypeId} {x : Operand} {lo hi : Option Operand} {m k bytes : Nat} {ds : List D} [ht : TyL P t e k bytes] (ho : o.op = .slice t x lo hi none) (hd : dstOk n o.dst = true) (hx : ev sl x = .d (.s m k ds)) (l r : Nat)
    (hlo : match lo with | some y => ∃ q : Int, ev sl y = .i q ∧ q = (l : Int) | none => l = 0) (hhi : match hi with | some y => ∃ q : Int, ev sl y = .i q ∧ q = (r : Int) | none => r = m) (hl : l ≤ r) (hr : r ≤ m)
    (hK : K (put sl o.dst (.d (.s (r - l) k ((ds.drop (l * k)).take ((r - l) * k))))) L) : AOp P n o sl L K := by
  refine .val hd _ (fun w S a hs => ?_) hK
  have h := hs.ev x
  rw [hx] at h
  obtain ⟨p, cap, hv, h1, h2, h3⟩ := h.slice.part hl hr
  refine ⟨_, ?_, .d h3⟩
  have e1 : ∀ w, (Instr.sliceAt t (a.eval x) (lo.map a.eval) (hi.map a.eval) none).run P w = .ok (.slice (if cap = l then p else p.map (·.add (l * k))) (r - l) (cap - l)) w := fun w => by
    have elo : lo.map a.eval = lo.map fun _ => Value.int .i64 (l : Int) := by
      cases lo with
      | none => rfl
      | some y => obtain ⟨q, hq, rfl⟩ := hlo; simp [hs.evv hq]
    have ehi : hi.map a.eval = hi.map fun _ => Value.int .i64 (r : Int) := by
      cases hi with
      | none => rfl
      | some y => obtain ⟨q, hq, rfl⟩ := hhi; simp [hs.evv hq]
    rw [hv, elo, ehi]
    have a1 : r ≤ cap := by omega
    cases lo with
    | none =>
      obtain rfl : l = 0 := hlo
      cases hi with
      | none =>
        obtain rfl : r = m := hhi
        simp [Instr.sliceAt, Instr.slice, Instr.sliceBounds, run_underlying ht.und, ht.size]
      | some y => simp [Instr.sliceAt, Instr.slice, Instr.sliceBounds, Instr.sliceBound, run_underlying ht.und, ht.size, asIntOf, a1]
    | some z =>
      cases hi with
      | none =>
        obtain rfl : r = m := hhi
        simp [Instr.sliceAt, Instr.slice, Instr.sliceBounds, Instr.sliceBound, run_underlying ht.und, ht.size, asIntOf, hl]
      | some y => simp [Instr.sliceAt, Instr.slice, Instr.sliceBounds, Instr.sliceBound, run_underlying ht.und, ht.size, asIntOf, a1, hl]
  simp [execOp, ho, e1]
theorem aop_slice_hi {t e : TypeId} {x y : Operand} {m bytes : Nat} {ds : List D} {q : Int} [ht : TyL P t e 1 bytes] (ho : o.op = .slice t x none (some y) none) (hd : dstOk n o.dst = true) (hx : ev sl x = .d (.s m 1 ds)) (hy : ev sl y = .i q) (r : Nat) (hq : q = (r : Int)) (hr : r ≤ m) (hK : K (put sl o.dst (.d (.s r 1 (ds.take r)))) L) : AOp P n o sl L K :=
  aop_slice ho hd hx 0 r rfl ⟨q, hy, hq⟩ (Nat.zero_le _) hr (by simpa using hK)
end
end Go.Proofs.Ytlagablcopmhkaa
