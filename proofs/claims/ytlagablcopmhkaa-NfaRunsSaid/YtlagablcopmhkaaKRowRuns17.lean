/- Packed: AlReg, AlOwn, AlRef -/
import Derived.Laws.IdiomCopy
import Derived.Test.YtlagablcopmhkaaKRowRuns6
import Derived.Test.YtlagablcopmhkaaKRowRuns11
import Derived.Test.YtlagablcopmhkaaKRowRuns12
set_option linter.unusedVariables false
set_option linter.unusedSimpArgs false
/- Walking with descriptions: regions of one's own with a fact that stands: seen as data by calls; read and written. -/
namespace Go.Proofs.Ytlagablcopmhkaa
open Go.RowKit
variable {P : Program}

/-- a description that looks at no memory -/
def VStab (c : V) : Prop := ∀ (w w' : World) (S S' : Nat → Prop) (v : Value), R w S c v → R w' S' c v
theorem VStab.v (x : Value) : VStab (.v x) := fun _ _ _ _ v h => by rw [h.unv]; exact .v x
theorem VStab.j : VStab .j := fun _ _ _ _ v _ => .j v
theorem VStab.t {cs : List V} (h : ∀ c ∈ cs, VStab c) : VStab (.t cs) := fun w w' S S' v hr => by
  cases hr with
  | t us hl hr => exact .t us hl fun j c u h1 h2 => h c (List.mem_of_getElem? h1) w w' S S' u (hr j c u h1 h2)
theorem VStab.a {cs : List V} (h : ∀ c ∈ cs, VStab c) : VStab (.a cs) := fun w w' S S' v hr => by
  cases hr with
  | a us hl hr => exact .a us hl fun j c u h1 h2 => h c (List.mem_of_getElem? h1) w w' S S' u (hr j c u h1 h2)
theorem VStab.two {c c' : V} (h : VStab c) (h' : VStab c') : VStab (.t [c, c']) := .t fun x hx => by simp at hx; exact hx.elim (fun e => e ▸ h) (fun e => e ▸ h')
def Ch.isReg : Ch → Bool
  | .reg _ _ => true
  | _ => false

/-- a description that holds when what is owned counts as data -/
def VLeR (A : Nat → Prop) (Φ : World → Prop) (c c' : V) : Prop := ∀ (w : World) (S : Nat → Prop) (v : Value), Φ w → (∀ b, A b → b < w.heap.size) → R w S c v → R w (fun b => S b ∨ A b) c' v
theorem VLeR.refl {A : Nat → Prop} {Φ : World → Prop} (c : V) : VLeR A Φ c c := fun w S v _ _ h => h.move (kept_same (fun _ _ _ => rfl) fun _ h => .inl h)
def ArgsR (A : Nat → Prop) (Φ : World → Prop) : List V → List V → Prop
  | [], [] => True
  | c :: r, c' :: r' => VLeR A Φ c c' ∧ ArgsR A Φ r r'
  | _, _ => False
theorem ArgsR.rl {A : Nat → Prop} {Φ : World → Prop} {w : World} {S : Nat → Prop} (hΦ : Φ w) (hA : ∀ b, A b → b < w.heap.size) : ∀ {l l' : List V} {us : List Value}, ArgsR A Φ l l' → RL w S l us → RL w (fun b => S b ∨ A b) l' us
  | [], [], us, _, h => by rw [h.unnil]; exact .nil _ _
  | c :: r, c' :: r', us, hl, h => by obtain ⟨u, us', rfl, h1, h2⟩ := h.uncons; exact .cons (hl.1 w S u hΦ hA h1) (hl.2.rl hΦ hA h2)
  | [], _ :: _, _, hl, _ => hl.elim
  | _ :: _, [], _, hl, _ => hl.elim

section
variable {n : Nat} {o : Oper} {sl : Sl} {L : List Ch} {K : Sl → List Ch → Prop}
/-- a call that sees a region of one's own as data; what it hands back is new -/
theorem aop_callR {f : FuncId} {g : Operand} {ag : Array Operand} {ts : Array TypeId} {first cap args : List V} {Q : V → List Ch → Prop} (j : Nat) {A : Nat → Prop} {Φ : World → Prop} (ho : o.op = .call { callee := .value g, args := ag, argTypes := ts }) (hd : dstOk n o.dst = true) (hg : ev sl g = .f (.func f) first cap)
    (eg : ∀ (args : Array Value) (w : World), (callFunc f args).run P w = .ok (.enter f args) w) (hj : L[j]? = some (.reg A Φ)) (hc : AC P f args [] Q) (ha : ArgsR A Φ (first ++ (ag.toList.map (ev sl) ++ cap)) args) (hQ : ∀ c L', Q c L' → VStab c ∧ ∀ x ∈ L', x.isReg = true)
    (hK : ∀ c L', Q c L' → K (put sl o.dst c) (L' ++ L)) : AOp P n o sl L K := by
  intro w S a hs nx Qr hnx
  have h1 := hs.ev g
  rw [hg] at h1
  generalize hv : a.eval g = v at h1
  cases h1 with
  | f us vs hl hr hl2 hr2 =>
    obtain ⟨⟨hΦ, hA, _⟩, _⟩ := hs.hp.mem hj
    have hargs : RL w (fun b => S b ∨ A b) args (us ++ (ag.toList.map a.eval ++ vs)) := ha.rl hΦ hA (RL.append (cs := first) (us := us) ⟨hl, hr⟩ ((RL.map_ev hs.ev ag.toList).append ⟨hl2, hr2⟩))
    have hrun : (execOp a.eval o).run P w = .ok (.enter f (us ++ (ag.toList.map a.eval ++ vs)).toArray) w := by
      have e1 : ag.map a.eval = (ag.toList.map a.eval).toArray := by apply Array.ext'; simp
      simp [execOp, ho, resolve, invoke, Deferred.ofValue, hv, e1, eg]
    have hp0 : Hp w (fun b => S b ∨ A b) [] := ⟨by simp, List.Pairwise.nil, fun b hb => absurd hb inL_nil, fun b hb => hb.elim (hs.hp.lt b) (hA b)⟩
    unfold Oper.wp
    rw [hrun, Oper.upon_enter]
    refine (hc w _ _ hp0 hargs).mono ?_
    rintro e w' ⟨v, c, S', L', rfl, hQ', hrv, hp', hf'⟩
    have hsame : ∀ b, b < w.heap.size → w'.heap[b]? = w.heap[b]? := fun b hb => hf'.same b hb inL_nil
    obtain ⟨s1, s2⟩ := hQ c L' hQ'
    have hLn : ∀ b, inL L' b → ¬ b < w.heap.size := fun b hb hlt => inL_nil (hf'.Ln b hb hlt)
    have hk : Kept w S w' S := kept_same (fun b _ hlt => hsame b hlt) fun _ h => h
    have hp2 : Hp w' S (L' ++ L) := by
      refine ⟨fun x hx => ?_, List.pairwise_append.2 ⟨hp'.ap, hs.hp.ap, fun x hx y hy b hb hb' => hLn b ⟨x, hx, hb⟩ ((hs.hp.ok y hy).lt hb')⟩, fun b hb hS => ?_, fun b hb => Nat.lt_of_lt_of_le (hs.hp.lt b hb) hf'.size⟩
      · rcases List.mem_append.1 hx with hx | hx
        · have h3 := hp'.ok x hx
          have h4 := s2 x hx
          cases x with
          | reg A' Φ' => exact h3
          | _ => cases h4
        · exact (hs.hp.ok x hx).move (fun b hb => hsame b ((hs.hp.ok x hx).lt hb)) hk
      · rcases inL_append.1 hb with hb | hb
        · exact hLn b hb (hs.hp.lt b hS)
        · exact hs.hp.out b hb hS
    have hf2 : Fr w S L w' S (L' ++ L) := ⟨hf'.os, hf'.tape, hf'.output, hf'.size, fun b hb _ => hsame b hb, fun _ h => h, fun _ h _ => .inl h, fun b hb hlt => (inL_append.1 hb).elim (fun h => absurd hlt (hLn b h)) id⟩
    exact hnx _ _ _ _ _ (hK c L' hQ') (hs.put hd hf2 hp2 (s1 _ _ _ _ _ hrv)) hf2 ⟨_, rfl⟩
theorem aop_callR0 {f : FuncId} {g : Operand} {ag : Array Operand} {ts : Array TypeId} {first cap args : List V} {c : V} (j : Nat) {A : Nat → Prop} {Φ : World → Prop} (ho : o.op = .call { callee := .value g, args := ag, argTypes := ts }) (hd : dstOk n o.dst = true) (hg : ev sl g = .f (.func f) first cap)
    (eg : ∀ (args : Array Value) (w : World), (callFunc f args).run P w = .ok (.enter f args) w) (hj : L[j]? = some (.reg A Φ)) (hc : AC P f args [] fun r L' => r = c ∧ L' = []) (ha : ArgsR A Φ (first ++ (ag.toList.map (ev sl) ++ cap)) args) (hQ : VStab c) (hK : K (put sl o.dst c) L) : AOp P n o sl L K :=
  aop_callR j ho hd hg eg hj hc ha (fun c' L' h => by obtain ⟨rfl, rfl⟩ := h; exact ⟨hQ, by simp⟩) fun c' L' h => by obtain ⟨rfl, rfl⟩ := h; exact hK

theorem aop_index_ptr {t e : TypeId} {x y : Operand} {m k bytes b off cap : Nat} {kk : IntKind} {q : Int} [ht : TyL P t e k bytes] (ho : o.op = .indexAddr t x y) (hd : dstOk n o.dst = true) (hx : ev sl x = .v (.slice (some ⟨b, off, none⟩) m cap)) (hy : ev sl y = .v (.int kk q)) (i : Nat) (hq : q = (i : Int)) (hi : i < m)
    (hK : K (put sl o.dst (.ptr b (off + i * k))) L) : AOp P n o sl L K :=
  aop_pure hd _ (fun w S a hs => by simp [execOp, ho, hs.evv hx, hs.evv hy, Instr.indexAt, asIntOf, run_underlying ht.und, hq, hi, ht.size, Addr.add_mid]) hK
theorem aop_len_ptr {x : Operand} {t e' : TypeId} {k' bytes m cap : Nat} {p : Option Addr} [ht : TyL P t e' k' bytes] (ho : o.op = .call { callee := .builtin .len, args := #[x], argTypes := #[t] }) (hd : dstOk n o.dst = true) (hx : ev sl x = .v (.slice p m cap)) (hK : K (put sl o.dst (.i m)) L) : AOp P n o sl L K :=
  aop_pure hd _ (fun w S a hs => by simp [execOp, ho, resolve, invoke, builtin, Builtin.len_, run_underlying ht.und, goInt, hs.evv hx]) hK

/-- another world whose block b has other values, and all else is as it was -/
structure Shp (b : Nat) (w w' : World) : Prop where
  same : ∀ b', b' ≠ b → w'.heap[b']? = w.heap[b']?
  size : w'.heap.size = w.heap.size
  ty : tyOf w' b = tyOf w b
  fz : ∀ x, w'.frozen? x = w.frozen? x
  cell : ∀ x, (w'.cell? x).isSome = (w.cell? x).isSome
  os : w'.os = w.os
  tape : w'.tape = w.tape
  output : w'.output = w.output
theorem Shp.refl (b : Nat) (w : World) : Shp b w w := ⟨fun _ _ => rfl, rfl, rfl, fun _ => rfl, fun _ => rfl, rfl, rfl, rfl⟩
theorem Shp.trans {b : Nat} {w w1 w2 : World} (h : Shp b w w1) (k : Shp b w1 w2) : Shp b w w2 := ⟨fun x hx => (k.same x hx).trans (h.same x hx), k.size.trans h.size, k.ty.trans h.ty, fun x => (k.fz x).trans (h.fz x), fun x => (k.cell x).trans (h.cell x), k.os.trans h.os, k.tape.trans h.tape, k.output.trans h.output⟩
theorem Shp.setCell (w : World) (b o : Nat) (v : Value) : Shp b w (w.setCell ⟨b, o, none⟩ v) := by
  refine ⟨fun b' h => Below.heap_setCell w _ v b' h, World.size_setCell .., ?_, fun x => World.frozen?_setCell .., fun x => ?_, rfl, rfl, rfl⟩
  · unfold tyOf
    show (match (w.heap.modify b _)[b]? with | some (.cells _ t _) => some t | _ => none) = _
    rw [Array.getElem?_modify]
    simp only [if_true]
    cases h : w.heap[b]? with
    | none => rfl
    | some o => cases o <;> rfl
  · by_cases e : (⟨b, o, none⟩ : Addr) = x
    · subst e
      cases h : w.cell? ⟨b, o, none⟩ with
      | some u => rw [World.cell?_setCell_same _ _ _ h]; rfl
      | none =>
        unfold World.cell? at h ⊢
        simp only [Option.isSome_none]
        simp only [World.setCell, Array.getElem?_modify, if_true]
        simp only at h
        cases h2 : w.heap[b]? with
        | none => rfl
        | some ob =>
          rw [h2] at h
          cases ob with
          | cells c t f => simp at h ⊢; exact h
          | _ => rfl
    · rw [World.cell?_setCell_other _ _ _ _ e]
theorem Shp.setCells (b : Nat) : ∀ (vs : List Value) (o : Nat) (w : World), Shp b w (w.setCells b o vs)
  | [], o, w => .refl b w
  | v :: r, o, w => (Shp.setCell w b o v).trans (Shp.setCells b r (o + 1) _)

/-- a store into a region whose fact is about shapes -/
theorem aop_store_reg {ty : TypeId} {x y : Operand} {b o' m : Nat} {g : Bool} {xs : List V} (i : Nat) {A : Nat → Prop} {Φ : World → Prop} [ht : TyS P ty m g] (ho : o.op = .store ty x y) (hd : dstOk n o.dst = true) (hx : ev sl x = .ptr b o') (hi : L[i]? = some (.reg A Φ)) (hxs : xs = (ev sl y).cells) (hm : xs.length = m) (h1 : xs.all V.one = true)
    (hA : ∀ w, Φ w → A b ∧ (∀ j, j < m → (w.cell? ⟨b, o' + j, none⟩).isSome = true ∧ w.frozen? ⟨b, o' + j, none⟩ = false) ∧ ∀ w', Shp b w w' → Φ w') (hK : K (put sl o.dst (.v undef)) L) : AOp P n o sl L K := by
  subst hxs
  refine .skip hd _ (fun w S a hs => ?_) hK
  obtain ⟨us, hc, hr, hone⟩ := (hs.ev y).cells h1
  obtain ⟨⟨hΦ, hAl, hst⟩, hp1⟩ := hs.hp.mem hi
  obtain ⟨hAb, hcf, hsh⟩ := hA w hΦ
  have hul : us.length = m := by rw [hr.1, hm]
  have hrun := run_storeCells_cells (P := P) b o' us 0 w (fun j hj => by rw [Nat.add_zero]; exact (hcf j (by omega)).1) (fun j hj => by rw [Nat.add_zero]; exact (hcf j (by omega)).2) hone
  rw [Nat.add_zero] at hrun
  have hS := Shp.setCells b us o' w
  have hbS : ¬ S b := hp1.out b (inL_one.2 hAb)
  have hp2 : Hp (w.setCells b o' us) S [.reg A Φ] := ⟨fun c hc => by simp at hc; subst hc; exact ⟨hsh _ hS, fun b hb => by rw [hS.size]; exact hAl b hb, hst⟩, List.pairwise_singleton _ _, hp1.out, fun b hb => by rw [hS.size]; exact hp1.lt b hb⟩
  have hf2 : Fr w S [.reg A Φ] (w.setCells b o' us) S [.reg A Φ] := ⟨hS.os, hS.tape, hS.output, by rw [hS.size]; exact Nat.le_refl _, fun b' _ hn => hS.same b' (by rintro rfl; exact hn (inL_one.2 hAb)), fun _ h => h, fun _ h _ => .inl h, fun b hb _ => hb⟩
  obtain ⟨h3, h4⟩ := hs.hp.upd hi hp2 hf2
  rw [set_self hi] at h3 h4
  exact ⟨_, S, by simp [execOp, ho, hs.evv hx, Instr.storeAt, Instr.sureAddr, storeVar, ht.size, hc, hul, hrun], h3, h4⟩
/-- what stands in a region is hung behind a row -/
theorem aop_append_reg {t e : TypeId} {x y : Operand} {j m q k bytes cap : Nat} {p : Option Addr} {v : Value} {cs : List V} {us : List Value} (i : Nat) {A : Nat → Prop} {Φ : World → Prop} [ht : TyL P t e k bytes] (ho : o.op = .call { callee := .builtin .append, args := #[x, y], argTypes := #[t, t] }) (hd : dstOk n o.dst = true)
    (hx : ev sl x = .v v) (hj : L[j]? = some (.row v e k m cs)) (hy : ev sl y = .v (.slice p q cap)) (hi : L[i]? = some (.reg A Φ)) (hlen : us.length = q * k) (h1 : us.all (·.oneCell') = true) (hb : (m + q) * bytes ≤ 140737488355328) (hm : m + q ≤ 140737488355328)
    (hA : ∀ w, Φ w → us ≠ [] → ∃ b off, p = some ⟨b, off, none⟩ ∧ A b ∧ ∀ (j : Nat) (u : Value), us[j]? = some u → w.cell? ⟨b, off + j, none⟩ = some u)
    (hq0 : q ≤ cap) (hcm : cap ≤ 9223372036854775807) (hK : ∀ v', K (put sl o.dst (.v v')) (L.set j (.row v' e k (m + q) (cs ++ us.map .v)))) : AOp P n o sl L K := by
  intro w S a hs nx Q hnx
  obtain ⟨⟨hΦ, hAl, hst⟩, hp1⟩ := hs.hp.mem hi
  -- what is read is a row of data in a wider set
  refine AOp.of (K := K) hd (fun w S a hs => ?_) w S a hs nx Q hnx
  obtain ⟨⟨hΦ, hAl, hst⟩, hp1⟩ := hs.hp.mem hi
  have hone : ∀ u ∈ us, u.oneCell' = true := fun u hu => List.all_eq_true.1 h1 u hu
  obtain ⟨⟨us0, hown, hr0, hone0, hm0⟩, hp1⟩ := hs.hp.mem hj
  obtain ⟨ii, z, hii, hiz, hzs, hsz, hby⟩ := ht.info
  by_cases hq : q = 0
  · subst hq
    have hd0 : us = [] := List.length_eq_zero_iff.1 (by simpa using hlen)
    subst hd0
    have hrun : (Builtin.append_ #[t, t] o.type #[v, .slice p 0 cap]).run P w = .ok v w := by
      rcases hown.2 with ⟨rfl, rfl⟩ | ⟨g, cap', cur, rfl, _, _, hnc, _⟩
      · cases p <;> simp [Builtin.append_, run_underlying ht.und, sizeOf, typeInfo, hii, Builtin.lenOf, Builtin.firstCells, loadCells, loadCellsFrom]
      · cases p <;> simp [Builtin.append_, run_underlying ht.und, sizeOf, typeInfo, hii, Builtin.lenOf, Builtin.firstCells, hnc, storeCells, loadCells, loadCellsFrom]
    refine ⟨v, _, w, S, _, by simp [execOp, ho, resolve, invoke, builtin, hs.evv hx, hs.evv hy, hrun], .v _, ?_, ?_, hK v⟩
    · simp only [Nat.add_zero, List.map_nil, List.append_nil]; rw [set_self hj]; exact hs.hp
    · simp only [Nat.add_zero, List.map_nil, List.append_nil]; rw [set_self hj]; exact .refl _ _ _
  · obtain ⟨b, off, rfl, hS, hc⟩ := hA w hΦ (fun e => by rw [e] at hlen; simp at hlen; have := Nat.mul_pos (Nat.pos_of_ne_zero hq) ht.pos; omega)
    have hml : m + q ≤ maxLen := by unfold maxLen; omega
    have hnews : ∀ j u, us[j]? = some u → w.cell? ((⟨b, off, none⟩ : Addr).add j) = some u := fun j u hj => by rw [Addr.add_mid]; exact hc j u hj
    obtain ⟨v', w', hrun, h2, h3, _⟩ := run_append_own (P := P) w 0 t o.type e ii z k bytes ht.und hii hiz hsz hby hzs ht.pos v m us0 hown ⟨b, off, none⟩ q cap us hlen hnews hone hml hb (Nat.zero_le _)
    have hfr := append_fresh ht.und hii hiz hsz hby hown ⟨b, off, none⟩ q cap us hlen hnews hone hb hm hrun
    obtain ⟨g1, g2⟩ := hp1.append1 h3 hfr h2 hr0 hone0 (xs := us.map .v) (by have := RL_vals w S us; simpa [zV] using this) hone hm
    obtain ⟨g3, g4⟩ := hs.hp.upd hj g1 g2
    exact ⟨v', _, w', S, _, by simp [execOp, ho, resolve, invoke, builtin, hs.evv hx, hs.evv hy, hrun], .v _, g3, g4, hK v'⟩
end
end Go.Proofs.Ytlagablcopmhkaa
/- What a call hands back as its own: regions that are as they were, or as they are shaped; Copy, Step. -/
namespace Go.Proofs.Ytlagablcopmhkaa
open Go.RowKit

def SameOn (A : Nat → Prop) (w0 : World) (W : World) : Prop := ∀ b, A b → W.heap[b]? = w0.heap[b]?
/-- as it was shaped; blocks of type T as they were -/
def ShapeOn (A : Nat → Prop) (T : TypeId) (w0 : World) (W : World) : Prop := ∀ b, A b → tyOf W b = tyOf w0 b ∧ (∀ o, W.frozen? ⟨b, o, none⟩ = w0.frozen? ⟨b, o, none⟩) ∧ (∀ o, (W.cell? ⟨b, o, none⟩).isSome = (w0.cell? ⟨b, o, none⟩).isSome) ∧ (tyOf w0 b = some T → W.heap[b]? = w0.heap[b]?)
def RegSt (A : Nat → Prop) (Φ : World → Prop) : Prop := ∀ w1 w2 : World, (∀ b, A b → w2.heap[b]? = w1.heap[b]?) → Φ w1 → Φ w2
theorem SameOn.st (A : Nat → Prop) (w0 : World) : RegSt A (SameOn A w0) := fun _ _ h h1 b hb => (h b hb).trans (h1 b hb)
theorem frozen_same {w w' : World} {b : Nat} (h : w'.heap[b]? = w.heap[b]?) (o : Nat) : w'.frozen? ⟨b, o, none⟩ = w.frozen? ⟨b, o, none⟩ := by unfold World.frozen?; rw [h]
theorem cell_same {w w' : World} {b : Nat} (h : w'.heap[b]? = w.heap[b]?) (o : Nat) : w'.cell? ⟨b, o, none⟩ = w.cell? ⟨b, o, none⟩ := by unfold World.cell?; rw [h]
theorem ShapeOn.st (A : Nat → Prop) (T : TypeId) (w0 : World) : RegSt A (ShapeOn A T w0) := fun w1 w2 h h1 b hb => by
  obtain ⟨a1, a2, a3, a4⟩ := h1 b hb
  have e := h b hb
  exact ⟨(tyOf_same e).trans a1, fun o => (frozen_same e o).trans (a2 o), fun o => by rw [cell_same e]; exact a3 o, fun ht => e.trans (a4 ht)⟩
theorem SameOn.shape {A : Nat → Prop} {w0 W : World} (T : TypeId) (h : SameOn A w0 W) : ShapeOn A T w0 W := fun b hb => ⟨tyOf_same (h b hb), fun o => frozen_same (h b hb) o, fun o => by rw [cell_same (h b hb)], fun _ => h b hb⟩
theorem ShapeOn.shp {A : Nat → Prop} {T : TypeId} {w0 W W' : World} (h : ShapeOn A T w0 W) {b : Nat} (hs : Shp b W W') (ht : A b → tyOf w0 b ≠ some T) : ShapeOn A T w0 W' := fun b' hb' => by
  obtain ⟨a1, a2, a3, a4⟩ := h b' hb'
  by_cases e : b' = b
  · subst e
    exact ⟨hs.ty.trans a1, fun o => (hs.fz _).trans (a2 o), fun o => (hs.cell _).trans (a3 o), fun h => absurd h (ht hb')⟩
  · have e2 := hs.same b' e
    exact ⟨(tyOf_same e2).trans a1, fun o => (frozen_same e2 o).trans (a2 o), fun o => by rw [cell_same e2]; exact a3 o, fun ht => e2.trans (a4 ht)⟩

/-- a slice of n elements of k cells may be written while Φ stands -/
def Wrt (A : Nat → Prop) (Φ : World → Prop) (k : Nat) (p : Option Addr) (n : Nat) : Prop :=
  0 < n → ∃ b off, p = some ⟨b, off, none⟩ ∧ ∀ w, Φ w → A b ∧ (∀ j, j < n * k → (w.cell? ⟨b, off + j, none⟩).isSome = true ∧ w.frozen? ⟨b, off + j, none⟩ = false) ∧ ∀ w', Shp b w w' → Φ w'
def New (w w' : World) (b : Nat) : Prop := w.heap.size ≤ b ∧ b < w'.heap.size
theorem RepM.wrt {w w0 : World} {t T : TypeId} {n k : Nat} {ds : List D} {v : Value} (h : RepM w0 (Ty w.heap.size w0 t) (.s n k ds) v) (hk : 0 < k) (hT : t ≠ T) : ∃ p cap, v = .slice p n cap ∧ n ≤ 140737488355328 ∧ n ≤ cap ∧ cap ≤ 9223372036854775807 ∧ Wrt (New w w0) (ShapeOn (New w w0) T w0) k p n := by
  cases h with
  | s us hn hc hm hd hu hp hr =>
    refine ⟨_, _, rfl, hn, hc, hm, fun hpos => ?_⟩
    have hnk : 0 < n * k := Nat.mul_pos hpos hk
    obtain ⟨b, off, rfl, hb, hf, hcell⟩ := hp (by rintro rfl; simp at hu; omega)
    refine ⟨b, off, rfl, fun W hW => ?_⟩
    obtain ⟨u0, hu0⟩ : ∃ u, us[0]? = some u := ⟨us[0]'(by omega), by simp⟩
    have hbA : New w w0 b := ⟨hb.1, World.block_lt_of_cell? w0 _ (hcell 0 u0 hu0)⟩
    obtain ⟨a1, a2, a3, a4⟩ := hW b hbA
    refine ⟨hbA, fun j hj => ⟨?_, (a2 _).trans (hf _)⟩, fun W' hs => hW.shp hs fun _ => by rw [hb.2]; intro e; exact hT (Option.some.inj e)⟩
    obtain ⟨u, hu1⟩ : ∃ u, us[j]? = some u := ⟨us[j]'(by omega), by simp⟩
    rw [a3, hcell j u hu1]; rfl
theorem RepM.view {w0 : World} {A : Nat → Prop} {d : D} {v : Value} (h : RepM w0 A d v) (hA : ∀ b, A b → b < w0.heap.size) : VLeR A (SameOn A w0) (.v v) (.d d) := fun W S u hΦ hlt hR => by
  obtain rfl := hR.unv
  exact .d (h.rep.move fun b hb _ => ⟨hΦ b hb, .inr hb⟩)
theorem VLeR.a {A : Nat → Prop} {Φ : World → Prop} {cs cs' : List V} (h : ArgsR A Φ cs cs') : VLeR A Φ (.a cs) (.a cs') := fun W S u hΦ hlt hR => by
  cases hR with
  | a us hl hr =>
    have hh : RL W S cs us := ⟨hl, hr⟩
    have h2 := h.rl hΦ hlt hh
    exact .a us h2.1 h2.2

theorem Le.regW {n : Nat} {sl : Sl} {L : List Ch} (j : Nat) {A : Nat → Prop} {Φ : World → Prop} (Φ' : World → Prop) (hj : L[j]? = some (.reg A Φ)) (h1 : ∀ w, Φ w → Φ' w) (h2 : RegSt A Φ') : Le n sl L sl (L.set j (.reg A Φ')) := fun w S a hs => by
  obtain ⟨⟨hΦ, hA, hst⟩, hp1⟩ := hs.hp.mem hj
  have hp2 : Hp w S [.reg A Φ'] := ⟨fun c hc => by simp at hc; subst hc; exact ⟨h1 w hΦ, hA, h2⟩, List.pairwise_singleton _ _, fun b hb => hp1.out b (inL_one.2 (inL_one.1 hb :)), hp1.lt⟩
  obtain ⟨q1, q2⟩ := hs.hp.upd hj hp2 ⟨rfl, rfl, rfl, Nat.le_refl _, fun _ _ _ => rfl, fun _ h => h, fun _ h _ => .inl h, fun b hb _ => inL_one.2 (inL_one.1 hb :)⟩
  exact ⟨S, ⟨q1, hs.size, hs.sl, hs.df.move q2⟩, q2⟩

/-- what a call hands back is its own -/
theorem ac_own {P : Program} {f : FuncId} {args : List V} (G : V → (Nat → Prop) → World → Prop) (h : ∀ (w : World) (S : Nat → Prop) (vs : List Value), RL w S args vs → Calls P f vs.toArray w fun e w' => ∃ v c, e = .returned v ∧ R w' S c v ∧ VStab c ∧ Below w.heap.size w w' ∧ G c (New w w') w') :
    AC P f args [] fun r L' => VStab r ∧ ∃ A w0, G r A w0 ∧ L' = [.reg A (SameOn A w0)] := fun w S vs hp hr => by
  refine (h w S vs hr).mono ?_
  rintro e w' ⟨v, c, rfl, hv, hs, hb, hG⟩
  refine ⟨v, c, S, _, rfl, ⟨hs, _, w', hG, rfl⟩, hv, ⟨fun x hx => ?_, List.pairwise_singleton _ _, fun b hb' hS => ?_, fun b hb' => Nat.lt_of_lt_of_le (hp.lt b hb') hb.size⟩,
    ⟨hb.os, hb.tape, hb.output, hb.size, fun b hlt _ => hb.block b hlt, fun _ h => h, fun b h _ => .inl h, fun b h hlt => ?_⟩⟩
  · simp at hx; subst hx; exact ⟨fun _ _ => rfl, fun b hb => hb.2, SameOn.st _ _⟩
  · have h1 := inL_one.1 hb'
    have := hp.lt b hS
    have := h1.1
    omega
  · have h1 := (inL_one.1 h).1
    omega

/-- a list of numbers of one's own -/
def OwnI (l : List Int) (v : Value) (A : Nat → Prop) (w0 : World) : Prop :=
  ∃ p cap, v = .slice p l.length cap ∧ l.length ≤ 140737488355328 ∧ VLeR A (SameOn A w0) (.v v) (.d (dI l)) ∧ Wrt A (ShapeOn A 24 w0) 1 p l.length
theorem OwnI.of {l : List Int} {w w' : World} {v : Value} (h : RepM w' (Ty w.heap.size w' 3) (dI l) v) : OwnI l v (New w w') w' := by
  obtain ⟨p, cap, rfl, h1, _, _, h2⟩ := h.wrt (w := w) (T := 24) (by decide) (by decide)
  exact ⟨p, cap, rfl, h1, (h.mono fun b hb hlt => ⟨hb.1, hlt⟩).view fun b hb => hb.2, h2⟩
/-- an automaton that may be written over -/
structure SpOk (A : Nat → Prop) (Φ : World → Prop) (p0 : Option Addr) (n0 : Nat) (p1 : Option Addr) (n1 c1 : Nat) (p2 : Option Addr) (n2 : Nat) (p3 : Option Addr) (n3 : Nat) (fs : List (Option Addr × Nat × Nat)) : Prop where
  w0 : Wrt A Φ 4 p0 n0
  w2 : Wrt A Φ 1 p2 n2
  w3 : Wrt A Φ 1 p3 n3
  wf : ∀ f ∈ fs, Wrt A Φ 1 f.1 f.2.1
  len : fs.length = n1
  cap : n1 ≤ c1 ∧ c1 ≤ 9223372036854775807
  row : ∀ w, Φ w → fs ≠ [] → ∃ b off, p1 = some ⟨b, off, none⟩ ∧ A b ∧ ∀ (j : Nat) (f : Option Addr × Nat × Nat), fs[j]? = some f → w.cell? ⟨b, off + j, none⟩ = some (.slice f.1 f.2.1 f.2.2)
  le0 : n0 ≤ 140737488355328
  le2 : n2 ≤ 140737488355328
  le3 : n3 ≤ 140737488355328
  lef : ∀ f ∈ fs, f.2.1 ≤ 140737488355328
def OwnAu (a : Auto) (r : V) (A : Nat → Prop) (w0 : World) : Prop :=
  ∃ p0 c0 p1 c1 p2 c2 p3 c3 fs, r = .a [.v (.slice p0 a.sets.length c0), .v (.slice p1 a.follow.length c1), .v (.slice p2 a.first.length c2), .v (.slice p3 a.last.length c3), .b a.empty] ∧
    VLeR A (SameOn A w0) r (.a (cellsA a)) ∧ SpOk A (ShapeOn A 24 w0) p0 a.sets.length p1 a.follow.length c1 p2 a.first.length p3 a.last.length fs
theorem OwnAu.of {a : Auto} {w w' : World} {u0 u1 u2 u3 : Value} (h : OwnA w.heap.size w' a u0 u1 u2 u3) (hl : a.follow.length ≤ 1000000) : OwnAu a (.a [.v u0, .v u1, .v u2, .v u3, .b a.empty]) (New w w') w' := by
  obtain ⟨us, hown, he⟩ := h.r1
  have hn : ∀ b, New w w' b → b < w'.heap.size := fun b hb => hb.2
  have hf : RepM w' (New w w') (dLists a.follow) u1 := RepM.of_owns hown (by omega) (by simp) (fun b h h2 => ⟨h, by
      cases hb : w'.heap[b]? with
      | none => rw [tyOf, hb] at h2; cases h2
      | some o => exact (Array.getElem?_eq_some_iff.1 hb).1⟩) (fun j d u h1 h2 => by
    rw [List.getElem?_map] at h1
    cases hj : a.follow[j]? with
    | none => rw [hj] at h1; cases h1
    | some x => rw [hj] at h1; cases h1; rw [dI_flat]; exact (he j x u hj h2).mono fun b hb hlt => ⟨hb.1, hlt⟩)
  have hul : us.length = a.follow.length := by have := hown.1; omega
  have hsl : ∀ (j : Nat) (u : Value), us[j]? = some u → ∃ p n c, u = .slice p n c ∧ n ≤ 140737488355328 ∧ Wrt (New w w') (ShapeOn (New w w') 24 w') 1 p n := fun j u hj => by
    obtain ⟨d, hd⟩ : ∃ d, a.follow[j]? = some d := ⟨a.follow[j]'(by have := (List.getElem?_eq_some_iff.1 hj).1; omega), by simp⟩
    obtain ⟨p, cap, rfl, h1, h2, h3, h4⟩ := (he j d u hd hj).wrt (w := w) (T := 24) (by decide) (by decide)
    exact ⟨p, _, cap, rfl, h1, h4⟩
  let val : Value → Option Addr × Nat × Nat := fun u => match u with | .slice p n c => (p, n, c) | _ => (none, 0, 0)
  obtain ⟨q0, d0, rfl, l0, _, _, w0⟩ := h.r0.wrt (w := w) (T := 24) (by decide) (by decide)
  obtain ⟨q2, d2, rfl, l2, _, _, w2⟩ := h.r2.wrt (w := w) (T := 24) (by decide) (by decide)
  obtain ⟨q3, d3, rfl, l3, _, _, w3⟩ := h.r3.wrt (w := w) (T := 24) (by decide) (by decide)
  obtain ⟨q1, d1, rfl⟩ := ownsRow_form hown
  have hcap : a.follow.length ≤ d1 ∧ d1 ≤ 9223372036854775807 := by
    rcases hown.2 with ⟨e1, e2⟩ | ⟨g, cap, cur, e1, _, _, e2, e3, _⟩
    · simp at e1; omega
    · simp at e1; unfold maxLen at e3; omega
  refine ⟨q0, d0, q1, d1, q2, d2, q3, d3, us.map val, rfl, ?_, ⟨w0, w2, w3, ?_, by simp [hul], hcap, ?_, l0, l2, l3, ?_⟩⟩
  · refine .a ⟨(h.r0.mono fun b hb hlt => ⟨hb.1, hlt⟩).view hn, hf.view hn, ?_, ?_, .refl _, trivial⟩
    · have := (h.r2.mono (S' := New w w') fun b hb hlt => ⟨hb.1, hlt⟩).view hn; rw [← dI_flat] at this; exact this
    · have := (h.r3.mono (S' := New w w') fun b hb hlt => ⟨hb.1, hlt⟩).view hn; rw [← dI_flat] at this; exact this
  · intro f hf
    obtain ⟨u, hu, rfl⟩ := List.mem_map.1 hf
    obtain ⟨j, hj⟩ := List.getElem?_of_mem hu
    obtain ⟨p, n, c, rfl, _, hw⟩ := hsl j u hj
    exact hw
  · intro W hW hne
    rcases hown.2 with ⟨_, e⟩ | ⟨g, cap, cur, e1, hb0, hg, hnc, hcm, hcs, htake⟩
    · exact absurd (List.length_eq_zero_iff.1 (by simp [hul, e])) hne
    · simp at e1
      obtain ⟨rfl, rfl⟩ := e1
      have hgA : New w w' g := ⟨hb0, (Array.getElem?_eq_some_iff.1 hg).1⟩
      refine ⟨g, 0, rfl, hgA, fun j f hj => ?_⟩
      rw [List.getElem?_map] at hj
      cases hu : us[j]? with
      | none => rw [hu] at hj; cases hj
      | some u =>
        rw [hu] at hj
        obtain ⟨p, n, c, rfl, _⟩ := hsl j u hu
        cases hj
        rw [cell_same ((hW g hgA).2.2.2 (tyOf_row hg))]
        have := hown.cells (g := g) rfl j _ hu
        rwa [Addr.add_mid] at this
  · intro f hf
    obtain ⟨u, hu, rfl⟩ := List.mem_map.1 hf
    obtain ⟨j, hj⟩ := List.getElem?_of_mem hu
    obtain ⟨p, n, c, rfl, hl, _⟩ := hsl j u hj
    exact hl
theorem copy_a (a : Auto) (h0 : a.sets.length ≤ 1000000) (h1 : a.follow.length ≤ 1000000) (h2 : a.first.length ≤ 1000000) (h3 : a.last.length ≤ 1000000) (h4 : ∀ f ∈ a.follow, f.length ≤ 1000000) :
    AC Try.prog 26 [.a (cellsA a)] [] fun r L' => VStab r ∧ ∃ A w0, OwnAu a r A w0 ∧ L' = [.reg A (SameOn A w0)] :=
  ac_own (OwnAu a) fun w S vs hr => by
    obtain ⟨v, rfl, h⟩ := hr.one
    obtain ⟨v0, v1, v2, v3, rfl, hA⟩ := h.auto
    refine (copyA_any a _ _ _ _ w hA h0 h1 h2 h3 h4).mono ?_
    rintro e w' ⟨u0, u1, u2, u3, rfl, hO, hb⟩
    exact ⟨_, _, rfl, R.agg5 (.v _) (.v _) (.v _) (.v _), .a fun c hc => by simp at hc; rcases hc with rfl | rfl | rfl | rfl | rfl <;> exact .v _, hb, .of hO h1⟩
end Go.Proofs.Ytlagablcopmhkaa
/- The reference of layer 17 by descriptions: Right, Check, Accepts, Step. -/
namespace Go.Proofs.Ytlagablcopmhkaa
open Go.RowKit

theorem setsWL_at {l : List (BitVec 256)} {k : Nat} {s : BitVec 256} (h : l[k]? = some s) : ((setsWL l).drop (k * 256)).take 256 = wordsL s 256 := by
  induction l generalizing k with
  | nil => simp at h
  | cons x l ih =>
    cases k with
    | zero => simp at h; subst h; rw [setsWL, Nat.zero_mul, List.drop_zero, List.take_left' (wordsL_length _ _)]
    | succ k =>
      rw [setsWL, show (k + 1) * 256 = (wordsL x 256).length + k * 256 by rw [wordsL_length]; omega, List.drop_append, List.drop_of_length_le (by omega), List.nil_append, show (wordsL x 256).length + k * 256 - (wordsL x 256).length = k * 256 by omega]
      exact ih (by simpa using h)
theorem setsWV_at {l : List (BitVec 256)} {k : Nat} {s : BitVec 256} (h : l[k]? = some s) : ((((setsWL l).map D.v).drop (k * 256)).take 256).map V.d = (wordsL s 256).map V.v := by
  rw [← List.map_drop, ← List.map_take, setsWL_at h, List.map_map]; rfl
theorem aop_load_agg_e' {P : Program} {n : Nat} {o : Oper} {sl : Sl} {L : List Ch} {K : Sl → List Ch → Prop} {ty : TypeId} {x : Operand} {o' : Nat} {ds : List D} {m : Nat} [ht : TyS P ty m true] (ho : o.op = .load ty x) (hd : dstOk n o.dst = true) (hx : ev sl x = .e ds o') (cs : List V) (hcs : ((ds.drop o').take m).map V.d = cs) (hm : o' + m ≤ ds.length) (hK : K (put sl o.dst (.a cs)) L) : AOp P n o sl L K :=
  aop_load_agg_e ho hd hx hm (by rw [hcs]; exact hK)

set_option maxRecDepth 100000 in
set_option maxHeartbeats 2000000 in
theorem rightR_a (a : Auto) (hB : Bd a) : AC Try.prog 45 [.a (cellsR a)] [] fun r L' => r = .b (rightA a) ∧ L' = [] := by
  obtain ⟨h1, h2, h3, h4, h5⟩ := hB
  refine ac_body _ Try.func45 rfl Try.ntmps45 Try.results45 rfl ?_
  refine aw_seq (aw_region ?_)
  refine aos_cons rfl (aop_box_a rfl rfl rfl rfl ?_)
  intro b
  (repeat (first | refine aos_nil ?_ | ((refine aos_cons rfl ?_); (first | refine qd rfl rfl ?_ | refine gl rfl rfl rfl (by repeat first | exact .z | apply At.s) (by rfl) ?_ | refine aop_fieldAddr rfl rfl rfl ?_ | refine gc rfl rfl rfl rfl rfl _ (by rfl) ?_ | refine gn0 rfl rfl rfl ?_); show AOs _ _ _ _ ((_, _) :: _) _ _) | refine aw_seq ?_ | refine aw_region ?_))
  have e0 : rightA a = (!decide (400 < (a.sets.length : Int)) && decide ((a.follow.length : Int) = a.sets.length) && risesB (0 - 1) (a.sets.length - 1) a.first && risesB (0 - 1) (a.sets.length - 1) a.last && goodFrom (a.sets.length - 1) a.follow a.sets) := by
    have e1 : decide (a.sets.length ≤ 400) = !decide (400 < (a.sets.length : Int)) := by rw [Bool.eq_iff_iff]; simp; omega
    have e2 : decide (a.follow.length = a.sets.length) = decide ((a.follow.length : Int) = a.sets.length) := by rw [Bool.eq_iff_iff]; simp; omega
    rw [rightA, e1, e2]
  cases hA : decide (400 < (a.sets.length : Int))
  · (repeat (((first | refine aos_cons rfl ?_ | refine aos_yes rfl rfl rfl ?_); (first | refine qd rfl rfl ?_ | refine gl rfl rfl rfl (by repeat first | exact .z | apply At.s) (by rfl) ?_ | refine aop_fieldAddr rfl rfl rfl ?_ | refine gc rfl rfl rfl rfl rfl _ (by first | assumption | rfl) ?_ | refine gn0 rfl rfl rfl ?_); show AOs _ _ _ _ ((_, _) :: _) _ _)))
    cases hF : decide ((a.follow.length : Int) = a.sets.length)
    · (repeat (first | refine aos_nil ?_ | refine aos_no rfl rfl rfl rfl rfl ?_ | ((refine aos_cons rfl ?_); (refine qd rfl rfl ?_); show AOs _ _ _ _ ((_, _) :: _) _ _) | refine aw_seq ?_ | refine aw_region ?_ | refine aw_ret ?_ | refine aw_cond true rfl ?_))
      exact fpost0 (.inr rfl) (res_tmp 2) (by show V.b _ = V.b _; rw [e0, hA, hF]; rfl)
    · (repeat (((refine aos_yes rfl rfl rfl ?_); (first | refine qd rfl rfl ?_ | refine gl rfl rfl rfl (by repeat first | exact .z | apply At.s) (by rfl) ?_ | refine aop_fieldAddr rfl rfl rfl ?_); show AOs _ _ _ _ ((_, _) :: _) _ _)))
      (refine aos_yes rfl rfl rfl ?_); refine aop_call0 rfl rfl rfl (fun _ _ => by kernel_rfl) (risingR_a a.first 0 a.sets.length) (.refl _) ?_; show AOs _ _ _ _ ((_, _) :: _) _ _
      cases hI : risesB (0 - 1) (a.sets.length - 1) a.first
      · (repeat (first | refine aos_nil ?_ | refine aos_no rfl rfl rfl rfl rfl ?_ | ((first | refine aos_cons rfl ?_ | refine aos_yes rfl rfl rfl ?_); (refine qd rfl rfl ?_); show AOs _ _ _ _ ((_, _) :: _) _ _) | refine aw_seq ?_ | refine aw_region ?_ | refine aw_ret ?_ | refine aw_cond true rfl ?_))
        exact fpost0 (.inr rfl) (res_tmp 2) (by show V.b _ = V.b _; rw [e0, hA, hF, hI]; rfl)
      · (repeat (((first | refine aos_cons rfl ?_ | refine aos_yes rfl rfl rfl ?_); (first | refine qd rfl rfl ?_ | refine gl rfl rfl rfl (by repeat first | exact .z | apply At.s) (by rfl) ?_ | refine aop_fieldAddr rfl rfl rfl ?_); show AOs _ _ _ _ ((_, _) :: _) _ _)))
        (refine aos_yes rfl rfl rfl ?_); refine aop_call0 rfl rfl rfl (fun _ _ => by kernel_rfl) (risingR_a a.last 0 a.sets.length) (.refl _) ?_; show AOs _ _ _ _ ((_, _) :: _) _ _
        cases hL : risesB (0 - 1) (a.sets.length - 1) a.last
        · (repeat (first | refine aos_nil ?_ | ((first | refine aos_cons rfl ?_ | refine aos_yes rfl rfl rfl ?_); (refine qd rfl rfl ?_); show AOs _ _ _ _ ((_, _) :: _) _ _) | refine aw_seq ?_ | refine aw_region ?_ | refine aw_ret ?_ | refine aw_cond true rfl ?_))
          exact fpost0 (.inr rfl) (res_tmp 2) (by show V.b _ = V.b _; rw [e0, hA, hF, hI, hL]; rfl)
        · (repeat (first | refine aos_nil ?_ | ((first | refine aos_cons rfl ?_ | refine aos_yes rfl rfl rfl ?_); (refine qd rfl rfl ?_); show AOs _ _ _ _ ((_, _) :: _) _ _) | refine aw_seq ?_ | refine aw_region ?_ | refine aw_block ?_ | refine aw_skip ?_ | refine aw_cond false rfl ?_))
          rw [hA, hF, hI, hL] at e0
          simp only [Bool.not_false, Bool.true_and] at e0
          have hfl : a.follow.length = a.sets.length := by have := of_decide_eq_true hF; omega
          refine aw_for (ι := Nat) (fun k => [(1, V.ptr b 0), (3, V.i a.sets.length), (4, V.i k)]) (fun _ => [.box b 79 (cellsR a)])
            (fun k => k ≤ a.sets.length ∧ goodFrom (a.sets.length - 1) a.follow a.sets = goodFrom (a.sets.length - 1) (a.follow.drop k) (a.sets.drop k)) (fun k => a.sets.length - k) 0 ⟨Nat.zero_le _, rfl⟩ (.eqs rfl) ?_
          rintro k ⟨hk, hg⟩
          (repeat (first | refine aos_nil ?_ | ((refine aos_cons rfl ?_); (first | refine qd rfl rfl ?_ | refine gc rfl rfl rfl rfl rfl _ (by rfl) ?_); show AOs _ _ _ _ ((_, _) :: _) _ _) | refine aw_seq ?_ | refine aw_region ?_))
          by_cases hlt : k < a.sets.length
          · have hd : decide ((k : Int) < (a.sets.length : Int)) = true := by simp; omega
            rw [hd]
            obtain ⟨s, hs⟩ := some_at hlt
            obtain ⟨f, hf⟩ := some_at (show k < a.follow.length by omega)
            have hst : goodFrom (a.sets.length - 1) (a.follow.drop k) (a.sets.drop k) = (risesB (0 - 1) (a.sets.length - 1) f && !(s == 0) && goodFrom (a.sets.length - 1) (a.follow.drop (k + 1)) (a.sets.drop (k + 1))) := by rw [drop_cons hf, drop_cons hs, goodFrom]
            have hz : (s == 0) = decide (sumW s 256 = 0) := by
              have := sum_zero s
              rw [show zeroB s = (s == 0) from by unfold zeroB eqSet; rw [Bool.eq_iff_iff]; simp] at this
              rw [← this]; rw [Bool.eq_iff_iff]; simp
            rw [hz] at hst
            (repeat (first | ((refine aos_cons rfl ?_); refine aop_load_agg_e' rfl rfl rfl _ (setsWV_at hs) (by simp [setsWL_length]; omega) ?_; show AOs _ _ _ _ ((_, _) :: _) _ _) | ((refine aos_cons rfl ?_); refine aop_call0 rfl rfl rfl (fun _ _ => by kernel_rfl) (sizeR_a s) (.refl _) ?_; show AOs _ _ _ _ ((_, _) :: _) _ _) | ((refine aos_cons rfl ?_); (first | refine qd rfl rfl ?_ | refine gl rfl rfl rfl (by repeat first | exact .z | apply At.s) (by rfl) ?_ | refine aop_fieldAddr rfl rfl rfl ?_ | refine gc rfl rfl rfl rfl rfl _ (by first | assumption | rfl) ?_ | refine aop_index rfl rfl rfl rfl _ rfl (by omega) ?_); show AOs _ _ _ _ ((_, _) :: _) _ _) | refine aw_seq ?_ | refine aw_region ?_ | refine aw_block ?_ | refine aw_skip ?_ | refine aw_cond true rfl ?_))
            cases hw : decide (sumW s 256 = 0)
            · (repeat (((refine aos_yes rfl rfl rfl ?_); (first | refine qd rfl rfl ?_ | refine gl rfl rfl rfl (by repeat first | exact .z | apply At.s) (by rfl) ?_ | refine aop_fieldAddr rfl rfl rfl ?_ | refine aop_index rfl rfl rfl rfl _ rfl (by omega) ?_); show AOs _ _ _ _ ((_, _) :: _) _ _)))
              (refine aos_yes rfl rfl rfl ?_); refine aop_load_e rfl rfl rfl (dL_at hf) ?_; show AOs _ _ _ _ ((_, _) :: _) _ _
              (repeat (((refine aos_yes rfl rfl rfl ?_); (refine qd rfl rfl ?_); show AOs _ _ _ _ ((_, _) :: _) _ _)))
              (refine aos_yes rfl rfl rfl ?_); refine aop_call0 rfl rfl rfl (fun _ _ => by kernel_rfl) (risingR_a f 0 a.sets.length) (.refl _) ?_; show AOs _ _ _ _ ((_, _) :: _) _ _
              cases hr : risesB (0 - 1) (a.sets.length - 1) f
              · (repeat (first | refine aos_nil ?_ | ((first | refine aos_cons rfl ?_ | refine aos_yes rfl rfl rfl ?_); (refine qd rfl rfl ?_); show AOs _ _ _ _ ((_, _) :: _) _ _) | refine aw_seq ?_ | refine aw_region ?_ | refine aw_ret ?_ | refine aw_cond true rfl ?_))
                exact fpost0 (.inr rfl) (res_tmp 2) (by show V.b _ = V.b _; rw [e0, hg, hst, hr]; rfl)
              · (repeat (first | refine aos_nil ?_ | ((first | refine aos_cons rfl ?_ | refine aos_yes rfl rfl rfl ?_); (first | refine qd rfl rfl ?_ | refine ga rfl rfl rfl rfl rfl (by omega) (by omega) ?_); show AOs _ _ _ _ ((_, _) :: _) _ _) | refine aw_region ?_ | refine aw_skip ?_ | refine aw_cond false rfl ?_))
                exact ⟨k + 1, ⟨by omega, by rw [hg, hst, hr, hw]; rfl⟩, by omega, .eqs rfl⟩
            · (repeat (first | refine aos_nil ?_ | refine aos_no rfl rfl rfl rfl rfl ?_ | ((refine aos_cons rfl ?_); (refine qd rfl rfl ?_); show AOs _ _ _ _ ((_, _) :: _) _ _) | refine aw_seq ?_ | refine aw_region ?_ | refine aw_ret ?_ | refine aw_cond true rfl ?_))
              exact fpost0 (.inr rfl) (res_tmp 2) (by show V.b _ = V.b _; rw [e0, hg, hst, hw]; simp)
          · have hd : decide ((k : Int) < (a.sets.length : Int)) = false := by simp; omega
            rw [hd]
            (repeat (first | refine aos_nil ?_ | ((refine aos_cons rfl ?_); (refine qd rfl rfl ?_); show AOs _ _ _ _ ((_, _) :: _) _ _) | refine aw_seq ?_ | refine aw_region ?_ | refine aw_exit ?_ | refine aw_ret ?_ | refine aw_cond false rfl ?_))
            exact fpost0 (.inr rfl) (res_tmp 2) (by show V.b _ = V.b _; rw [e0, hg, List.drop_of_length_le (l := a.sets) (by omega)]; cases (a.follow.drop k) <;> rfl)
  · (repeat (first | refine aos_nil ?_ | refine aos_no rfl rfl rfl rfl rfl ?_ | ((refine aos_cons rfl ?_); (refine qd rfl rfl ?_); show AOs _ _ _ _ ((_, _) :: _) _ _) | refine aw_seq ?_ | refine aw_region ?_ | refine aw_ret ?_ | refine aw_cond true rfl ?_))
    exact fpost0 (.inr rfl) (res_tmp 2) (by show V.b _ = V.b _; rw [e0, hA]; rfl)
end Go.Proofs.Ytlagablcopmhkaa
