/- Packed: Nodes, Al, AlOp -/
import Derived.Deep.MidRow
import Derived.Great.BuildSlice
import Derived.Laws.MakeOwn
import Derived.Laws.OwnMore
import Derived.Test.YtlagablcopmhkaaProg
import Derived.Test.YtlagablcopmhkaaKRowRuns1
set_option linter.unusedVariables false
set_option linter.unusedSimpArgs false
/- rx.nodes: the nodes of a tree, from the left, each before those of its Subs, as an iterator. -/
namespace Go.Proofs.Ytlagablcopmhkaa
open Go.RowKit
attribute [local go_sem] Oper.semAt_some wide_fn wide_depth

theorem nodes_any (x : Node) (p : Option Addr) (n c : Nat) (w : World) :
    Calls Try.prog 107 #[.agg (nodeC x (.slice p n c))] w fun e w' => e = .returned (.func (.func 133) #[] #[.pointer (some ⟨w.heap.size, 0, none⟩)]) ∧ Below w.heap.size w w' ∧ w'.heap[w.heap.size]? = some (.cells (nodeC x (.slice p n c)) 41 (0, 0)) := by
  go_enter Try.func107, Try.ntmps107
  go_wp2
  go_ret
  exact ⟨rfl, (Below.refl _ _).alloc (Nat.le_refl _) _, heap_alloc_new w _⟩

theorem cntL_take_lt {l : List Node} {j : Nat} {x : Node} (h : l[j]? = some x) : cntL (l.take j) + cnt x ≤ cntL l := by
  induction l generalizing j with
  | nil => simp at h
  | cons y l ih => cases j with
    | zero => simp at h; subst h; simp [cntL]
    | succ j => simp at h; have := ih h; simp [cntL]; omega

theorem cntL_append (l l' : List Node) : cntL (l ++ l') = cntL l + cntL l' := by
  induction l with
  | nil => simp [cntL]
  | cons x l ih => simp [cntL, ih]; omega

/-- what lies in a cell -/
def cellV (w : World) (b o : Nat) : Value := (w.cell? ⟨b, o, none⟩).getD undef
/-- where a slice begins -/
def headB : Value → Nat | .slice (some a) _ _ => a.block | _ => 0
def headO : Value → Nat | .slice (some a) _ _ => a.off | _ => 0
mutual
/-- the nodes of a tree with the values of their Subs, each before those of its Subs -/
def preV (w : World) : Node → Value → List (Node × Value) | .mk k s mn mx l, sv => (.mk k s mn mx l, sv) :: preVL w l (headB sv) (headO sv)
def preVL (w : World) : List Node → Nat → Nat → List (Node × Value)
  | [], _, _ => []
  | x :: l, b, o => preV w x (cellV w b (o + 7)) ++ preVL w l b (o + 8)
end
theorem preV_eq (w : World) (x : Node) (sv : Value) : preV w x sv = (x, sv) :: preVL w x.subs (headB sv) (headO sv) := by cases x; rfl
mutual
theorem preV_length (w : World) : ∀ x sv, (preV w x sv).length = cnt x
  | .mk k s mn mx l, sv => by simp [preV, cnt, preVL_length w l]; omega
theorem preVL_length (w : World) : ∀ l b o, (preVL w l b o).length = cntL l
  | [], _, _ => rfl
  | x :: l, b, o => by simp [preVL, cntL, preV_length w x, preVL_length w l]
end
/-- the nodes behind the first j Subs -/
theorem preVL_at (w : World) : ∀ (l : List Node) (b o j : Nat) (x : Node), l[j]? = some x → ∀ k, k < cnt x → (preVL w l b o)[cntL (l.take j) + k]? = (preV w x (cellV w b (o + j * 8 + 7)))[k]? := by
  intro l
  induction l with
  | nil => intro b o j x h; simp at h
  | cons y l ih =>
    intro b o j x h k hk
    cases j with
    | zero =>
      simp at h; subst h
      simp only [preVL, List.take_zero, cntL, Nat.zero_add, Nat.zero_mul, Nat.add_zero]
      rw [List.getElem?_append_left (by rw [preV_length]; exact hk)]
    | succ j =>
      simp at h
      simp only [preVL, List.take_succ_cons, cntL]
      rw [List.getElem?_append_right (by rw [preV_length]; omega), preV_length]
      rw [show cnt y + cntL (List.take j l) + k - cnt y = cntL (l.take j) + k by omega, ih b (o + 8) j x h k hk]
      rw [show o + 8 + j * 8 + 7 = o + (j + 1) * 8 + 7 by omega]

def SubsAt (w : World) (S : Nat → Prop) (l : List Node) (b o : Nat) : Prop := ∀ (i : Nat) (x : Node), l[i]? = some x → S b ∧ b < w.heap.size ∧ ∃ sv, RepL w S x.subs sv ∧ NodeAt w b (o + i * 8) x sv
theorem RepL.subsAt {w : World} {S : Nat → Prop} {l : List Node} {sv : Value} (h : RepL w S l sv) : SubsAt w S l (headB sv) (headO sv) := by
  intro i x hx
  obtain ⟨p, cap, rfl, _, _, _, hc⟩ := h.at
  obtain ⟨b, off, rfl, hS, hb, sv', h1, h2⟩ := hc i x hx
  exact ⟨hS, hb, sv', h1, h2⟩
theorem SubsAt.tail {w : World} {S : Nat → Prop} {l : List Node} {x : Node} {b o : Nat} (h : SubsAt w S (x :: l) b o) : SubsAt w S l b (o + 8) := by
  intro i y hy
  have := h (i + 1) y (by simpa using hy)
  rwa [show o + (i + 1) * 8 = o + 8 + i * 8 by omega] at this
theorem SubsAt.head {w : World} {S : Nat → Prop} {l : List Node} {x : Node} {b o : Nat} (h : SubsAt w S (x :: l) b o) : S b ∧ b < w.heap.size ∧ RepL w S x.subs (cellV w b (o + 7)) := by
  obtain ⟨h1, h2, sv, h3, h4⟩ := h 0 x rfl
  have : cellV w b (o + 7) = sv := by
    have := h4.2.2.2.2.2.2.2
    simp only [Nat.zero_mul, Nat.add_zero] at this
    unfold cellV
    rw [this]; rfl
  rw [this]
  exact ⟨h1, h2, h3⟩
mutual
theorem preV_rep {w : World} {S : Nat → Prop} : ∀ (x : Node) (sv : Value), RepL w S x.subs sv → ∀ q ∈ preV w x sv, RepL w S q.1.subs q.2
  | .mk k s mn mx l, sv, h => by
    intro q hq
    simp only [preV, List.mem_cons] at hq
    rcases hq with rfl | hq
    · exact h
    · exact preVL_rep l _ _ h.subsAt q hq
theorem preVL_rep {w : World} {S : Nat → Prop} : ∀ (l : List Node) (b o : Nat), SubsAt w S l b o → ∀ q ∈ preVL w l b o, RepL w S q.1.subs q.2
  | [], _, _, _ => by simp [preVL]
  | x :: l, b, o, h => by
    intro q hq
    simp only [preVL, List.mem_append] at hq
    rcases hq with hq | hq
    · exact preV_rep x _ h.head.2.2 q hq
    · exact preVL_rep l _ _ h.tail q hq
end
mutual
theorem preV_congr {w w' : World} {S : Nat → Prop} (hw : ∀ b, S b → b < w.heap.size → w'.heap[b]? = w.heap[b]?) : ∀ (x : Node) (sv : Value), RepL w S x.subs sv → preV w' x sv = preV w x sv
  | .mk k s mn mx l, sv, h => by
    simp only [preV]
    rw [preVL_congr hw l _ _ h.subsAt]
theorem preVL_congr {w w' : World} {S : Nat → Prop} (hw : ∀ b, S b → b < w.heap.size → w'.heap[b]? = w.heap[b]?) : ∀ (l : List Node) (b o : Nat), SubsAt w S l b o → preVL w' l b o = preVL w l b o
  | [], _, _, _ => rfl
  | x :: l, b, o, h => by
    have e : cellV w' b (o + 7) = cellV w b (o + 7) := by
      unfold cellV
      rw [World.cell?_of_block (w := w) (a := ⟨b, o + 7, none⟩) (hw b h.head.1 h.head.2.1)]
    simp only [preVL, e]
    rw [preV_congr hw x _ h.head.2.2, preVL_congr hw l _ _ h.tail]
end
mutual
/-- the nodes of a tree -/
def pre : Node → List Node | .mk k s mn mx l => .mk k s mn mx l :: preL l
def preL : List Node → List Node
  | [] => []
  | x :: l => pre x ++ preL l
end
mutual
theorem preV_fst (w : World) : ∀ x sv, (preV w x sv).map Prod.fst = pre x
  | .mk k s mn mx l, sv => by simp [preV, pre, preVL_fst w l]
theorem preVL_fst (w : World) : ∀ l b o, (preVL w l b o).map Prod.fst = preL l
  | [], _, _ => rfl
  | x :: l, b, o => by simp [preVL, preL, preV_fst w x, preVL_fst w l]
end

abbrev mark (D : Nat) : Deferred := { target := .collected D, args := #[] }
/-- the marks of loops that are over, the newest first -/
def Marks (W : World) : Nat → List Deferred → Prop
  | _, [] => True
  | U, d :: ds => ∃ D, d = mark D ∧ D < U ∧ W.heap[D]? = some (.deferred (some [])) ∧ Marks W D ds

theorem Marks.lt {W : World} : ∀ {ds : List Deferred} {U : Nat}, Marks W U ds → ∀ D, mark D ∈ ds → D < U
  | [], _, _, D, h => by simp at h
  | d :: ds, U, ⟨D', h1, h2, h3, h4⟩, D, h => by
    subst h1
    simp only [List.mem_cons, mark, Deferred.mk.injEq, Target.collected.injEq, and_true] at h
    rcases h with rfl | h
    · exact h2
    · exact Nat.lt_trans (h4.lt D h) h2

theorem Marks.move {W W' : World} : ∀ {ds : List Deferred} {U U' : Nat}, Marks W U ds → U ≤ U' → (∀ b, b < U → mark b ∈ ds → W'.heap[b]? = W.heap[b]?) → Marks W' U' ds
  | [], _, _, _, _, _ => trivial
  | d :: ds, U, U', ⟨D, h1, h2, h4, h5⟩, hU, hw => ⟨D, h1, by omega, (hw D h2 (by rw [h1]; simp)).trans h4, h5.move (Nat.le_refl _) fun b hb hm => hw b (by omega) (by simp [hm])⟩

/-- A function that leaves with marks alone. -/
theorem leaves_marks {P : Program} {fn : Func} {tmps : Array Value} {R : Ending → World → Prop} {u : FrameMode} (hu : u ≠ .run) : ∀ (ds : List Deferred) (U : Nat) (W : World), Marks W U ds →
    (∀ W' : World, W'.os = W.os → W'.tape = W.tape → W'.output = W.output → W'.heap.size = W.heap.size → (∀ b, mark b ∉ ds → W'.heap[b]? = W.heap[b]?) →
      LeavesIn WF 0 P fn tmps R [] u W') → LeavesInM WF 0 P fn tmps R ds u W := by
  intro ds
  induction ds with
  | nil => exact fun U W _ h => h W rfl rfl rfl rfl (fun _ _ => rfl)
  | cons d ds ih =>
    rintro U W ⟨D, rfl, h2, h4, h5⟩ h
    refine ⟨hu, .inl ⟨D, _, rfl, run_takeDeferred h4, ih D _ (h5.move (Nat.le_refl _) fun b hb _ => World.putObj_heap_other (by omega)) ?_⟩⟩
    intro W' e1 e2 e3 e4 e5
    refine h W' e1 e2 e3 (by simpa using e4) (fun b hb => ?_)
    simp only [List.mem_cons, not_or] at hb
    exact (e5 b hb.2).trans (World.putObj_heap_other (by rintro rfl; exact hb.1 rfl))

def valsOf (l : List (Node × Value)) (k : Nat) : Array Value := #[match l[k]? with | some q => .agg (nodeC q.1 q.2) | none => undef]

theorem Keeps.alloc {B : Nat} {G : Nat → Prop} (W : World) (o : Obj) : Keeps B G W (W.alloc o) := ⟨rfl, rfl, rfl, by simp, fun b hb _ => Below.heap_alloc W o b hb⟩
theorem Keeps.below {B B' : Nat} {G : Nat → Prop} {W W' : World} (h : Below B' W W') (hB : B ≤ B') (hG : ∀ b, G b → b < W.heap.size → b < B') : Keeps B G W W' := ⟨h.os, h.tape, h.output, h.size, fun b hb hc => h.block b (hc.elim (fun h => by omega) (fun h => hG b h hb))⟩

def MarksOut (ds : List Deferred) (G : Nat → Prop) (B : Nat) : Prop := ∀ D, mark D ∈ ds → ¬ G D ∧ B < D

set_option maxHeartbeats 4000000 in
theorem nodes_seq (n : Nat) : ∀ (x : Node) (sv : Value) (w0 : World) (S : Nat → Prop) (t1 : Nat), cnt x ≤ n → w0.heap[t1]? = some (.cells (nodeC x sv) 41 (0, 0)) → RepL w0 S x.subs sv →
    Seq Try.prog 133 #[.pointer (some ⟨t1, 0, none⟩)] (cnt x) (valsOf (preV w0 x sv)) w0 (fun b => (S b ∧ b < w0.heap.size) ∨ b = t1) := by
  induction n with
  | zero => intro x sv w0 S t1 h; have := cnt_pos x; omega
  | succ n ih =>
  intro x sv w0 S t1 hcnt hbox hR l I X W G hsz hRel hGR hI hX hlt hY h0
  have hboxW : W.heap[t1]? = some (.cells (nodeC x sv) 41 (0, 0)) := (hRel t1 (.inr rfl)).trans hbox
  obtain ⟨c0, c1, c2, c3, c4, c5, c6, c7⟩ := BoxN.of_row hboxW
  have ht1 : t1 < W.heap.size := (Array.getElem?_eq_some_iff.1 hboxW).1
  refine (callsIn_wide (n := 0)).1 (callsIn_of_wp_marks Try.func133 rfl trivial ?_)
  obtain ⟨fn, tmps, assign, body, hy, hR0⟩ := hY 0 G (W.alloc (.cells #[.func (.yield l) #[] #[]] 94)) (by have := cnt_pos x; omega) (hI 0 G W _ h0 (Keeps.alloc W _))
  have hv0 : valsOf (preV w0 x sv) 0 = #[.agg (nodeC x sv)] := by cases x; rfl
  rw [hv0] at hy
  clear hv0
  simp only [Try.ntmps133, List.size_toArray, List.length_cons, List.length_nil, Nat.reduceAdd, Nat.reduceSub, Array.replicate_succ, Array.replicate_zero, List.push_toArray, List.append_toArray, List.nil_append, List.cons_append]
  obtain ⟨p, cap, rfl⟩ := hR.shape
  simp only [nodeC] at hy
  gi_wp2
  refine hR0.mono ?_
  clear hR0 hy
  have hbel : Below W.heap.size W (W.alloc (.cells #[.func (.yield l) #[] #[]] 94)) := (Below.refl _ _).alloc (Nat.le_refl _) _
  have hB2 : (W.alloc (.cells #[.func (.yield l) #[] #[]] 94)).heap[W.heap.size]? = some (.cells #[.func (.yield l) #[] #[]] 94 (0, 0)) := heap_alloc_new W _
  rintro e W' (⟨rfl, G', ho, hi⟩ | ⟨rfl, G', ho, hx⟩)
  · have hGW := hlt 0 G W h0
    have hB2' : W'.heap[W.heap.size]? = some (.cells #[.func (.yield l) #[] #[]] 94 (0, 0)) := (ho.same _ (by simp) (fun h => by have := hGW _ h; omega)).trans hB2
    have hKD : ∀ b, ((S b ∧ b < w0.heap.size) ∨ b = t1) → W'.heap[b]? = w0.heap[b]? := fun b hb =>
      have hbl : b < W.heap.size := by rcases hb with hb | hb; omega; omega
      (ho.same b (by simp; omega) (fun h => hGR b h hb)).trans ((hbel.block b hbl).trans (hRel b hb))
    obtain ⟨c0, c1, c2, c3, c4, c5, c6, c7⟩ := BoxN.of_row ((hKD t1 (.inr rfl)).trans hbox)
    have hsz' : W.heap.size < W'.heap.size := by have := ho.size; simp at this; omega
    have hGR' : ∀ b, G' b → ¬ ((S b ∧ b < w0.heap.size) ∨ b = t1) := fun b hb hr => by
      rcases ho.new b hb with h | h
      · exact hGR b h hr
      · simp at h; rcases hr with hr | hr; omega; omega
    have hGB : ¬ G' W.heap.size := fun h => by rcases ho.new _ h with h | h; have := hGW _ h; omega; rw [World.size_alloc] at h; omega
    have hlen : x.subs.length ≤ 140737488355328 := by obtain ⟨_, _, _, h, _⟩ := hR.at; exact h
    have hx8 : cnt x = 1 + cntL x.subs := cnt_eq x
    gi_wp2
    refine wpIn_loop (fun a' W' => ∃ (j : Nat) (G' : Nat → Prop) (ds : List Deferred) (u4 u14 u15 u16 u17 u18 u24 : Value),
      (j ≤ x.subs.length ∧ I (1 + cntL (x.subs.take j)) G' W' ∧ KeptAt (fun b => (S b ∧ b < w0.heap.size) ∨ b = t1) w0 W' ∧ Apart G' (fun b => (S b ∧ b < w0.heap.size) ∨ b = t1) ∧
        W'.heap[W.heap.size]? = some (.cells #[.func (.yield l) #[] #[]] 94 (0, 0)) ∧ ¬ G' W.heap.size ∧ Marks W' W'.heap.size ds ∧ MarksOut ds G' W.heap.size) ∧
      a' = { tmps := #[.func (.yield l) #[] #[], .pointer (some ⟨t1, 0, none⟩), .pointer (some ⟨W.heap.size, 0, none⟩), undef, u4, undef, .func (.yield l) #[] #[],
          .agg #[.int .u8 x.kind, .int .u64 (word x.set 0), .int .u64 (word x.set 1), .int .u64 (word x.set 2), .int .u64 (word x.set 3), .int .i64 x.min, .int .i64 x.max, .slice p x.subs.length cap],
          .bool true, .bool false, .pointer (some ⟨t1, 7, none⟩), .slice p x.subs.length cap, .int .i64 x.subs.length, .int .i64 j, u14, u15, u16, u17, u18, undef, undef, undef, undef, undef, u24], defers := ds })
      (fun a' _ => x.subs.length - (intOf (a'.tmps.getD 13 undef)).toNat) ?start ?round
    case start => exact ⟨0, G', [], _, _, _, _, _, _, _, ⟨Nat.zero_le _, by simpa [cntL] using hi, hKD, hGR', hB2', hGB, trivial, fun D h => by simp at h⟩, rfl⟩
    case round =>
      clear hi hKD hGR' hB2' hGB hsz' c0 c1 c2 c3 c4 c5 c6 c7 ho G' W' hB2 hbel
      rintro _ W' ⟨j, G', ds, u4, u14, u15, u16, u17, u18, u24, ⟨hj, hi, hKD, hGR', hB2', hGB, hmk, hmg⟩, rfl⟩
      by_cases hjl : j < x.subs.length
      · obtain ⟨y, hy⟩ := some_at hjl
        obtain ⟨p0, cap0, e0, _, _, _, hc⟩ := hR.at
        obtain ⟨rfl, rfl⟩ : p0 = p ∧ cap0 = cap := by cases e0; exact ⟨rfl, rfl⟩
        obtain ⟨b, off, rfl, hS, hbl, sy, hRy, hN⟩ := hc j y hy
        clear hc e0
        obtain ⟨py, capy, rfl⟩ := hRy.shape
        obtain ⟨c0, c1, c2, c3, c4, c5, c6, c7⟩ := hN.move (hKD b (.inl ⟨hS, hbl⟩))
        have HY := Lib.hid hy; clear hy
        have hcy : cnt y ≤ n := by have := cnt_at HY.out; omega
        gi_wp2_with (gi_at_call 107; refine (callsIn_wide.2 (nodes_any y _ _ _ _)).mono ?_; rintro e Wa ⟨rfl, hba, hca⟩)
        have hsa : W'.heap.size + 1 < Wa.heap.size := by have := (Array.getElem?_eq_some_iff.1 hca).1; rw [World.size_alloc] at this; exact this
        have hbW : Below W'.heap.size W' Wa := ((Below.refl _ W').alloc (Nat.le_refl _) _).trans (hba.mono (by rw [World.size_alloc]; omega))
        rw [World.size_alloc] at hca
        clear hba c0 c1 c2 c3 c4 c5 c6 c7
        have hWs : W.heap.size < W'.heap.size := (Array.getElem?_eq_some_iff.1 hB2').1
        have hw0 : w0.heap.size ≤ W'.heap.size := by omega
        have hRa : RepL Wa (fun b => S b ∧ b < w0.heap.size) y.subs (.slice py y.subs.length capy) := hRy.move fun b h1 h2 => ⟨(hbW.block b (by omega)).trans (hKD b (.inl ⟨h1, h2⟩)), h1, h2⟩
        have hpv : preV Wa y (.slice py y.subs.length capy) = preV w0 y (.slice py y.subs.length capy) := preV_congr (fun b h1 h2 => (hbW.block b (by omega)).trans (hKD b (.inl ⟨h1, h2⟩))) y _ hRy
        have hltG := hlt _ _ _ hi
        refine wpIn_range (gf := 133) (lb := #[.pointer (some ⟨W'.heap.size + 1, 0, none⟩)]) rfl (fun _ _ => by kernel_rfl) (ih y _ Wa _ _ hcy hca hRa) (Nat.le_refl _) (fun b hb => by rcases hb with hb | hb <;> omega) (fun _ _ => rfl) (fun _ => rfl)
          (fun k G3 W3 => I (1 + cntL (x.subs.take j) + k) G3 W3 ∧ KeptAt (fun b => (S b ∧ b < w0.heap.size) ∨ b = t1) w0 W3 ∧ Apart G3 (fun b => (S b ∧ b < w0.heap.size) ∨ b = t1) ∧
            W3.heap[W.heap.size]? = some (.cells #[.func (.yield l) #[] #[]] 94 (0, 0)) ∧ ¬ G3 W.heap.size ∧ Marks W3 Wa.heap.size ds ∧ MarksOut ds G3 W.heap.size ∧ Wa.heap.size ≤ W3.heap.size)
          (fun c G3 W3 => c = .ret ∧ X G3 W3 ∧ Marks W3 Wa.heap.size ds ∧ MarksOut ds G3 W.heap.size ∧ Wa.heap.size ≤ W3.heap.size)
          G' ?gG ?gI ?gX ?glt ?g0 ?ground ?gdone ?gstop
        case gG =>
          rintro b hb (⟨⟨h1, h2⟩, _⟩ | rfl)
          · exact hGR' b hb (.inl ⟨h1, h2⟩)
          · have := hltG _ hb; omega
        case gI =>
          rintro k G3 A C ⟨h1, h2, h3, h4, h5, h6, h7, h8⟩ hk
          exact ⟨hI _ G3 A C h1 ⟨hk.os, hk.tape, hk.output, hk.size, fun b hb hc => hk.same b hb (hc.imp (fun h => by omega) id)⟩,
            fun b hb => (hk.same b (by rcases hb with hb | hb <;> omega) (.inl (by rcases hb with hb | hb <;> omega))).trans (h2 b hb), h3, (hk.same _ (by omega) (.inl (by omega))).trans h4, h5,
            h6.move (Nat.le_refl _) (fun b hb _ => hk.same b (by omega) (.inl hb)), h7, Nat.le_trans h8 hk.size⟩
        case gX =>
          rintro c G3 A C ⟨rfl, h1, h6, h7, h8⟩ hk
          exact ⟨rfl, hX G3 A C h1 ⟨hk.os, hk.tape, hk.output, hk.size, fun b hb hc => hk.same b hb (hc.imp (fun h => by omega) id)⟩,
            h6.move (Nat.le_refl _) (fun b hb _ => hk.same b (by omega) (.inl hb)), h7, Nat.le_trans h8 hk.size⟩
        case glt => exact fun k G3 A h => hlt _ G3 A h.1
        case g0 =>
          exact ⟨hI _ G' W' Wa hi (Keeps.below hbW (by omega) (fun b _ h => h)), fun b hb => (hbW.block b (by rcases hb with hb | hb <;> omega)).trans (hKD b hb), hGR', (hbW.block _ hWs).trans hB2', hGB,
            hmk.move (by omega) (fun b hb _ => hbW.block b hb), hmg, Nat.le_refl _⟩
        case ground =>
          rintro l' k G3 W3 hl' hll hGl hk ⟨h1, h2, h3, h4, h5, h6, h7, h8⟩
          obtain ⟨q, hq⟩ : ∃ q, (preV Wa y (.slice py y.subs.length capy))[k]? = some q := ⟨_, List.getElem?_eq_getElem (by rw [preV_length]; exact hk)⟩
          have hvk : valsOf (preV Wa y (.slice py y.subs.length capy)) k = #[.agg (nodeC q.1 q.2)] := by unfold valsOf; rw [hq]
          have hvk' : valsOf (preV w0 x (.slice (some ⟨b, off, none⟩) x.subs.length cap0)) (1 + cntL (x.subs.take j) + k) = #[.agg (nodeC q.1 q.2)] := by
            have e1 := preVL_at w0 x.subs b off j y HY.out k hk
            have e2 : cellV w0 b (off + j * 8 + 7) = .slice py y.subs.length capy := by
              have := hN.2.2.2.2.2.2.2
              unfold cellV; rw [this]; rfl
            rw [e2, ← hpv, hq] at e1
            unfold valsOf
            rw [preV_eq, show 1 + cntL (x.subs.take j) + k = (cntL (x.subs.take j) + k) + 1 by omega, List.getElem?_cons_succ]
            simp only [headB, headO, e1]
          obtain ⟨pq, nq, cq, hq2⟩ : ∃ pq nq cq, q.2 = .slice pq nq cq := by
            obtain ⟨pq, cq, e⟩ := (preV_rep y _ hRa q (List.mem_of_getElem? hq)).shape
            exact ⟨_, _, _, e⟩
          obtain ⟨q, q2⟩ := q
          simp only at hq2
          subst hq2
          rw [hvk]
          simp only [nodeC] at hvk' ⊢
          gi_wp2
          refine ⟨(Below.refl _ _).alloc (Nat.le_refl _) _, fun W2 e1 e2 e3 e4 e5 => ?_⟩
          rw [World.size_alloc] at e4
          have hW2 : ∀ b, b < W3.heap.size → b ≠ l' → W2.heap[b]? = W3.heap[b]? := fun b hb hn => (e5 b hn).trans (Below.heap_alloc W3 _ b hb)
          obtain ⟨c0, c1, c2, c3, c4, c5, c6, c7⟩ := BoxN.of_row (x := q) ((e5 W3.heap.size (by omega)).trans (heap_alloc_new W3 _))
          have hk1 : Keeps W.heap.size G3 W3 W2 := ⟨e1, e2, e3, by omega, fun b hb hc => hW2 b hb (by rintro rfl; rcases hc with h | h; omega; exact hGl h)⟩
          have hB2W := (hW2 W.heap.size (by omega) (by omega)).trans h4
          have hB2c := cell_of_row W2 W.heap.size 0 _ _ _ hB2W
          have hi2 := hI _ G3 W3 W2 h1 hk1
          obtain ⟨fn', tmps', assign', body', hy', hR'⟩ := hY _ G3 W2 (by have := cntL_take_lt HY.out; omega) hi2
          rw [hvk'] at hy'
          have hR2 : RoundIn (WF.inRound l') 0 Try.prog l fn' tmps' assign' body' W2 _ := hR'
          clear hR' hvk' hvk hq
          gi_wp2
          refine hR2.mono ?_
          have keepK : ∀ {G4 : Nat → Prop} {W4 : World}, Own W2.heap.size G3 G4 W2 W4 → KeptAt (fun b => (S b ∧ b < w0.heap.size) ∨ b = t1) w0 W4 ∧ Apart G4 (fun b => (S b ∧ b < w0.heap.size) ∨ b = t1) ∧
              W4.heap[W.heap.size]? = some (.cells #[.func (.yield l) #[] #[]] 94 (0, 0)) ∧ ¬ G4 W.heap.size ∧ Marks W4 Wa.heap.size ds ∧ MarksOut ds G4 W.heap.size ∧ Wa.heap.size ≤ W4.heap.size := by
            intro G4 W4 ho
            have hsz4 := ho.size
            have hm7 : ∀ D, mark D ∈ ds → D < Wa.heap.size := h6.lt
            refine ⟨fun b hb => ?_, fun b hb hr => ?_, ?_, fun h => ?_, ?_, fun D hD => ?_, by omega⟩
            · have hb3 : b < W'.heap.size := by rcases hb with hb | hb <;> omega
              exact (ho.same b (by omega) (fun h => h3 b h hb)).trans ((hW2 b (by omega) (by omega)).trans (h2 b hb))
            · rcases ho.new b hb with h | h
              · exact h3 b h hr
              · rcases hr with hr | hr <;> omega
            · exact (ho.same _ (by omega) h5).trans hB2W
            · rcases ho.new _ h with h | h
              · exact h5 h
              · omega
            · exact h6.move (Nat.le_refl _) fun b hb hm => (ho.same b (by omega) (h7 b hm).1).trans (hW2 b (by omega) (by omega))
            · refine ⟨fun h => ?_, (h7 D hD).2⟩
              have := hm7 D hD
              rcases ho.new _ h with h | h
              · exact (h7 D hD).1 h
              · omega
          clear hy' c0 c1 c2 c3 c4 c5 c6 c7
          rintro e W4 (⟨rfl, G4, ho, hi4⟩ | ⟨rfl, G4, ho, hx4⟩)
          · obtain ⟨k1, k2, k3, k4, k5, k6, k7⟩ := keepK ho
            gi_wp2
            exact ⟨G4, ho.less (by omega), hi4, k1, k2, k3, k4, k5, k6, k7⟩
          · obtain ⟨k1, k2, k3, k4, k5, k6, k7⟩ := keepK ho
            gi_wp2
            exact ⟨G4, ho.less (by omega), rfl, hx4, k5, k6, k7⟩
        case gdone =>
          rintro D G3 W3 hD hD2 hDG ⟨h1, h2, h3, h4, h5, h6, h7, h8⟩ hk
          have hcn : 1 + cntL (x.subs.take j) + cnt y = 1 + cntL (x.subs.take (j + 1)) := by rw [take_succ_of HY.out, cntL_append]; simp [cntL]; omega
          gi_wp2
          refine ⟨⟨j + 1, G3, _ :: ds, _, _, _, _, _, _, _, ⟨by omega, by rw [← hcn]; exact h1, h2, h3, h4, h5, ⟨D, rfl, hD2, hk, h6.move hD (fun _ _ _ => rfl)⟩, fun D' hD' => ?_⟩, rfl⟩, by simp [intOf]; omega⟩
          simp only [List.mem_cons, mark, Deferred.mk.injEq, Target.collected.injEq, and_true] at hD'
          rcases hD' with rfl | hD'
          · exact ⟨hDG, by omega⟩
          · exact h7 D' hD'
        case gstop =>
          rintro D c G3 W3 hD hD2 hDG ⟨rfl, h1, h6, h7, h8⟩ hk
          gi_wp2
          refine leaves_marks (by simp) _ _ _ ⟨D, rfl, hD2, hk, h6.move hD (fun _ _ _ => rfl)⟩ ?_
          intro W'' e1 e2 e3 e4 e5
          refine ⟨_, results_none rfl _ _ _, ⟨_, rfl⟩, G3, .inr (hX G3 _ _ h1 ⟨e1, e2, e3, by omega, fun b hb hc => e5 b (fun hm => ?_)⟩)⟩
          simp only [List.mem_cons, mark, Deferred.mk.injEq, Target.collected.injEq, and_true] at hm
          rcases hm with rfl | hm
          · rcases hc with h | h
            · omega
            · exact hDG h
          · rcases hc with h | h
            · have := (h7 b hm).2; omega
            · exact (h7 b hm).1 h
      · obtain rfl : j = x.subs.length := by omega
        gi_wp2
        refine leaves_marks (by simp) _ _ _ hmk ?_
        intro W'' e1 e2 e3 e4 e5
        rw [List.take_length, ← hx8] at hi
        exact ⟨_, results_none rfl _ _ _, ⟨_, rfl⟩, G', .inl (hI _ G' _ _ hi ⟨e1, e2, e3, by omega, fun b hb hc => e5 b (fun hm => by rcases hc with h | h; have := (hmg b hm).2; omega; exact (hmg b hm).1 h)⟩)⟩
  · gi_wp2
    exact ⟨_, results_none rfl _ _ _, ⟨_, rfl⟩, G', .inr hx⟩

/-- A function that leaves with one mark, with one result in a slot. -/
theorem leave_one {fn : Func} {t : Tmp} {tmps : Array Value} {R : Ending → World → Prop} {n0 D : Nat} {W w : World} (hr : fn.results = #[.tmp t]) (hD : D < W.heap.size) (hn : n0 ≤ D) (hk : W.heap[D]? = some (.deferred (some []))) (hb : Below n0 w W)
    (h : ∀ W', Below n0 w W' → R (.returned (tmps.getD t undef)) W') : bodyPostM WF 0 Try.prog fn R .ret { tmps := tmps, defers := [mark D] } W := by
  refine leaves_marks (by simp) [mark D] W.heap.size W ⟨D, rfl, hD, hk, trivial⟩ ?_
  intro W' e1 e2 e3 e4 e5
  refine ⟨_, results_tmp hr _ _ _, h W' ⟨e1.trans hb.os, e2.trans hb.tape, e3.trans hb.output, by have := hb.size; omega, fun b hbl => (e5 b (fun hm => ?_)).trans (hb.block b hbl)⟩⟩
  simp only [List.mem_singleton, mark, Deferred.mk.injEq, Target.collected.injEq, and_true] at hm
  omega

theorem results_cell1 {P : Program} {fn : Func} {p : Tmp} {ty : TypeId} (h : fn.results = #[.cell p ty]) (tmps : Array Value) (w : World) (g : Nat) (v : Value) (hp : tmps.getD p undef = .pointer (some ⟨g, 0, none⟩)) (hc : w.cell? ⟨g, 0, none⟩ = some v)
    (ha : ∀ w, (isAgg ty).run P w = .ok false w) : (results fn tmps).run P w = .ok v w := by
  have hp' : tmps[p]?.getD undef = .pointer (some ⟨g, 0, none⟩) := by simpa using hp
  simp [results, h, hp', asAddr, loadVar, Sem.run_bind, ha]
  simp [go_sem, hc]

/-- A function that leaves with one mark, with one result in a box. -/
theorem leave_one_cell {fn : Func} {t : Tmp} {ty : TypeId} {tmps : Array Value} {R : Ending → World → Prop} {n0 D c0 : Nat} {W w : World} {v : Value} {e : TypeId} (hr : fn.results = #[.cell t ty]) (hD : D < W.heap.size) (hn : n0 ≤ D) (hk : W.heap[D]? = some (.deferred (some []))) (hb : Below n0 w W)
    (hDc : D ≠ c0) (hc : W.heap[c0]? = some (.cells #[v] e (0, 0))) (hp : tmps.getD t undef = .pointer (some ⟨c0, 0, none⟩)) (ha : ∀ w, (isAgg ty).run Try.prog w = .ok false w)
    (h : ∀ W', Below n0 w W' → R (.returned v) W') : bodyPostM WF 0 Try.prog fn R .ret { tmps := tmps, defers := [mark D] } W := by
  refine leaves_marks (by simp) [mark D] W.heap.size W ⟨D, rfl, hD, hk, trivial⟩ ?_
  intro W' e1 e2 e3 e4 e5
  have hc' : W'.heap[c0]? = some (.cells #[v] e (0, 0)) := (e5 c0 (fun hm => by
    simp only [List.mem_singleton, mark, Deferred.mk.injEq, Target.collected.injEq, and_true] at hm
    exact hDc hm.symm)).trans hc
  refine ⟨_, results_cell1 hr _ _ c0 v hp (by rw [cell_of_row _ _ 0 _ _ _ hc']; rfl) ha, h W' ⟨e1.trans hb.os, e2.trans hb.tape, e3.trans hb.output, by have := hb.size; omega, fun b hbl => (e5 b (fun hm => ?_)).trans (hb.block b hbl)⟩⟩
  simp only [List.mem_singleton, mark, Deferred.mk.injEq, Target.collected.injEq, and_true] at hm
  omega

/-- A loop over the nodes of a tree that owns one box: v k is what the box holds behind k rounds. -/
theorem range_nodes {g : Operand} {pt : Tmp} {assign body : Code} {Q : Exit → Act → World → Prop} {a : Act} {w Wa : World} {S : Nat → Prop} {x : Node} {sv : Value} {t1 c0 n0 : Nat} {t : TypeId} (J : Nat → Prop) (v : Nat → Value) (X : Code → Value → Prop)
    (hg : a.eval g = .func (.func 133) #[] #[.pointer (some ⟨t1, 0, none⟩)]) 
    (ht : Wa.heap[t1]? = some (.cells (nodeC x sv) 41 (0, 0))) (hR : RepL Wa S x.subs sv) (hS : ∀ b, S b → b < n0) (h1 : n0 ≤ t1) (h2 : n0 ≤ c0) (h3 : c0 ≠ t1) (hn : n0 ≤ w.heap.size)
    (hc : Wa.heap[c0]? = some (.cells #[v 0] t (0, 0))) (hb : Below n0 w Wa) (hJ : J 0)
    (hround : ∀ (l k : Nat) (G : Nat → Prop) (W : World) (q : Node × Value), n0 ≤ l → l < W.heap.size → ¬ G l → k < cnt x → J k → (pre x)[k]? = some q.1 → RepL W (fun b => b < n0) q.1.subs q.2 → OneBox n0 w c0 t (v k) G W →
      assign.wpIn (WF.inRound l) 0 Try.prog (Exit.then (mid Try.prog l body (fun G W => J (k + 1) ∧ OneBox n0 w c0 t (v (k + 1)) G W) (fun c G W => ∃ u, X c u ∧ OneBox n0 w c0 t u G W) G W) (fun _ _ _ => False)) { tmps := a.tmps.setIfInBounds pt (.agg (nodeC q.1 q.2)), defers := [] } W)
    (hdone : ∀ (D : Nat) (W : World), n0 ≤ D → D < W.heap.size → D ≠ c0 → J (cnt x) → W.heap[c0]? = some (.cells #[v (cnt x)] t (0, 0)) → Below n0 w W → W.heap[D]? = some (.deferred (some [])) → Q .normal { a with defers := mark D :: a.defers } W)
    (hstop : ∀ (D : Nat) (c : Code) (u : Value) (W : World), n0 ≤ D → D < W.heap.size → D ≠ c0 → X c u → W.heap[c0]? = some (.cells #[u] t (0, 0)) → Below n0 w W → W.heap[D]? = some (.deferred (some [])) → c.wpIn WF 0 Try.prog Q { a with defers := mark D :: a.defers } W) :
    (Code.rangeFunc g #[pt] assign body).wpIn WF 0 Try.prog Q a Wa := by
  have ht1 := (Array.getElem?_eq_some_iff.1 ht).1
  have hn2 : n0 ≤ Wa.heap.size := Nat.le_trans hn hb.size
  refine wpIn_range (gf := 133) (lb := #[.pointer (some ⟨t1, 0, none⟩)]) hg (fun _ _ => by kernel_rfl) (nodes_seq (cnt x) x sv Wa (fun b => S b ∧ b < n0) t1 (Nat.le_refl _) ht (hR.mono fun b h _ => ⟨h, hS b h⟩)) (Nat.le_refl _) (fun b hb => by rcases hb with hb | hb <;> omega) (fun _ _ => rfl) (fun _ => rfl)
    (fun k G W => J k ∧ OneBox n0 w c0 t (v k) G W) (fun c G W => ∃ u, X c u ∧ OneBox n0 w c0 t u G W) (fun b => b = c0) ?gG (fun k G A C h hk => ⟨h.1, OneBox.stable hn2 hn G A C h.2 hk⟩) ?gX (fun k G A h => h.2.lt) ⟨hJ, rfl, hc, hb⟩ ?ground ?gdone ?gstop
  case gG =>
    rintro b rfl (⟨⟨_, h⟩, _⟩ | h)
    · omega
    · exact h3 h
  case gX =>
    rintro c G A C ⟨u, hu, ho⟩ hk
    exact ⟨u, hu, OneBox.stable hn2 hn G A C ho hk⟩
  case ground =>
    rintro l k G W hl hl2 hGl hk ⟨hj, ho⟩
    obtain ⟨q, hq⟩ : ∃ q, (preV Wa x sv)[k]? = some q := ⟨_, List.getElem?_eq_getElem (by rw [preV_length]; exact hk)⟩
    have hvk : valsOf (preV Wa x sv) k = #[.agg (nodeC q.1 q.2)] := by unfold valsOf; rw [hq]
    rw [hvk]
    have hz : ((#[pt] : Array Tmp).zip #[Value.agg (nodeC q.1 q.2)]).foldl (fun t (p, v) => t.setIfInBounds p v) a.tmps = a.tmps.setIfInBounds pt (.agg (nodeC q.1 q.2)) := by simp
    rw [hz]
    refine hround l k G W q (by omega) hl2 hGl hk hj ?_ ?_ ho
    · rw [← preV_fst Wa x sv, List.getElem?_map, hq]; rfl
    · exact (preV_rep x sv hR q (List.mem_of_getElem? hq)).move fun b h _ => ⟨(ho.2.2.block b (hS b h)).trans (hb.block b (hS b h)).symm, hS b h⟩
  case gdone =>
    rintro D G W hD hD2 hDG ⟨hj, rfl, h4, h5⟩ hk
    exact hdone D W (by omega) hD2 (fun h => hDG h) hj h4 h5 hk
  case gstop =>
    rintro D c G W hD hD2 hDG ⟨u, hu, rfl, h4, h5⟩ hk
    exact hstop D c u W (by omega) hD2 (fun h => hDG h) hu h4 h5 hk

end Go.Proofs.Ytlagablcopmhkaa
/- Walking with descriptions: values by what they hold, memory of a call's own as a list of chunks; how both stand in worlds. -/
namespace Go.Proofs.Ytlagablcopmhkaa
open Go.RowKit

/-- what a slot holds -/
inductive V where
  | d (x : D)
  | e (ds : List D) (o : Nat)
  | a (cs : List V)
  | t (cs : List V)
  | f (fn : Fn) (first cap : List V)
  | j
/-- a value as it is -/
abbrev V.v (x : Value) : V := .d (.v x)
abbrev V.i (n : Int) : V := .d (.v (.int .i64 n))
abbrev V.b (c : Bool) : V := .d (.v (.bool c))
abbrev V.ptr (b o : Nat) : V := .d (.v (.pointer (some ⟨b, o, none⟩)))
abbrev V.nil : V := .d (.v (.slice none 0 0))

inductive R (w : World) (S : Nat → Prop) : V → Value → Prop
  | d {x : D} {v : Value} (h : Rep w S x v) : R w S (.d x) v
  | e {ds : List D} {o b off : Nat} (us : List Value) (hu : us.length = ds.length) (ho : o < ds.length) (hS : S b) (hc : ∀ (j : Nat) (u : Value), us[j]? = some u → w.cell? ⟨b, off + j, none⟩ = some u)
      (hr : ∀ (j : Nat) (d : D) (u : Value), ds[j]? = some d → us[j]? = some u → Rep w S d u) : R w S (.e ds o) (.pointer (some ⟨b, off + o, none⟩))
  | a {cs : List V} (us : List Value) (hl : us.length = cs.length) (hr : ∀ (j : Nat) (c : V) (u : Value), cs[j]? = some c → us[j]? = some u → R w S c u) : R w S (.a cs) (.agg us.toArray)
  | t {cs : List V} (us : List Value) (hl : us.length = cs.length) (hr : ∀ (j : Nat) (c : V) (u : Value), cs[j]? = some c → us[j]? = some u → R w S c u) : R w S (.t cs) (.tuple us.toArray)
  | f {fn : Fn} {first cap : List V} (us vs : List Value) (hl : us.length = first.length) (hr : ∀ (j : Nat) (c : V) (u : Value), first[j]? = some c → us[j]? = some u → R w S c u)
      (hl2 : vs.length = cap.length) (hr2 : ∀ (j : Nat) (c : V) (u : Value), cap[j]? = some c → vs[j]? = some u → R w S c u) : R w S (.f fn first cap) (.func fn us.toArray vs.toArray)
  | j (v : Value) : R w S .j v

/-- what lies in S stands, and S grows -/
def Kept (w : World) (S : Nat → Prop) (w' : World) (S' : Nat → Prop) : Prop := ∀ b, S b → b < w.heap.size → w'.heap[b]? = w.heap[b]? ∧ S' b

theorem R.move {w w' : World} {S S' : Nat → Prop} {c : V} {v : Value} (h : R w S c v) (hw : Kept w S w' S') : R w' S' c v := by
  induction h with
  | d h => exact .d (h.move hw)
  | e us hu ho hS hc hr =>
    rename_i ds o b off
    have hb : b < w.heap.size := by
      obtain ⟨u, hu0⟩ : ∃ u, us[o]? = some u := ⟨us[o], by simp [hu, ho]⟩
      exact World.block_lt_of_cell? w _ (hc o u hu0)
    obtain ⟨h1, h2⟩ := hw b hS hb
    exact .e us hu ho h2 (fun j u hj => (World.cell?_of_block (w := w) h1).trans (hc j u hj)) (fun j d u h1 h2 => (hr j d u h1 h2).move hw)
  | a us hl _ ih => exact .a us hl ih
  | t us hl _ ih => exact .t us hl ih
  | f us vs hl _ hl2 _ ih ih2 => exact .f us vs hl ih hl2 ih2
  | j v => exact .j v

/-- a list of slots -/
def RL (w : World) (S : Nat → Prop) (cs : List V) (us : List Value) : Prop := us.length = cs.length ∧ ∀ (j : Nat) (c : V) (u : Value), cs[j]? = some c → us[j]? = some u → R w S c u
theorem RL.move {w w' : World} {S S' : Nat → Prop} {cs : List V} {us : List Value} (h : RL w S cs us) (hw : Kept w S w' S') : RL w' S' cs us := ⟨h.1, fun j c u h1 h2 => (h.2 j c u h1 h2).move hw⟩
theorem RL.nil (w : World) (S : Nat → Prop) : RL w S [] [] := ⟨rfl, by simp⟩
theorem RL.cons {w : World} {S : Nat → Prop} {c : V} {u : Value} {cs : List V} {us : List Value} (h : R w S c u) (hs : RL w S cs us) : RL w S (c :: cs) (u :: us) := by
  refine ⟨by simp [hs.1], fun j c' u' h1 h2 => ?_⟩
  cases j with
  | zero => simp at h1 h2; subst h1 h2; exact h
  | succ j => exact hs.2 j c' u' (by simpa using h1) (by simpa using h2)
theorem RL.head {w : World} {S : Nat → Prop} {c : V} {u : Value} {cs : List V} {us : List Value} (h : RL w S (c :: cs) (u :: us)) : R w S c u := h.2 0 c u rfl rfl
theorem RL.tail {w : World} {S : Nat → Prop} {c : V} {u : Value} {cs : List V} {us : List Value} (h : RL w S (c :: cs) (u :: us)) : RL w S cs us := ⟨by have := h.1; simpa using this, fun j c' u' h1 h2 => h.2 (j + 1) c' u' (by simpa using h1) (by simpa using h2)⟩
theorem RL.unnil {w : World} {S : Nat → Prop} {us : List Value} (h : RL w S [] us) : us = [] := List.length_eq_zero_iff.1 h.1
theorem RL.uncons {w : World} {S : Nat → Prop} {c : V} {cs : List V} {us : List Value} (h : RL w S (c :: cs) us) : ∃ u us', us = u :: us' ∧ R w S c u ∧ RL w S cs us' := by
  cases us with
  | nil => have := h.1; simp at this
  | cons u us => exact ⟨u, us, rfl, h.head, h.tail⟩
theorem RL.append {w : World} {S : Nat → Prop} {cs cs' : List V} {us us' : List Value} (h : RL w S cs us) (h' : RL w S cs' us') : RL w S (cs ++ cs') (us ++ us') := by
  induction cs generalizing us with
  | nil => rw [h.unnil]; exact h'
  | cons c cs ih => obtain ⟨u, us, rfl, h1, h2⟩ := h.uncons; exact .cons h1 (ih h2)
theorem RL.at {w : World} {S : Nat → Prop} {cs : List V} {us : List Value} (h : RL w S cs us) {j : Nat} {c : V} (hc : cs[j]? = some c) : ∃ u, us[j]? = some u ∧ R w S c u := by
  have hj := (List.getElem?_eq_some_iff.1 hc).1
  obtain ⟨u, hu⟩ : ∃ u, us[j]? = some u := ⟨us[j]'(by rw [h.1]; exact hj), by simp⟩
  exact ⟨u, hu, h.2 j c u hc hu⟩
theorem RL.set {w : World} {S : Nat → Prop} {cs : List V} {us : List Value} (h : RL w S cs us) (j : Nat) {c : V} {u : Value} (hc : R w S c u) : RL w S (cs.set j c) (us.set j u) := by
  refine ⟨by simp [h.1], fun k c' u' h1 h2 => ?_⟩
  rw [List.getElem?_set] at h1 h2
  split at h1
  · rename_i e
    subst e
    rw [if_pos rfl] at h2
    rw [h.1] at h2
    split at h1
    · rename_i hj; rw [if_pos hj] at h2; cases h1; cases h2; exact hc
    · cases h1
  · rename_i e
    rw [if_neg e] at h2
    exact h.2 k c' u' h1 h2
theorem RL.take {w : World} {S : Nat → Prop} {cs : List V} {us : List Value} (h : RL w S cs us) (n : Nat) : RL w S (cs.take n) (us.take n) := by
  refine ⟨by simp [h.1], fun j c u h1 h2 => ?_⟩
  rw [List.getElem?_take] at h1 h2
  split at h1
  · rename_i hj; rw [if_pos hj] at h2; exact h.2 j c u h1 h2
  · cases h1
theorem RL.drop {w : World} {S : Nat → Prop} {cs : List V} {us : List Value} (h : RL w S cs us) (n : Nat) : RL w S (cs.drop n) (us.drop n) :=
  ⟨by simp [h.1], fun j c u h1 h2 => h.2 (n + j) c u (by simpa using h1) (by simpa using h2)⟩

/-- memory of one's own: a variable's block, or a row that a slice owns -/
inductive Ch where
  | emp
  | box (b : Nat) (ty : TypeId) (cs : List V)
  | row (v : Value) (e : TypeId) (k n : Nat) (cs : List V)
  | reg (A : Nat → Prop) (Φ : World → Prop)
def Ch.owns : Ch → Nat → Prop
  | .emp, _ => False
  | .box b _ _, b' => b = b'
  | .row v _ _ _ _, b' => v.ownBlock = some b'
  | .reg A _, b' => A b'
def Ch.ok (w : World) (S : Nat → Prop) : Ch → Prop
  | .emp => True
  | .box b ty cs => ∃ us : List Value, w.heap[b]? = some (.cells us.toArray ty (0, 0)) ∧ RL w S cs us ∧ ∀ u ∈ us, u.oneCell' = true
  | .row v e k n cs => ∃ us : List Value, w.ownsRow 0 e k v n us ∧ RL w S cs us ∧ (∀ u ∈ us, u.oneCell' = true) ∧ n ≤ 140737488355328
  | .reg A Φ => Φ w ∧ (∀ b, A b → b < w.heap.size) ∧ ∀ w1 w2 : World, (∀ b, A b → w2.heap[b]? = w1.heap[b]?) → Φ w1 → Φ w2

theorem Ch.ok.lt {w : World} {S : Nat → Prop} {c : Ch} (h : c.ok w S) {b : Nat} (hb : c.owns b) : b < w.heap.size := by
  cases c with
  | emp => exact hb.elim
  | box b' ty cs => obtain ⟨us, h1, _⟩ := h; cases hb; exact (Array.getElem?_eq_some_iff.1 h1).1
  | row v e k n cs => obtain ⟨us, h1, _⟩ := h; exact (h1.lt b hb).2
  | reg A Φ => exact h.2.1 b hb
theorem lt_of_same {w w' : World} {b : Nat} (h : w'.heap[b]? = w.heap[b]?) (hb : b < w.heap.size) : b < w'.heap.size := by
  rw [Array.getElem?_eq_getElem hb] at h
  exact (Array.getElem?_eq_some_iff.1 h).1
theorem Ch.ok.move {w w' : World} {S S' : Nat → Prop} {c : Ch} (h : c.ok w S) (hb : ∀ b, c.owns b → w'.heap[b]? = w.heap[b]?) (hw : Kept w S w' S') : c.ok w' S' := by
  cases c with
  | emp => trivial
  | box b ty cs => obtain ⟨us, h1, h2, h3⟩ := h; exact ⟨us, (hb b rfl).trans h1, h2.move hw, h3⟩
  | row v e k n cs =>
    obtain ⟨us, h1, h2, h3, h4⟩ := h
    refine ⟨us, ⟨h1.1, ?_⟩, h2.move hw, h3, h4⟩
    rcases h1.2 with hn | ⟨g, cap, cur, rfl, hbg, hg, rest⟩
    · exact .inl hn
    · exact .inr ⟨g, cap, cur, rfl, hbg, (hb g rfl).trans hg, rest⟩
  | reg A Φ => exact ⟨h.2.2 w w' (fun b hA => hb b hA) h.1, fun b hA => lt_of_same (hb b hA) (h.2.1 b hA), h.2.2⟩

def inL (L : List Ch) (b : Nat) : Prop := ∃ c ∈ L, c.owns b
/-- chunks lie apart -/
def apart : Ch → Ch → Prop := fun c c' => ∀ b, c.owns b → ¬ c'.owns b
theorem apart_symm {c c' : Ch} (h : apart c c') : apart c' c := fun b h1 h2 => h b h2 h1
structure Hp (w : World) (S : Nat → Prop) (L : List Ch) : Prop where
  ok : ∀ c ∈ L, c.ok w S
  ap : L.Pairwise apart
  out : ∀ b, inL L b → ¬ S b
  lt : ∀ b, S b → b < w.heap.size
theorem Hp.blt {w : World} {S : Nat → Prop} {L : List Ch} (h : Hp w S L) {b : Nat} (hb : inL L b) : b < w.heap.size := by
  obtain ⟨c, hc, hb⟩ := hb; exact (h.ok c hc).lt hb
theorem Hp.perm {w : World} {S : Nat → Prop} {L L' : List Ch} (h : Hp w S L) (hp : L.Perm L') : Hp w S L' :=
  ⟨fun c hc => h.ok c (hp.mem_iff.2 hc), (hp.pairwise_iff fun hx => apart_symm hx).1 h.ap, fun b ⟨c, hc, hb⟩ => h.out b ⟨c, hp.mem_iff.2 hc, hb⟩, h.lt⟩
theorem Hp.left {w : World} {S : Nat → Prop} {L L' : List Ch} (h : Hp w S (L ++ L')) : Hp w S L :=
  ⟨fun c hc => h.ok c (by simp [hc]), (List.pairwise_append.1 h.ap).1, fun b ⟨c, hc, hb⟩ => h.out b ⟨c, by simp [hc], hb⟩, h.lt⟩

/-- from one world to a later one: only what the chunks own has changed -/
structure Fr (w : World) (S : Nat → Prop) (L : List Ch) (w' : World) (S' : Nat → Prop) (L' : List Ch) : Prop where
  os : w'.os = w.os
  tape : w'.tape = w.tape
  output : w'.output = w.output
  size : w.heap.size ≤ w'.heap.size
  same : ∀ b, b < w.heap.size → ¬ inL L b → w'.heap[b]? = w.heap[b]?
  SS : ∀ b, S b → S' b
  Sn : ∀ b, S' b → b < w.heap.size → S b ∨ inL L b
  Ln : ∀ b, inL L' b → b < w.heap.size → inL L b
theorem Fr.refl (w : World) (S : Nat → Prop) (L : List Ch) : Fr w S L w S L := ⟨rfl, rfl, rfl, Nat.le_refl _, fun _ _ _ => rfl, fun _ h => h, fun _ h _ => .inl h, fun _ h _ => h⟩
theorem Fr.trans {w w1 w2 : World} {S S1 S2 : Nat → Prop} {L L1 L2 : List Ch} (h : Fr w S L w1 S1 L1) (k : Fr w1 S1 L1 w2 S2 L2) : Fr w S L w2 S2 L2 where
  os := k.os.trans h.os
  tape := k.tape.trans h.tape
  output := k.output.trans h.output
  size := Nat.le_trans h.size k.size
  same b hb hn := (k.same b (Nat.lt_of_lt_of_le hb h.size) fun hi => hn (h.Ln b hi hb)).trans (h.same b hb hn)
  SS b hb := k.SS b (h.SS b hb)
  Sn b hb hlt := by
    rcases k.Sn b hb (Nat.lt_of_lt_of_le hlt h.size) with h1 | h1
    · exact h.Sn b h1 hlt
    · exact .inr (h.Ln b h1 hlt)
  Ln b hb hlt := h.Ln b (k.Ln b hb (Nat.lt_of_lt_of_le hlt h.size)) hlt
theorem Fr.kept {w w' : World} {S S' : Nat → Prop} {L L' : List Ch} (h : Fr w S L w' S' L') (hp : Hp w S L) : Kept w S w' S' :=
  fun b hb hlt => ⟨h.same b hlt fun hi => hp.out b hi hb, h.SS b hb⟩
theorem Fr.perm {w w' : World} {S S' : Nat → Prop} {L L' K K' : List Ch} (h : Fr w S L w' S' L') (hp : L.Perm K) (hp' : L'.Perm K') : Fr w S K w' S' K' := by
  have e : ∀ b, inL K b ↔ inL L b := fun b => ⟨fun ⟨c, hc, hb⟩ => ⟨c, hp.mem_iff.2 hc, hb⟩, fun ⟨c, hc, hb⟩ => ⟨c, hp.mem_iff.1 hc, hb⟩⟩
  have e' : ∀ b, inL K' b ↔ inL L' b := fun b => ⟨fun ⟨c, hc, hb⟩ => ⟨c, hp'.mem_iff.2 hc, hb⟩, fun ⟨c, hc, hb⟩ => ⟨c, hp'.mem_iff.1 hc, hb⟩⟩
  exact ⟨h.os, h.tape, h.output, h.size, fun b hb hn => h.same b hb fun hi => hn ((e b).2 hi), h.SS, fun b h1 h2 => (h.Sn b h1 h2).imp id (e b).2, fun b h1 h2 => (e b).2 (h.Ln b ((e' b).1 h1) h2)⟩

theorem inL_append {L L' : List Ch} {b : Nat} : inL (L ++ L') b ↔ inL L b ∨ inL L' b := by
  unfold inL
  constructor
  · rintro ⟨c, hc, hb⟩
    rcases List.mem_append.1 hc with h | h
    · exact .inl ⟨c, h, hb⟩
    · exact .inr ⟨c, h, hb⟩
  · rintro (⟨c, hc, hb⟩ | ⟨c, hc, hb⟩)
    · exact ⟨c, by simp [hc], hb⟩
    · exact ⟨c, by simp [hc], hb⟩

/-- what stands beside stands -/
theorem Hp.frame {w w' : World} {S S' : Nat → Prop} {L L' F : List Ch} (h : Hp w S (L ++ F)) (h' : Hp w' S' L') (hf : Fr w S L w' S' L') : Hp w' S' (L' ++ F) ∧ Fr w S (L ++ F) w' S' (L' ++ F) := by
  have hap := List.pairwise_append.1 h.ap
  have hFL : ∀ b, inL F b → ¬ inL L b := fun b ⟨c, hc, hb⟩ ⟨c', hc', hb'⟩ => hap.2.2 c' hc' c hc b hb' hb
  have hFlt : ∀ b, inL F b → b < w.heap.size := fun b hb => h.blt (inL_append.2 (.inr hb))
  have hk := hf.kept h.left
  refine ⟨⟨fun c hc => ?_, List.pairwise_append.2 ⟨h'.ap, hap.2.1, fun c hc c' hc' b hb hb' => ?_⟩, fun b hb hS => ?_, h'.lt⟩, ⟨hf.os, hf.tape, hf.output, hf.size, fun b hb hn => hf.same b hb fun hi => hn (inL_append.2 (.inl hi)), hf.SS, fun b h1 h2 => (hf.Sn b h1 h2).imp id fun hi => inL_append.2 (.inl hi), fun b hb hlt => ?_⟩⟩
  · rcases List.mem_append.1 hc with hc | hc
    · exact h'.ok c hc
    · exact (h.ok c (by simp [hc])).move (fun b hb => hf.same b (hFlt b ⟨c, hc, hb⟩) (hFL b ⟨c, hc, hb⟩)) hk
  · have hbF : inL F b := ⟨c', hc', hb'⟩
    exact hFL b hbF (hf.Ln b ⟨c, hc, hb⟩ (hFlt b hbF))
  · rcases inL_append.1 hb with hb | hb
    · exact h'.out b hb hS
    · rcases hf.Sn b hS (hFlt b hb) with h1 | h1
      · exact h.out b (inL_append.2 (.inr hb)) h1
      · exact hFL b hb h1
  · rcases inL_append.1 hb with hb | hb
    · exact inL_append.2 (.inl (hf.Ln b hb hlt))
    · exact inL_append.2 (.inr hb)
end Go.Proofs.Ytlagablcopmhkaa
/- Walking with descriptions: one operation. -/
namespace Go.Proofs.Ytlagablcopmhkaa
open Go.RowKit
variable {P : Program}

/-- slots by their numbers -/
abbrev Sl := List (Nat × V)
def look : Sl → Nat → V
  | [], _ => .j
  | (d, c) :: r, t => bif Nat.beq d t then c else look r t
def put (sl : Sl) : Option Tmp → V → Sl
  | some d, c => (d, c) :: sl
  | none, _ => sl
def ev (sl : Sl) : Operand → V
  | .tmp t => look sl t
  | .const v => .v v
  | .func f => .f (.func f) [] []
  | .global _ => .j

/-- the marks of loops that have ended -/
def MarkS (w : World) (S : Nat → Prop) (L : List Ch) (ds : List Deferred) : Prop := ∃ U, Marks w U ds ∧ U ≤ w.heap.size ∧ ∀ D, mark D ∈ ds → ¬ S D ∧ ¬ inL L D
theorem MarkS.nil (w : World) (S : Nat → Prop) (L : List Ch) : MarkS w S L [] := ⟨0, trivial, Nat.zero_le _, fun _ h => by cases h⟩
theorem MarkS.sub {w : World} {S : Nat → Prop} {L L' : List Ch} {ds : List Deferred} (h : MarkS w S L ds) (hs : ∀ b, inL L' b → inL L b) : MarkS w S L' ds :=
  let ⟨U, h1, h2, h3⟩ := h; ⟨U, h1, h2, fun D hm => ⟨(h3 D hm).1, fun hL => (h3 D hm).2 (hs D hL)⟩⟩
theorem MarkS.move {w w' : World} {S S' : Nat → Prop} {L L' : List Ch} {ds : List Deferred} (h : MarkS w S L ds) (hf : Fr w S L w' S' L') : MarkS w' S' L' ds := by
  obtain ⟨U, h1, h2, h3⟩ := h
  refine ⟨U, h1.move (Nat.le_refl _) fun b hb hm => hf.same b (by omega) (h3 b hm).2, Nat.le_trans h2 hf.size, fun D hm => ?_⟩
  have hD := h1.lt D hm
  exact ⟨fun hS => (hf.Sn D hS (by omega)).elim (h3 D hm).1 (h3 D hm).2, fun hL => (h3 D hm).2 (hf.Ln D hL (by omega))⟩
structure St (n : Nat) (w : World) (S : Nat → Prop) (sl : Sl) (L : List Ch) (a : Act) : Prop where
  hp : Hp w S L
  size : a.tmps.size = n
  sl : ∀ t, R w S (look sl t) (a.tmps.getD t undef)
  df : MarkS w S L a.defers

theorem R.v {w : World} {S : Nat → Prop} (x : Value) : R w S (.v x) x := .d (.v x)
theorem R.unv {w : World} {S : Nat → Prop} {x v : Value} (h : R w S (.v x) v) : v = x := by cases h with | d h => cases h; rfl
theorem St.ev {n : Nat} {w : World} {S : Nat → Prop} {sl : Sl} {L : List Ch} {a : Act} (h : St n w S sl L a) (x : Operand) : R w S (ev sl x) (a.eval x) := by
  cases x with
  | tmp t => exact h.sl t
  | const v => exact .v v
  | func f => exact .f (first := []) (cap := []) [] [] rfl (by simp) rfl (by simp)
  | global g => exact .j _
theorem St.evv {n : Nat} {w : World} {S : Nat → Prop} {sl : Sl} {L : List Ch} {a : Act} (h : St n w S sl L a) {x : Operand} {v : Value} (hx : Go.Proofs.Ytlagablcopmhkaa.ev sl x = .v v) : a.eval x = v := by
  have := h.ev x; rw [hx] at this; exact this.unv

def dstOk (n : Nat) : Option Tmp → Bool
  | some d => Nat.blt d n
  | none => true
theorem St.put {n : Nat} {w w' : World} {S S' : Nat → Prop} {sl : Sl} {L L' : List Ch} {a : Act} (h : St n w S sl L a) {dst : Option Tmp} (hd : dstOk n dst = true) {c : V} {v : Value} (hf : Fr w S L w' S' L') (hp : Hp w' S' L') (hc : R w' S' c v) :
    St n w' S' (put sl dst c) L' (a.put dst v) := by
  have hk := hf.kept h.hp
  cases dst with
  | none => exact ⟨hp, h.size, fun t => (h.sl t).move hk, h.df.move hf⟩
  | some d =>
    refine ⟨hp, by simp [Act.put, h.size], fun t => ?_, h.df.move hf⟩
    have hdn : d < n := by simpa [dstOk] using hd
    show R w' S' (bif Nat.beq d t then c else look sl t) _
    by_cases e : d = t
    · subst e
      have : (a.put (some d) v).tmps.getD d undef = v := by simp [Act.put, h.size, hdn]
      rw [this]; simpa using hc
    · have h1 : Nat.beq d t = false := by cases hb : Nat.beq d t with | false => rfl | true => exact absurd (Nat.eq_of_beq_eq_true hb) e
      have h2 : (a.put (some d) v).tmps.getD t undef = a.tmps.getD t undef := by simp [Act.put, Array.getElem?_setIfInBounds_ne e]
      rw [h1, h2]; exact (h.sl t).move hk

/-- one operation -/
def AOp (P : Program) (n : Nat) (o : Oper) (sl : Sl) (L : List Ch) (K : Sl → List Ch → Prop) : Prop :=
  ∀ (w : World) (S : Nat → Prop) (a : Act), St n w S sl L a → ∀ (nx : Act → World → Prop) (Q : Exit → Act → World → Prop),
    (∀ (sl' : Sl) (L' : List Ch) (S' : Nat → Prop) (a' : Act) (w' : World), K sl' L' → St n w' S' sl' L' a' → Fr w S L w' S' L' → (∃ v, a' = a.put o.dst v) → nx a' w') → o.wp P a w nx Q

/-- the fence of a function's body, or of a round of a loop -/
abbrev fen (ro : Option Nat) : Fence := { Fence.wide with round := ro }
theorem AOp.wpIn {n : Nat} {o : Oper} {sl : Sl} {L : List Ch} {K : Sl → List Ch → Prop} (h : AOp P n o sl L K) (ro : Option Nat) {w : World} {S : Nat → Prop} {a : Act} (hs : St n w S sl L a) (nx : Act → World → Prop) (Q : Exit → Act → World → Prop)
    (hnx : ∀ (sl' : Sl) (L' : List Ch) (S' : Nat → Prop) (a' : Act) (w' : World), K sl' L' → St n w' S' sl' L' a' → Fr w S L w' S' L' → (∃ v, a' = a.put o.dst v) → nx a' w') : o.wpIn (fen ro) 0 P a w nx Q := by
  have hnd : ∀ c, o.op ≠ .defer c := fun c hc => by
    have h1 := h w S a hs (fun a' _ => ∃ v, a' = a.put o.dst v) (fun _ _ _ => False) fun _ _ _ _ _ _ _ _ hv => hv
    unfold Oper.wp at h1
    have h2 : (execOp a.eval o).run P w = ((resolve a.eval c o.type).run P w).andThen fun d w' => .ok (.defer d) w' := by simp [execOp, hc]
    rw [h2] at h1
    cases hr : (resolve a.eval c o.type).run P w with
    | ok d w' =>
      rw [hr] at h1
      obtain ⟨v, hv⟩ : ∃ v, ({ a with defers := d :: a.defers } : Act).put o.dst undef = a.put o.dst v := h1
      have h3 := congrArg Act.defers hv
      cases hd : o.dst <;> rw [hd] at h3 <;> simp [Act.put] at h3
    | halt x w' => rw [hr] at h1; cases x <;> exact h1
  have h1 := h w S a hs nx Q hnx
  refine ⟨fun _ _ => trivial, ?_⟩
  rw [Oper.semAt_eq _ _ _ hnd]
  unfold Oper.wp at h1
  generalize (execOp a.eval o).run P w = r at h1
  cases r with
  | ok x w' =>
    cases x with
    | value v => exact h1
    | skip => exact h1
    | defer d => exact h1
    | enter f args => exact ⟨fun h => (by cases h), callsIn_wide.2 h1⟩
    | row row args => exact ⟨fun h => (by cases h), fun c cs _ => let ⟨v, w', r, s⟩ := h1 c cs; ⟨v, w', r, stepsIn_wide.2 s⟩⟩
    | _ => exact h1.elim
  | halt x w' => cases x <;> exact h1

section
variable {n : Nat} {o : Oper} {sl : Sl} {L : List Ch} {K : Sl → List Ch → Prop}

theorem AOp.of (hd : dstOk n o.dst = true) (h : ∀ (w : World) (S : Nat → Prop) (a : Act), St n w S sl L a → ∃ v c w' S' L', (execOp a.eval o).run P w = .ok (.value v) w' ∧ R w' S' c v ∧ Hp w' S' L' ∧ Fr w S L w' S' L' ∧ K (put sl o.dst c) L') : AOp P n o sl L K := by
  intro w S a hs nx Q hnx
  obtain ⟨v, c, w', S', L', h1, h2, h3, h4, h5⟩ := h w S a hs
  unfold Oper.wp
  rw [h1, Oper.upon_value]
  exact hnx _ _ _ _ _ h5 (hs.put hd h4 h3 h2) h4 ⟨_, rfl⟩
theorem AOp.val (hd : dstOk n o.dst = true) (c : V) (h : ∀ (w : World) (S : Nat → Prop) (a : Act), St n w S sl L a → ∃ v, (execOp a.eval o).run P w = .ok (.value v) w ∧ R w S c v) (hK : K (put sl o.dst c) L) : AOp P n o sl L K :=
  .of hd fun w S a hs => let ⟨v, h1, h2⟩ := h w S a hs; ⟨v, c, w, S, L, h1, h2, hs.hp, .refl _ _ _, hK⟩
theorem AOp.skip (hd : dstOk n o.dst = true) (L' : List Ch) (h : ∀ (w : World) (S : Nat → Prop) (a : Act), St n w S sl L a → ∃ w' S', (execOp a.eval o).run P w = .ok .skip w' ∧ Hp w' S' L' ∧ Fr w S L w' S' L') (hK : K (put sl o.dst (.v undef)) L') : AOp P n o sl L K := by
  intro w S a hs nx Q hnx
  obtain ⟨w', S', h1, h3, h4⟩ := h w S a hs
  unfold Oper.wp
  rw [h1, Oper.upon_skip]
  exact hnx _ _ _ _ _ hK (hs.put hd h4 h3 (.v _)) h4 ⟨_, rfl⟩

/- the kind of an operation, for the walk -/
theorem aop_move {x : Operand} (c : V) (ho : o.op = .move x) (hd : dstOk n o.dst = true) (hx : ev sl x = c) (hK : K (put sl o.dst c) L) : AOp P n o sl L K :=
  .val hd _ (fun w S a hs => ⟨a.eval x, by simp [execOp, ho], hx ▸ hs.ev x⟩) hK
theorem aop_assign {x : Operand} (c : V) (ho : o.op = .assign x) (hd : dstOk n o.dst = true) (hx : ev sl x = c) (hK : K (put sl o.dst c) L) : AOp P n o sl L K :=
  .val hd _ (fun w S a hs => ⟨a.eval x, by simp [execOp, ho], hx ▸ hs.ev x⟩) hK
theorem aop_pick {c x y : Operand} (ho : o.op = .pick c x y) (hd : dstOk n o.dst = true) (t : Bool) (hc : ev sl c = .b t) (hK : K (put sl o.dst (bif t then ev sl x else ev sl y)) L) : AOp P n o sl L K := by
  refine .val hd _ (fun w S a hs => ⟨if t then a.eval x else a.eval y, by simp [execOp, ho, hs.evv hc, asBool], ?_⟩) hK
  cases t
  · exact hs.ev y
  · exact hs.ev x

/-- an operation on values as they are -/
theorem aop_pure (hd : dstOk n o.dst = true) (v : Value) (h : ∀ (w : World) (S : Nat → Prop) (a : Act), St n w S sl L a → (execOp a.eval o).run P w = .ok (.value v) w) (hK : K (put sl o.dst (.v v)) L) : AOp P n o sl L K :=
  .val hd _ (fun w S a hs => ⟨v, h w S a hs, .v v⟩) hK
theorem aop_bin {b : BinOp} {t t' : TypeId} {x y : Operand} (ho : o.op = .binOp b t x y t') (hd : dstOk n o.dst = true) (v u r : Value) (hx : ev sl x = .v v) (hy : ev sl y = .v u)
    (hg : ∀ w, (eqGuard b t x y v u).run P w = .ok () w) (h : ∀ w, (binOp b t v u).run P w = .ok r w) (hK : K (put sl o.dst (.v r)) L) : AOp P n o sl L K :=
  aop_pure hd r (fun w S a hs => by simp [execOp, ho, hs.evv hx, hs.evv hy, hg, h]) hK
theorem aop_not {t : TypeId} {x : Operand} (ho : o.op = .unOp .not t x) (hd : dstOk n o.dst = true) (c : Bool) (hx : ev sl x = .b c) (r : Bool) (hr : (!c) = r) (hK : K (put sl o.dst (.b r)) L) : AOp P n o sl L K := by
  subst hr
  exact aop_pure hd _ (fun w S a hs => by simp [execOp, ho, hs.evv hx, Op.unary]) hK
theorem eqGuard_int (b : BinOp) (t : TypeId) (x y : Operand) (k k' : IntKind) (p q : Int) (w : World) : (eqGuard b t x y (.int k p) (.int k' q)).run P w = .ok () w := by
  unfold eqGuard; cases b <;> simp
theorem eqGuard_bool (b : BinOp) (t : TypeId) (x y : Operand) (p q : Bool) (w : World) : (eqGuard b t x y (.bool p) (.bool q)).run P w = .ok () w := by
  unfold eqGuard; cases b <;> simp
theorem aop_bini {b : BinOp} {t t' : TypeId} {x y : Operand} (ho : o.op = .binOp b t x y t') (hd : dstOk n o.dst = true) {k k' : IntKind} {p q : Int} (r : Value) (hx : ev sl x = .v (.int k p)) (hy : ev sl y = .v (.int k' q))
    (h : ∀ w, (binOp b t (.int k p) (.int k' q)).run P w = .ok r w) (hK : K (put sl o.dst (.v r)) L) : AOp P n o sl L K :=
  aop_bin ho hd _ _ r hx hy (eqGuard_int _ _ _ _ _ _ _ _) h hK
theorem aop_add {t t' : TypeId} {x y : Operand} {p q : Int} (ho : o.op = .binOp .add t x y t') (hd : dstOk n o.dst = true) (hx : ev sl x = .i p) (hy : ev sl y = .i q) (h1 : -9223372036854775808 ≤ p + q) (h2 : p + q ≤ 9223372036854775807)
    (hK : K (put sl o.dst (.i (p + q))) L) : AOp P n o sl L K :=
  aop_bini ho hd _ hx hy (fun w => by have := IntWalk.i64_in (p + q) ⟨h1, by omega⟩; simp [binOp, Op.intArith, this]) hK
theorem aop_sub {t t' : TypeId} {x y : Operand} {p q : Int} (ho : o.op = .binOp .sub t x y t') (hd : dstOk n o.dst = true) (hx : ev sl x = .i p) (hy : ev sl y = .i q) (h1 : -9223372036854775808 ≤ p - q) (h2 : p - q ≤ 9223372036854775807)
    (hK : K (put sl o.dst (.i (p - q))) L) : AOp P n o sl L K :=
  aop_bini ho hd _ hx hy (fun w => by have := IntWalk.i64_in (p - q) ⟨h1, by omega⟩; simp [binOp, Op.intArith, this]) hK
theorem aop_mul {t t' : TypeId} {x y : Operand} {p q : Int} (ho : o.op = .binOp .mul t x y t') (hd : dstOk n o.dst = true) (hx : ev sl x = .i p) (hy : ev sl y = .i q) (h1 : -9223372036854775808 ≤ p * q) (h2 : p * q ≤ 9223372036854775807)
    (hK : K (put sl o.dst (.i (p * q))) L) : AOp P n o sl L K :=
  aop_bini ho hd _ hx hy (fun w => by have := IntWalk.i64_in (p * q) ⟨h1, by omega⟩; simp [binOp, Op.intArith, this]) hK
theorem aop_lss {t t' : TypeId} {x y : Operand} {k : IntKind} {p q : Int} (ho : o.op = .binOp .lss t x y t') (hd : dstOk n o.dst = true) (hx : ev sl x = .v (.int k p)) (hy : ev sl y = .v (.int k q)) (r : Bool) (hr : (decide (p < q)) = r) (hK : K (put sl o.dst (.b r)) L) : AOp P n o sl L K := by
  subst hr
  exact aop_bini ho hd _ hx hy (fun w => by simp [binOp, Op.intCmp]) hK
theorem aop_leq {t t' : TypeId} {x y : Operand} {k : IntKind} {p q : Int} (ho : o.op = .binOp .leq t x y t') (hd : dstOk n o.dst = true) (hx : ev sl x = .v (.int k p)) (hy : ev sl y = .v (.int k q)) (r : Bool) (hr : (decide (p ≤ q)) = r) (hK : K (put sl o.dst (.b r)) L) : AOp P n o sl L K := by
  subst hr
  exact aop_bini ho hd _ hx hy (fun w => by simp [binOp, Op.intCmp]) hK
theorem aop_gtr {t t' : TypeId} {x y : Operand} {k : IntKind} {p q : Int} (ho : o.op = .binOp .gtr t x y t') (hd : dstOk n o.dst = true) (hx : ev sl x = .v (.int k p)) (hy : ev sl y = .v (.int k q)) (r : Bool) (hr : (decide (q < p)) = r) (hK : K (put sl o.dst (.b r)) L) : AOp P n o sl L K := by
  subst hr
  exact aop_bini ho hd _ hx hy (fun w => by simp [binOp, Op.intCmp]) hK
theorem aop_geq {t t' : TypeId} {x y : Operand} {k : IntKind} {p q : Int} (ho : o.op = .binOp .geq t x y t') (hd : dstOk n o.dst = true) (hx : ev sl x = .v (.int k p)) (hy : ev sl y = .v (.int k q)) (r : Bool) (hr : (decide (q ≤ p)) = r) (hK : K (put sl o.dst (.b r)) L) : AOp P n o sl L K := by
  subst hr
  exact aop_bini ho hd _ hx hy (fun w => by simp [binOp, Op.intCmp]) hK
theorem aop_eqi {t t' : TypeId} {x y : Operand} {k : IntKind} {p q : Int} (ho : o.op = .binOp .eql t x y t') (hd : dstOk n o.dst = true) (hx : ev sl x = .v (.int k p)) (hy : ev sl y = .v (.int k q)) (r : Bool) (hr : (decide (p = q)) = r) (hK : K (put sl o.dst (.b r)) L) : AOp P n o sl L K := by
  subst hr
  exact aop_bini ho hd _ hx hy (fun w => by simp [binOp, Op.intCmp]; rfl) hK
theorem aop_nei {t t' : TypeId} {x y : Operand} {k : IntKind} {p q : Int} (ho : o.op = .binOp .neq t x y t') (hd : dstOk n o.dst = true) (hx : ev sl x = .v (.int k p)) (hy : ev sl y = .v (.int k q)) (r : Bool) (hr : (!decide (p = q)) = r) (hK : K (put sl o.dst (.b r)) L) : AOp P n o sl L K := by
  subst hr
  exact aop_bini ho hd _ hx hy (fun w => by simp [binOp, Op.intCmp]; rfl) hK
class TyBool (P : Program) (t : TypeId) : Prop where
  und : P.underlying t = some .bool
theorem aop_eqb {t t' : TypeId} {x y : Operand} {p q : Bool} [ht : TyBool P t] (ho : o.op = .binOp .eql t x y t') (hd : dstOk n o.dst = true) (hx : ev sl x = .b p) (hy : ev sl y = .b q) (r : Bool) (hr : (p == q) = r) (hK : K (put sl o.dst (.b r)) L) : AOp P n o sl L K := by
  subst hr
  exact aop_bin ho hd _ _ _ hx hy (eqGuard_bool _ _ _ _ _ _) (fun w => run_eql_bool w t p q ht.und) hK
theorem aop_neb {t t' : TypeId} {x y : Operand} {p q : Bool} [ht : TyBool P t] (ho : o.op = .binOp .neq t x y t') (hd : dstOk n o.dst = true) (hx : ev sl x = .b p) (hy : ev sl y = .b q) (r : Bool) (hr : (p != q) = r) (hK : K (put sl o.dst (.b r)) L) : AOp P n o sl L K := by
  subst hr
  exact aop_bin ho hd _ _ _ hx hy (eqGuard_bool _ _ _ _ _ _) (fun w => by simp [binOp, run_equal_bool w t p q ht.und, bne]) hK
end
end Go.Proofs.Ytlagablcopmhkaa
