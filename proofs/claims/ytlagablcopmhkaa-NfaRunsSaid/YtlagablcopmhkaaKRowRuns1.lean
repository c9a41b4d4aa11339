/- Packed: W, Tree, Range -/
import Derived.Lib.Hide
import Derived.LoopIn
import Derived.LoopNIn
import Derived.OwnWalkIn
import Derived.RangeFuncBound
import Derived.RangeFuncLeaves
import Derived.RangeFuncNested
import Derived.Shelf.Abstract
import Derived.TacticsInMore
import Derived.WalkKit
import Derived.WalkLawsBesides
import Derived.WalkSpells
set_option linter.unusedVariables false
set_option linter.unusedSimpArgs false
/- Words that all texts of this seat use: data as cells, and how a value holds a datum in a world. -/
namespace Go.Proofs.Ytlagablcopmhkaa
open Go.RowKit

/-- A datum, as one cell: a value that names no memory, or a slice of n elements of k cells each. -/
inductive D where
  | v (x : Value)
  | s (n k : Nat) (ds : List D)

/-- The cell value holds the datum; all blocks that it reaches are in S. -/
inductive Rep (w : World) (S : Nat → Prop) : D → Value → Prop
  | v (x : Value) : Rep w S (.v x) x
  | s {n k : Nat} {ds : List D} {p : Option Addr} {cap : Nat} (us : List Value) (hn : n ≤ 140737488355328) (hc : n ≤ cap) (hm : cap ≤ 9223372036854775807) (hd : ds.length = n * k) (hu : us.length = ds.length)
      (hp : us ≠ [] → ∃ b off, p = some ⟨b, off, none⟩ ∧ S b ∧ ∀ (j : Nat) (u : Value), us[j]? = some u → w.cell? ⟨b, off + j, none⟩ = some u)
      (hr : ∀ (j : Nat) (d : D) (u : Value), ds[j]? = some d → us[j]? = some u → Rep w S d u) : Rep w S (.s n k ds) (.slice p n cap)

theorem Rep.move {w w' : World} {S S' : Nat → Prop} {d : D} {v : Value} (h : Rep w S d v) (hw : ∀ b, S b → b < w.heap.size → w'.heap[b]? = w.heap[b]? ∧ S' b) : Rep w' S' d v := by
  induction h with
  | v x => exact .v x
  | s us hn hc hm hd hu hp _ ih =>
    refine .s us hn hc hm hd hu (fun hne => ?_) ih
    obtain ⟨b, off, rfl, hS, hcell⟩ := hp hne
    have hb : b < w.heap.size := by
      obtain ⟨u, hu0⟩ : ∃ u, us[0]? = some u := by cases us with | nil => exact absurd rfl hne | cons x l => exact ⟨x, rfl⟩
      exact World.block_lt_of_cell? w _ (hcell 0 u hu0)
    obtain ⟨h1, h2⟩ := hw b hS hb
    exact ⟨b, off, rfl, h2, fun j u hj => (World.cell?_of_block (w := w) h1).trans (hcell j u hj)⟩

theorem Rep.mono {w : World} {S S' : Nat → Prop} {d : D} {v : Value} (h : Rep w S d v) (hS : ∀ b, S b → b < w.heap.size → S' b) : Rep w S' d v :=
  h.move fun b hb hlt => ⟨rfl, hS b hb hlt⟩

/-- Whatever was there below B is still held. -/
theorem Rep.keep {w w' : World} {S : Nat → Prop} {d : D} {v : Value} {B : Nat} (h : Rep w S d v) (hb : Below B w w') (hS : ∀ b, S b → b < w.heap.size → b < B) : Rep w' S d v :=
  h.move fun b hs hlt => ⟨hb.block b (hS b hs hlt), hs⟩

theorem Rep.grow {w w' : World} {S : Nat → Prop} {d : D} {v : Value} (h : Rep w S d v) (hb : Below w.heap.size w w') : Rep w' S d v :=
  h.keep hb fun _ _ h => h

/-- whole numbers -/
def dI (l : List Int) : D := .s l.length 1 (l.map fun x => .v (.int .i64 x))

theorem Rep.ints {w : World} {S : Nat → Prop} {l : List Int} {v : Value} (h : Rep w S (dI l) v) :
    ∃ p cap, v = .slice p l.length cap ∧ l.length ≤ 140737488355328 ∧ l.length ≤ cap ∧ cap ≤ 9223372036854775807 ∧
      ∀ i x, l[i]? = some x → ∃ b off, p = some ⟨b, off, none⟩ ∧ S b ∧ w.cell? ⟨b, off + i, none⟩ = some (.int .i64 x) := by
  unfold dI at h
  cases h with
  | s us hn hc hm hd hu hp hr =>
    rename_i p cap
    refine ⟨p, cap, rfl, hn, hc, hm, fun i x hx => ?_⟩
    have hlt : i < l.length := (List.getElem?_eq_some_iff.1 hx).1
    simp at hd hu
    obtain ⟨u, hui⟩ : ∃ u, us[i]? = some u := ⟨us[i], by simp [hu, hlt]⟩
    obtain ⟨b, off, rfl, hS, hcell⟩ := hp (by intro h; simp [h] at hui)
    refine ⟨b, off, rfl, hS, ?_⟩
    have hi := hr i (.v (.int .i64 x)) u (by simp [hx]) hui
    cases hi
    exact hcell i _ hui

theorem drop_cons {α : Type} {l : List α} {k : Nat} {x : α} (h : l[k]? = some x) : l.drop k = x :: l.drop (k + 1) := by
  obtain ⟨hk, rfl⟩ := List.getElem?_eq_some_iff.1 h
  exact List.drop_eq_getElem_cons hk

theorem some_at {α : Type} {l : List α} {k : Nat} (h : k < l.length) : ∃ x, l[k]? = some x := ⟨l[k], by simp [h]⟩

/-- max and min of two, which the walk leaves whole -/
def imax (x y : Int) : Int := if x < y then y else x
def imin (x y : Int) : Int := if y < x then y else x
theorem max2_im (k k' : IntKind) (x y : Int) : Builtin.max2 (.int k x) (.int k' y) = pure (.int k (imax x y)) := by simp only [Builtin.max2, gt_iff_lt, imax]
theorem min2_im (k k' : IntKind) (x y : Int) : Builtin.min2 (.int k x) (.int k' y) = pure (.int k (imin x y)) := by simp only [Builtin.min2, imin]
theorem max_im (ats : Array TypeId) (ty : TypeId) (a b : Value) : Builtin.max_ ats ty #[a, b] = (Builtin.max2 a b >>= fun s => pure s) := by simp only [Builtin.max_, List.foldlM_cons, List.foldlM_nil]
theorem min_im (ats : Array TypeId) (ty : TypeId) (a b : Value) : Builtin.min_ ats ty #[a, b] = (Builtin.min2 a b >>= fun s => pure s) := by simp only [Builtin.min_, List.foldlM_cons, List.foldlM_nil]
theorem max_im3 (ats : Array TypeId) (ty : TypeId) (a b c : Value) : Builtin.max_ ats ty #[a, b, c] = (Builtin.max2 a b >>= fun s => Builtin.max2 s c >>= fun s => pure s) := by simp only [Builtin.max_, List.foldlM_cons, List.foldlM_nil]
theorem imax_eq (x y : Int) : imax x y = max x y := by unfold imax; split <;> omega
theorem imin_eq (x y : Int) : imin x y = min x y := by unfold imin; split <;> omega

/-- a test of two numbers, in the walk's spelling, one way or the other -/
theorem eqb (a b : Int) : ((a == b) = true ∧ a = b) ∨ ((a == b) = false ∧ a ≠ b) := by
  by_cases h : a = b
  · exact .inl ⟨by simp [h], h⟩
  · exact .inr ⟨by simp [h], h⟩

/-- the same, with the test of being apart beside it -/
theorem eqb2 (a b : Int) : ((a == b) = true ∧ (a != b) = false ∧ Hid (a = b)) ∨ ((a == b) = false ∧ (a != b) = true ∧ Hid (a ≠ b)) := by
  by_cases h : a = b
  · exact .inl ⟨by simp [h], by simp [h], h⟩
  · exact .inr ⟨by simp [h], by simp [h], h⟩
theorem nepos {a b : Int} (h : a ≠ b) : (a == b) = false ∧ (a != b) = true := ⟨by simp [h], by simp [h]⟩

theorem take_succ_of {α : Type} {l : List α} {k : Nat} {x : α} (h : l[k]? = some x) : l.take (k + 1) = l.take k ++ [x] := by
  obtain ⟨hk, rfl⟩ := List.getElem?_eq_some_iff.1 h
  rw [List.take_succ_eq_append_getElem hk]

theorem box_lt {w W : World} {o : Obj} (h : Below (w.alloc o).heap.size (w.alloc o) W) : w.heap.size < W.heap.size := by have := h.size; rw [World.size_alloc] at this; omega

theorem ret_bool {a b : Bool} (h : a = b) : Ending.returned (.bool a) = .returned (.bool b) := by rw [h]
theorem ret_int {k : IntKind} {a b : Int} (h : a = b) : Ending.returned (.int k a) = .returned (.int k b) := by rw [h]

end Go.Proofs.Ytlagablcopmhkaa
/- Regexes as trees: the data, and how values hold them. -/
namespace Go.Proofs.Ytlagablcopmhkaa
open Go.RowKit

inductive Node where
  | mk (kind : Nat) (set : BitVec 256) (min max : Int) (subs : List Node)

namespace Node
def kind : Node → Nat | .mk k _ _ _ _ => k
def set : Node → BitVec 256 | .mk _ s _ _ _ => s
def min : Node → Int | .mk _ _ m _ _ => m
def max : Node → Int | .mk _ _ _ m _ => m
def subs : Node → List Node | .mk _ _ _ _ l => l
end Node

/-- word i of a set -/
def word (s : BitVec 256) (i : Nat) : Int := ((s.toNat / 2 ^ (64 * i) % 2 ^ 64 : Nat) : Int)

mutual
/-- a tree's eight cells -/
def nodeD : Node → List D
  | .mk k s mn mx subs => [.v (.int .u8 k), .v (.int .u64 (word s 0)), .v (.int .u64 (word s 1)), .v (.int .u64 (word s 2)), .v (.int .u64 (word s 3)), .v (.int .i64 mn), .v (.int .i64 mx), .s subs.length 8 (nodesD subs)]
def nodesD : List Node → List D
  | [] => []
  | x :: l => nodeD x ++ nodesD l
end

theorem nodeD_length (x : Node) : (nodeD x).length = 8 := by cases x; simp [nodeD]
theorem nodesD_length (l : List Node) : (nodesD l).length = l.length * 8 := by
  induction l with
  | nil => rfl
  | cons x l ih => simp [nodesD, nodeD_length, ih]; omega

theorem nodesD_at (l : List Node) (i : Nat) (x : Node) (h : l[i]? = some x) (j : Nat) (hj : j < 8) : (nodesD l)[i * 8 + j]? = (nodeD x)[j]? := by
  induction l generalizing i with
  | nil => simp at h
  | cons y l ih =>
    cases i with
    | zero => simp at h; subst h; simp [nodesD]; rw [List.getElem?_append_left (by rw [nodeD_length]; exact hj)]
    | succ i =>
      simp at h
      simp only [nodesD]
      rw [List.getElem?_append_right (by rw [nodeD_length]; omega), nodeD_length]
      rw [show (i + 1) * 8 + j - 8 = i * 8 + j by omega]
      exact ih i h

/-- the value of a tree: its eight cells -/
@[reducible] def nodeC (x : Node) (sv : Value) : Array Value := #[.int .u8 x.kind, .int .u64 (word x.set 0), .int .u64 (word x.set 1), .int .u64 (word x.set 2), .int .u64 (word x.set 3), .int .i64 x.min, .int .i64 x.max, sv]

/-- the slice value holds the trees -/
abbrev RepL (w : World) (S : Nat → Prop) (l : List Node) (sv : Value) : Prop := Rep w S (.s l.length 8 (nodesD l)) sv

theorem RepL.shape {w : World} {S : Nat → Prop} {l : List Node} {v : Value} (h : RepL w S l v) : ∃ p cap, v = .slice p l.length cap := by
  cases h with
  | s us hn hc hm hd hu hp hr => exact ⟨_, _, rfl⟩

/-- eight cells in memory -/
def NodeAt (w : World) (b o : Nat) (x : Node) (sv : Value) : Prop :=
  w.cell? ⟨b, o, none⟩ = some (.int .u8 x.kind) ∧ w.cell? ⟨b, o + 1, none⟩ = some (.int .u64 (word x.set 0)) ∧ w.cell? ⟨b, o + 2, none⟩ = some (.int .u64 (word x.set 1)) ∧ w.cell? ⟨b, o + 3, none⟩ = some (.int .u64 (word x.set 2)) ∧
  w.cell? ⟨b, o + 4, none⟩ = some (.int .u64 (word x.set 3)) ∧ w.cell? ⟨b, o + 5, none⟩ = some (.int .i64 x.min) ∧ w.cell? ⟨b, o + 6, none⟩ = some (.int .i64 x.max) ∧ w.cell? ⟨b, o + 7, none⟩ = some sv

theorem NodeAt.move {w w' : World} {b o : Nat} {x : Node} {sv : Value} (h : NodeAt w b o x sv) (hb : w'.heap[b]? = w.heap[b]?) : NodeAt w' b o x sv := by
  have e : ∀ j, w'.cell? ⟨b, j, none⟩ = w.cell? ⟨b, j, none⟩ := fun j => World.cell?_of_block (w := w) (a := ⟨b, j, none⟩) hb
  unfold NodeAt
  simp only [e]
  exact h

theorem NodeAt.lt {w : World} {b o : Nat} {x : Node} {sv : Value} (h : NodeAt w b o x sv) : b < w.heap.size := World.block_lt_of_cell? w _ h.1

theorem NodeAt.below {w w' : World} {b o : Nat} {x : Node} {sv : Value} (h : NodeAt w b o x sv) (hb : Below w.heap.size w w') : NodeAt w' b o x sv := h.move (hb.block b h.lt)

/-- a box of eight cells -/
def BoxN (w : World) (b : Nat) (x : Node) (sv : Value) : Prop :=
  w.cell? ⟨b, 0, none⟩ = some (.int .u8 x.kind) ∧ w.cell? ⟨b, 1, none⟩ = some (.int .u64 (word x.set 0)) ∧ w.cell? ⟨b, 2, none⟩ = some (.int .u64 (word x.set 1)) ∧ w.cell? ⟨b, 3, none⟩ = some (.int .u64 (word x.set 2)) ∧
  w.cell? ⟨b, 4, none⟩ = some (.int .u64 (word x.set 3)) ∧ w.cell? ⟨b, 5, none⟩ = some (.int .i64 x.min) ∧ w.cell? ⟨b, 6, none⟩ = some (.int .i64 x.max) ∧ w.cell? ⟨b, 7, none⟩ = some sv

theorem BoxN.move {w w' : World} {b : Nat} {x : Node} {sv : Value} (h : BoxN w b x sv) (hb : w'.heap[b]? = w.heap[b]?) : BoxN w' b x sv := by
  have e : ∀ j, w'.cell? ⟨b, j, none⟩ = w.cell? ⟨b, j, none⟩ := fun j => World.cell?_of_block (w := w) (a := ⟨b, j, none⟩) hb
  unfold BoxN
  simp only [e]
  exact h
theorem BoxN.lt {w : World} {b : Nat} {x : Node} {sv : Value} (h : BoxN w b x sv) : b < w.heap.size := World.block_lt_of_cell? w _ h.1
theorem BoxN.below {w w' : World} {b : Nat} {x : Node} {sv : Value} (h : BoxN w b x sv) (hb : Below w.heap.size w w') : BoxN w' b x sv := h.move (hb.block b h.lt)
theorem BoxN.of_row {w : World} {b : Nat} {x : Node} {sv : Value} {t : TypeId} {fr : Nat × Nat} (h : w.heap[b]? = some (.cells (nodeC x sv) t fr)) : BoxN w b x sv := by
  have e : ∀ j, w.cell? ⟨b, j, none⟩ = (nodeC x sv)[j]? := fun j => by simp [World.cell?, h]
  unfold BoxN
  simp only [e]
  exact ⟨rfl, rfl, rfl, rfl, rfl, rfl, rfl, rfl⟩
theorem BoxN.new (w : World) (x : Node) (sv : Value) (t : TypeId) : BoxN (w.alloc (.cells (nodeC x sv) t)) w.heap.size x sv := .of_row (heap_alloc_new w _)

/-- the Subs of a tree -/
theorem RepL.at {w : World} {S : Nat → Prop} {l : List Node} {v : Value} (h : RepL w S l v) :
    ∃ p cap, v = .slice p l.length cap ∧ l.length ≤ 140737488355328 ∧ l.length ≤ cap ∧ cap ≤ 9223372036854775807 ∧
      ∀ (i : Nat) (x : Node), l[i]? = some x → ∃ b off, p = some ⟨b, off, none⟩ ∧ S b ∧ b < w.heap.size ∧ ∃ sv, RepL w S x.subs sv ∧ NodeAt w b (off + i * 8) x sv := by
  cases h with
  | s us hn hc hm hd hu hp hr =>
    rename_i p cap
    refine ⟨p, cap, rfl, hn, hc, hm, fun i x hx => ?_⟩
    have hlt : i < l.length := (List.getElem?_eq_some_iff.1 hx).1
    rw [nodesD_length] at hu
    have hat : ∀ j, j < 8 → ∃ u, us[i * 8 + j]? = some u := fun j hj => ⟨us[i * 8 + j]'(by omega), by simp⟩
    obtain ⟨b, off, rfl, hS, hcell⟩ := hp (by intro h; obtain ⟨u, hu⟩ := hat 0 (by omega); simp [h] at hu)
    refine ⟨b, off, rfl, hS, ?_⟩
    cases x with
    | mk k s mn mx subs =>
    have key : ∀ j d u, j < 8 → (nodeD (.mk k s mn mx subs))[j]? = some d → us[i * 8 + j]? = some u → Rep w S d u := fun j d u hj hd hu => hr (i * 8 + j) d u (by rw [nodesD_at l i _ hx j hj]; exact hd) hu
    obtain ⟨u0, h0⟩ := hat 0 (by omega)
    obtain ⟨u1, h1⟩ := hat 1 (by omega)
    obtain ⟨u2, h2⟩ := hat 2 (by omega)
    obtain ⟨u3, h3⟩ := hat 3 (by omega)
    obtain ⟨u4, h4⟩ := hat 4 (by omega)
    obtain ⟨u5, h5⟩ := hat 5 (by omega)
    obtain ⟨u6, h6⟩ := hat 6 (by omega)
    obtain ⟨u7, h7⟩ := hat 7 (by omega)
    have k0 := key 0 _ u0 (by omega) rfl h0
    have k1 := key 1 _ u1 (by omega) rfl h1
    have k2 := key 2 _ u2 (by omega) rfl h2
    have k3 := key 3 _ u3 (by omega) rfl h3
    have k4 := key 4 _ u4 (by omega) rfl h4
    have k5 := key 5 _ u5 (by omega) rfl h5
    have k6 := key 6 _ u6 (by omega) rfl h6
    have k7 := key 7 _ u7 (by omega) rfl h7
    cases k0; cases k1; cases k2; cases k3; cases k4; cases k5; cases k6
    have hblt := World.block_lt_of_cell? w _ (hcell _ _ h0)
    exact ⟨hblt, u7, k7, hcell _ _ h0, hcell _ _ h1, hcell _ _ h2, hcell _ _ h3, hcell _ _ h4, hcell _ _ h5, hcell _ _ h6, hcell _ _ h7⟩

mutual
/-- how many nodes -/
def cnt : Node → Nat | .mk _ _ _ _ l => 1 + cntL l
def cntL : List Node → Nat
  | [] => 0
  | x :: l => cnt x + cntL l
end
theorem cnt_pos (x : Node) : 1 ≤ cnt x := by cases x; simp [cnt]
theorem cnt_eq (x : Node) : cnt x = 1 + cntL x.subs := by cases x; simp [cnt, Node.subs]
theorem cntL_length (l : List Node) : l.length ≤ cntL l := by
  induction l with
  | nil => simp
  | cons x l ih => have := cnt_pos x; simp [cntL]; omega
theorem cnt_at {l : List Node} {i : Nat} {x : Node} (h : l[i]? = some x) : cnt x ≤ cntL l := by
  induction l generalizing i with
  | nil => simp at h
  | cons y l ih => cases i with
    | zero => simp at h; subst h; simp [cntL]
    | succ i => simp at h; have := ih h; simp [cntL]; omega

end Go.Proofs.Ytlagablcopmhkaa
/- A range over a function, walked by ghost ownership: the loop's own blocks G, which the iterator leaves alone, and the blocks that the iterator leans on, which the rounds leave alone. -/
namespace Go.Proofs.Ytlagablcopmhkaa
open Go.RowKit

abbrev WF : Fence := Fence.wide
theorem wide_fn (f : FuncId) : Fence.wide.fn f = True := rfl
theorem wide_depth : Fence.wide.depth = none := rfl

/-- What an iterator does between two rounds: all that lay when it began, and all of G, lies as it lay. -/
structure Keeps (B : Nat) (G : Nat → Prop) (W W' : World) : Prop where
  os : W'.os = W.os
  tape : W'.tape = W.tape
  output : W'.output = W.output
  size : W.heap.size ≤ W'.heap.size
  same : ∀ b, b < W.heap.size → b < B ∨ G b → W'.heap[b]? = W.heap[b]?

/-- What a round does: of what lay when it began (below B) it turns blocks of G alone; G grows by new blocks alone. -/
structure Own (B : Nat) (G G' : Nat → Prop) (W W' : World) : Prop where
  os : W'.os = W.os
  tape : W'.tape = W.tape
  output : W'.output = W.output
  size : W.heap.size ≤ W'.heap.size
  old : ∀ b, G b → G' b
  new : ∀ b, G' b → G b ∨ B ≤ b
  same : ∀ b, b < B → ¬ G b → W'.heap[b]? = W.heap[b]?

theorem Own.refl (B : Nat) (G : Nat → Prop) (W : World) : Own B G G W W := ⟨rfl, rfl, rfl, Nat.le_refl _, fun _ h => h, fun _ h => .inl h, fun _ _ _ => rfl⟩
theorem Own.below {B : Nat} {G G' : Nat → Prop} {W W1 W2 : World} (h : Own B G G' W W1) {B' : Nat} (k : Below B' W1 W2) (hB : ∀ b, b < B → ¬ G b → b < B') : Own B G G' W W2 :=
  ⟨k.os.trans h.os, k.tape.trans h.tape, k.output.trans h.output, Nat.le_trans h.size k.size, h.old, h.new, fun b hb hg => (k.block b (hB b hb hg)).trans (h.same b hb hg)⟩
theorem Own.alloc {B : Nat} {G G' : Nat → Prop} {W W1 : World} (h : Own B G G' W W1) (hB : B ≤ W1.heap.size) (o : Obj) : Own B G G' W (W1.alloc o) :=
  h.below ((Below.refl W1.heap.size W1).alloc (Nat.le_refl _) o) fun b hb _ => by omega
theorem Own.setCell {B : Nat} {G G' : Nat → Prop} {W W1 : World} (h : Own B G G' W W1) (a : Addr) (ha : G a.block ∨ B ≤ a.block) (v : Value) : Own B G G' W (W1.setCell a v) :=
  ⟨h.os, h.tape, h.output, by simpa using h.size, h.old, h.new, fun b hb hg => (Below.heap_setCell W1 a v b (by rintro rfl; rcases ha with ha | ha; exact hg ha; omega)).trans (h.same b hb hg)⟩
theorem Own.grown {B : Nat} {G G' : Nat → Prop} {W W1 W2 : World} (h : Own B G G' W W1) (hB : B ≤ W1.heap.size) {row : Option Nat} (k : W1.grownBy W2 row) (hr : ∀ r, row = some r → G r ∨ B ≤ r) : Own B G G' W W2 :=
  ⟨k.os.trans h.os, k.tape.trans h.tape, k.output.trans h.output, Nat.le_trans h.size k.size, h.old, h.new, fun b hb hg => (k.block b (by omega) (fun e => by rcases hr b e.symm with h | h; exact hg h; omega)).trans (h.same b hb hg)⟩
theorem Own.widen {B : Nat} {G G' G'' : Nat → Prop} {W W1 : World} (h : Own B G G' W W1) (h1 : ∀ b, G' b → G'' b) (h2 : ∀ b, G'' b → G' b ∨ B ≤ b) : Own B G G'' W W1 :=
  ⟨h.os, h.tape, h.output, h.size, fun b hb => h1 b (h.old b hb), fun b hb => (h2 b hb).elim (h.new b) .inr, h.same⟩
theorem Own.trans {B B' : Nat} {G G' G'' : Nat → Prop} {W W1 W2 : World} (h : Own B G G' W W1) (k : Own B' G' G'' W1 W2) (hB : B ≤ B') : Own B G G'' W W2 :=
  ⟨k.os.trans h.os, k.tape.trans h.tape, k.output.trans h.output, Nat.le_trans h.size k.size, fun b hb => k.old b (h.old b hb), fun b hb => (k.new b hb).elim (h.new b) (fun h => .inr (by omega)),
    fun b hb hg => (k.same b (by omega) (fun hg' => by rcases h.new b hg' with h | h; exact hg h; omega)).trans (h.same b hb hg)⟩

theorem Own.less {B B' : Nat} {G G' : Nat → Prop} {W W1 : World} (h : Own B G G' W W1) (hB : B' ≤ B) : Own B' G G' W W1 :=
  ⟨h.os, h.tape, h.output, h.size, h.old, fun b hb => (h.new b hb).imp id (fun h => by omega), fun b hb hg => h.same b (by omega) hg⟩

/-- words that keep a statement whole through the walk -/
def KeptAt (R : Nat → Prop) (w0 W : World) : Prop := ∀ b, R b → W.heap[b]? = w0.heap[b]?
def Apart (G R : Nat → Prop) : Prop := ∀ b, G b → ¬ R b

def Stable (B : Nat) (I : (Nat → Prop) → World → Prop) : Prop := ∀ G A C, I G A → Keeps B G A C → I G C

/-- AN ITERATOR's CONTRACT: N rounds, with these values; it leans on the blocks of Rel as they lay in w0. -/
def Seq (P : Program) (gf : FuncId) (lb : Array Value) (N : Nat) (vals : Nat → Array Value) (w0 : World) (Rel : Nat → Prop) : Prop :=
  ∀ (l : Nat) (I : Nat → (Nat → Prop) → World → Prop) (X : (Nat → Prop) → World → Prop) (W : World) (G : Nat → Prop),
    w0.heap.size ≤ W.heap.size → (∀ b, Rel b → W.heap[b]? = w0.heap[b]?) → (∀ b, G b → ¬ Rel b) →
    (∀ k, Stable W.heap.size (I k)) → Stable W.heap.size X → (∀ k G A, I k G A → ∀ b, G b → b < A.heap.size) →
    (∀ k G W1, k < N → I k G W1 → YieldAt WF 0 P l (vals k) W1 fun e W' =>
      (e = .returned (.bool true) ∧ ∃ G', Own W1.heap.size G G' W1 W' ∧ I (k + 1) G' W') ∨ (e = .returned (.bool false) ∧ ∃ G', Own W1.heap.size G G' W1 W' ∧ X G' W')) →
    I 0 G W →
    Calls P gf (#[.func (.yield l) #[] #[]] ++ lb) W fun e W' => (∃ v, e = .returned v) ∧ ∃ G', I N G' W' ∨ X G' W'

/-- How the body of a round may be left. -/
def roundEnd (B : Nat) (I : (Nat → Prop) → World → Prop) (X : Code → (Nat → Prop) → World → Prop) (G : Nat → Prop) (W : World) : Exit → Act → World → Prop
  | .normal, _, W' => ∃ G', Own B G G' W W' ∧ I G' W'
  | .ret, _, W' => ∃ G', Own B G G' W W' ∧ X .ret G' W'
  | .exit id, _, W' => ∃ G', Own B G G' W W' ∧ X (.exit id) G' W'
  | .goto t, _, W' => ∃ G', Own B G G' W W' ∧ X (.goto t) G' W'
  | .panic _, _, _ => False
  | .outgrown, _, _ => False

/-- Behind the assignment to the loop's left sides: new blocks alone; the body is walked from any world in which the loop's record alone has turned. -/
def mid (P : Program) (l : Nat) (body : Code) (I : (Nat → Prop) → World → Prop) (X : Code → (Nat → Prop) → World → Prop) (G : Nat → Prop) (W : World) (a₁ : Act) (W₁ : World) : Prop :=
  Below W.heap.size W W₁ ∧ ∀ W₂, W₂.os = W₁.os → W₂.tape = W₁.tape → W₂.output = W₁.output → W₂.heap.size = W₁.heap.size → (∀ b, b ≠ l → W₂.heap[b]? = W₁.heap[b]?) →
    body.wpIn (WF.inRound l) 0 P (roundEnd W.heap.size I X G W₂) a₁ W₂

variable {P : Program}

theorem wpIn_range {g : Operand} {ps : Array Tmp} {assign body : Code} {Q : Exit → Act → World → Prop} {a : Act} {w : World}
    {gf : Nat} {lb : Array Value} (hg : a.eval g = .func (.func gf) #[] lb) (eg : ∀ args w, (callFunc gf args).run P w = .ok (.enter gf args) w)
    {N : Nat} {vals : Nat → Array Value} {w0 : World} {Rel : Nat → Prop} (hseq : Seq P gf lb N vals w0 Rel) (hw0 : w0.heap.size ≤ w.heap.size)
    (hRb : ∀ b, Rel b → b < w0.heap.size) (hRel : ∀ b, Rel b → w.heap[b]? = w0.heap[b]?) (hps : ∀ k, (vals k).size = ps.size)
    (I : Nat → (Nat → Prop) → World → Prop) (X : Code → (Nat → Prop) → World → Prop) (G : Nat → Prop) (hG : ∀ b, G b → ¬ Rel b)
    (hI : ∀ k, Stable w.heap.size (I k)) (hX : ∀ c, Stable w.heap.size (X c)) (hlt : ∀ k G A, I k G A → ∀ b, G b → b < A.heap.size) (h0 : I 0 G w)
    (hround : ∀ (l k : Nat) (G : Nat → Prop) (W : World), w.heap.size ≤ l → l < W.heap.size → ¬ G l → k < N → I k G W →
      assign.wpIn (WF.inRound l) 0 P (Exit.then (mid P l body (I (k + 1)) X G W) (fun _ _ _ => False)) { tmps := (ps.zip (vals k)).foldl (fun t (p, v) => t.setIfInBounds p v) a.tmps, defers := [] } W)
    (hdone : ∀ (D : Nat) (G : Nat → Prop) (W : World), w.heap.size ≤ D → D < W.heap.size → ¬ G D → I N G W → W.heap[D]? = some (.deferred (some [])) → Q .normal { a with defers := { target := .collected D, args := #[] } :: a.defers } W)
    (hstop : ∀ (D : Nat) (c : Code) (G : Nat → Prop) (W : World), w.heap.size ≤ D → D < W.heap.size → ¬ G D → X c G W → W.heap[D]? = some (.deferred (some [])) → c.wpIn WF 0 P Q { a with defers := { target := .collected D, args := #[] } :: a.defers } W) :
    (Code.rangeFunc g ps assign body).wpIn WF 0 P Q a w := by
  refine wpIn_rangeFunc ?_
  intro fn hfn
  obtain ⟨rec, hrec⟩ : ∃ rec : LoopState → Option Code → Loop, rec = fun st pe => { state := st, pending := pe, fn, tmps := a.tmps, params := ps, assign, body, defers := w.heap.size } := ⟨_, rfl⟩
  obtain ⟨W1, hW1⟩ : ∃ W1, (w.alloc (.deferred (some []))).alloc (.loop (rec .ready none)) = W1 := ⟨_, rfl⟩
  have hL1 : W1.heap[w.heap.size + 1]? = some (.loop (rec .ready none)) := by
    rw [← hW1]; have := World.alloc_heap_new (w.alloc (.deferred (some []))) (.loop (rec .ready none)); rwa [World.size_alloc] at this
  have hK1 : W1.heap[w.heap.size]? = some (.deferred (some [])) := by
    rw [← hW1]; exact (Below.heap_alloc _ _ _ (by simp)).trans (World.alloc_heap_new w _)
  have hbw : Below w.heap.size w W1 := by rw [← hW1]; exact ((Below.refl _ w).alloc (Nat.le_refl _) _).alloc (by simp) _
  have hsz : W1.heap.size = w.heap.size + 2 := by rw [← hW1]; simp
  have keep1 : ∀ G', Keeps w.heap.size G' w W1 := fun G' => ⟨hbw.os, hbw.tape, hbw.output, hbw.size, fun b hb _ => hbw.block b hb⟩
  have keepP : ∀ (W : World) (o : Obj) (G' : Nat → Prop), ¬ G' (w.heap.size + 1) → Keeps w.heap.size G' W (W.putObj (w.heap.size + 1) o) := fun W o G' hn =>
    ⟨rfl, rfl, rfl, by simp, fun b _ hb => World.putObj_heap_other (by rintro rfl; rcases hb with h | h; omega; exact hn h)⟩
  refine ⟨w.heap.size + 1, [{ target := .collected w.heap.size, args := #[] }], W1, { target := .fn (.func gf) lb, args := #[.func (.yield (w.heap.size + 1)) #[] #[]] }, W1, gf,
    #[.func (.yield (w.heap.size + 1)) #[] #[]] ++ lb, W1, ?_, ?_, ?_, ?_, fun h => by simp [WF, Fence.wide] at h, ?_⟩
  · rw [← hW1, hrec]; exact run_enterLoop_outer _ _ _ _ _
  · simp only [resolve, hg]
    simp [go_sem]
  · intro f' hf'; trivial
  · simp [invoke, go_sem, eg]
  · refine (callsIn_wide.2 (hseq (w.heap.size + 1)
      (fun k G' W => ∃ G, (∀ b, G' b ↔ G b ∨ b = w.heap.size ∨ b = w.heap.size + 1) ∧ ¬ G w.heap.size ∧ ¬ G (w.heap.size + 1) ∧ I k G W ∧ W.heap[w.heap.size + 1]? = some (.loop (rec .ready none)) ∧ W.heap[w.heap.size]? = some (.deferred (some [])))
      (fun G' W => ∃ G c, (∀ b, G' b ↔ G b ∨ b = w.heap.size ∨ b = w.heap.size + 1) ∧ ¬ G w.heap.size ∧ ¬ G (w.heap.size + 1) ∧ X c G W ∧ W.heap[w.heap.size + 1]? = some (.loop (rec .done (some c))) ∧ W.heap[w.heap.size]? = some (.deferred (some [])))
      W1 (fun b => G b ∨ b = w.heap.size ∨ b = w.heap.size + 1) (by omega) (fun b hb => (hbw.block b (by have := hRb b hb; omega)).trans (hRel b hb)) ?g1 ?g2 ?g3 ?g4 ?g5 ?g6)).mono ?g7
    case g1 =>
      rintro b (hb | rfl | rfl) hr
      · exact hG b hb hr
      · have := hRb _ hr; omega
      · have := hRb _ hr; omega
    case g2 =>
      rintro k G' A C ⟨G, e1, e2, e3, hi, hl, hk⟩ hkp
      have hlA := (Array.getElem?_eq_some_iff.1 hl).1
      refine ⟨G, e1, e2, e3, hI k G A C hi ⟨hkp.os, hkp.tape, hkp.output, hkp.size, fun b hb hbg => hkp.same b hb (hbg.elim (fun h => .inl (by omega)) (fun h => .inr ((e1 b).2 (.inl h))))⟩, ?_, ?_⟩
      · rw [hkp.same _ hlA (.inl (by omega))]; exact hl
      · rw [hkp.same _ (by omega) (.inl (by omega))]; exact hk
    case g3 =>
      rintro G' A C ⟨G, c, e1, e2, e3, hi, hl, hk⟩ hkp
      have hlA := (Array.getElem?_eq_some_iff.1 hl).1
      refine ⟨G, c, e1, e2, e3, hX c G A C hi ⟨hkp.os, hkp.tape, hkp.output, hkp.size, fun b hb hbg => hkp.same b hb (hbg.elim (fun h => .inl (by omega)) (fun h => .inr ((e1 b).2 (.inl h))))⟩, ?_, ?_⟩
      · rw [hkp.same _ hlA (.inl (by omega))]; exact hl
      · rw [hkp.same _ (by omega) (.inl (by omega))]; exact hk
    case g4 =>
      rintro k G' A ⟨G, e1, e2, e3, hi, hl, hk⟩ b hb
      have hlA := (Array.getElem?_eq_some_iff.1 hl).1
      rcases (e1 b).1 hb with h | rfl | rfl
      · exact hlt k G A hi b h
      · omega
      · exact hlA
    case g5 =>
      rintro k G' W hkN ⟨G, e1, e2, e3, hi, hl, hk⟩
      have hltW : w.heap.size + 1 < W.heap.size := (Array.getElem?_eq_some_iff.1 hl).1
      have hy := run_yield (P := P) (args := vals k) hl (by rw [hrec]; exact hps k)
      rw [hrec] at hy
      refine ⟨fn, _, assign, body, hy, roundIn_of_wpIn hfn (wpIn_mono (hround _ k G W (by omega) hltW e3 hkN hi) ?_)⟩
      clear hy
      intro e a₁ W₁ hq
      cases e with
      | ret => exact hq.elim
      | exit id => exact hq.elim
      | goto t => exact hq.elim
      | panic ch => exact hq.elim
      | outgrown => exact hq.elim
      | normal =>
        obtain ⟨hb1, hbody⟩ := hq
        have hl' : W₁.heap[w.heap.size + 1]? = some (.loop (rec .ready none)) := (hb1.block _ hltW).trans hl
        have hk' : W₁.heap[w.heap.size]? = some (.deferred (some [])) := (hb1.block _ (by omega)).trans hk
        have hltW1 : w.heap.size + 1 < W₁.heap.size := (Array.getElem?_eq_some_iff.1 hl').1
        refine ⟨_, run_beginRound hl' (by rw [hrec]), ?_⟩
        have hl2 : (W₁.putObj (w.heap.size + 1) (.loop { rec .ready none with state := .busy })).heap[w.heap.size + 1]? = some (.loop { rec .ready none with state := .busy }) := World.putObj_heap_same hltW1
        have hk2 : (W₁.putObj (w.heap.size + 1) (.loop { rec .ready none with state := .busy })).heap[w.heap.size]? = some (.deferred (some [])) := (World.putObj_heap_other (by omega)).trans hk'
        refine wpIn_mono (hbody (W₁.putObj (w.heap.size + 1) (.loop { rec .ready none with state := .busy })) rfl rfl rfl (by simp) (fun b hb => World.putObj_heap_other hb)) ?_
        have fin : ∀ (jump : Option Code) (G2 : Nat → Prop) (W3 : World), Own W.heap.size G G2 (W₁.putObj (w.heap.size + 1) (.loop { rec .ready none with state := .busy })) W3 →
            (Instr.endRound (w.heap.size + 1) jump).run P W3 = .ok (.bool jump.isNone) (W3.putObj (w.heap.size + 1) (.loop (rec (if jump.isNone then .ready else .done) jump))) ∧
            (W3.putObj (w.heap.size + 1) (.loop (rec (if jump.isNone then .ready else .done) jump))).heap[w.heap.size + 1]? = some (.loop (rec (if jump.isNone then .ready else .done) jump)) ∧
            (W3.putObj (w.heap.size + 1) (.loop (rec (if jump.isNone then .ready else .done) jump))).heap[w.heap.size]? = some (.deferred (some [])) ∧
            Own W.heap.size G' (fun b => G2 b ∨ b = w.heap.size ∨ b = w.heap.size + 1) W (W3.putObj (w.heap.size + 1) (.loop (rec (if jump.isNone then .ready else .done) jump))) ∧ ¬ G2 w.heap.size ∧ ¬ G2 (w.heap.size + 1) := fun jump G2 W3 ho => by
          have hl3 : W3.heap[w.heap.size + 1]? = some (.loop { rec .ready none with state := .busy }) := (ho.same _ hltW e3).trans hl2
          have hk3 : W3.heap[w.heap.size]? = some (.deferred (some [])) := (ho.same _ (by omega) e2).trans hk2
          have n2 : ¬ G2 w.heap.size := fun h => by rcases ho.new _ h with h | h; exact e2 h; omega
          have n3 : ¬ G2 (w.heap.size + 1) := fun h => by rcases ho.new _ h with h | h; exact e3 h; omega
          have := run_endRound (P := P) jump hl3
          rw [hrec] at this ⊢
          refine ⟨this, World.putObj_heap_same (Array.getElem?_eq_some_iff.1 hl3).1, (World.putObj_heap_other (by omega)).trans hk3, ?_, n2, n3⟩
          refine ⟨ho.os.trans hb1.os, ho.tape.trans hb1.tape, ho.output.trans hb1.output, ?_, ?_, ?_, ?_⟩
          · have h1 := ho.size; have h2 := hb1.size; simp at h1 ⊢; omega
          · intro b hb; rcases (e1 b).1 hb with h | h; exact .inl (ho.old b h); exact .inr h
          · rintro b (hb | hb)
            · rcases ho.new b hb with h | h; exact .inl ((e1 b).2 (.inl h)); exact .inr h
            · exact .inl ((e1 b).2 (.inr hb))
          · intro b hb hg
            have hn : b ≠ w.heap.size + 1 := fun h => hg ((e1 b).2 (.inr (.inr h)))
            rw [World.putObj_heap_other hn, ho.same b hb (fun h => hg ((e1 b).2 (.inl h))), World.putObj_heap_other hn]
            exact hb1.block b hb
        rintro e a3 W3 hp
        cases e with
        | normal =>
          obtain ⟨G2, ho, hi3⟩ := hp
          obtain ⟨hr, hl4, hk4, hown, n2, n3⟩ := fin none G2 W3 ho
          exact ⟨_, _, hr, .inl ⟨rfl, _, hown, G2, fun b => Iff.rfl, n2, n3, hI _ G2 _ _ hi3 (keepP W3 _ G2 n3), hl4, hk4⟩⟩
        | ret =>
          obtain ⟨G2, ho, hi3⟩ := hp
          obtain ⟨hr, hl4, hk4, hown, n2, n3⟩ := fin (some .ret) G2 W3 ho
          exact ⟨_, _, hr, .inr ⟨rfl, _, hown, G2, .ret, fun b => Iff.rfl, n2, n3, hX _ G2 _ _ hi3 (keepP W3 _ G2 n3), hl4, hk4⟩⟩
        | exit id =>
          obtain ⟨G2, ho, hi3⟩ := hp
          obtain ⟨hr, hl4, hk4, hown, n2, n3⟩ := fin (some (.exit id)) G2 W3 ho
          exact ⟨_, _, hr, .inr ⟨rfl, _, hown, G2, .exit id, fun b => Iff.rfl, n2, n3, hX _ G2 _ _ hi3 (keepP W3 _ G2 n3), hl4, hk4⟩⟩
        | goto t =>
          obtain ⟨G2, ho, hi3⟩ := hp
          obtain ⟨hr, hl4, hk4, hown, n2, n3⟩ := fin (some (.goto t)) G2 W3 ho
          exact ⟨_, _, hr, .inr ⟨rfl, _, hown, G2, .goto t, fun b => Iff.rfl, n2, n3, hX _ G2 _ _ hi3 (keepP W3 _ G2 n3), hl4, hk4⟩⟩
        | panic ch => exact hp.elim
        | outgrown => exact hp.elim
    case g6 =>
      exact ⟨G, fun b => Iff.rfl, fun h => by have := hlt 0 G w h0 _ h; omega, fun h => by have := hlt 0 G w h0 _ h; omega, hI 0 G w W1 h0 (keep1 G), hL1, hK1⟩
    case g7 =>
      rintro e W2 ⟨⟨v, rfl⟩, G', (⟨G2, e1, n2, n3, hi, hl, hk⟩ | ⟨G2, c, e1, n2, n3, hi, hl, hk⟩)⟩
      · have hlA := (Array.getElem?_eq_some_iff.1 hl).1
        refine ⟨none, _, by have := run_endLoop (P := P) hl (by rw [hrec]; simp); rw [hrec] at this; exact this, hdone _ G2 _ (Nat.le_refl _) (by simp; omega) n2 (hI _ G2 _ _ hi (keepP W2 _ G2 n3)) ((World.putObj_heap_other (by omega)).trans hk)⟩
      · have hlA := (Array.getElem?_eq_some_iff.1 hl).1
        exact ⟨some c, _, by have := run_endLoop (P := P) hl (by rw [hrec]; simp); rw [hrec] at this; exact this, hstop _ c G2 _ (Nat.le_refl _) (by simp; omega) n2 (hX c G2 _ _ hi (keepP W2 _ G2 n3)) ((World.putObj_heap_other (by omega)).trans hk)⟩

section
variable {b : Frame} {a : Act} {k : List Item} {cs : List Frame} {w : World} {Q : Exit → Act → World → Prop}
theorem stepR_scope {c : Code} : step P (lone (b.atR a (.code (.scope c) :: k)) cs w) = .next (lone (b.atR a (.code c :: .inScope c :: k)) cs w) :=
  step_lone_go (by simp [stepG, stepG.exec, Frame.atR])
theorem stepR_inScope {c : Code} : step P (lone (b.atR a (.inScope c :: k)) cs w) = .next (lone (b.atR a k) cs w) :=
  step_lone_go (by simp [stepG, stepG.exec, Frame.atR])
theorem wpIn_scope {c : Code} (h : c.wpIn WF 0 P (Exit.noGoto Q) a w) : (Code.scope c).wpIn WF 0 P Q a w := by
  intro b k cs hro hb hr
  have h0 : (lone (b.atR a (.code (.scope c) :: k)) cs w).fenced P WF := fenced_calm hb hr rfl
  obtain ⟨e, a₁, w₁, hq, harr⟩ := h b (.inScope c :: k) cs hro hb hr
  cases e with
  | normal => exact ⟨.normal, a₁, w₁, hq, .head h0 stepR_scope (StepsIn.trans harr (.one (fenced_calm hb hr rfl) stepR_inScope))⟩
  | exit id => exact ⟨.exit id, a₁, w₁, hq, fun k' hk => .head h0 stepR_scope (harr.1 k' (by simp [exitTo, hk])), fun hr' => by rw [hro] at hr'; simp [WF, Fence.wide] at hr'⟩
  | goto l => exact hq.elim
  | ret => exact ⟨_, a₁, w₁, hq, .of_steps (.one h0 stepR_scope) harr⟩
  | panic ch => exact ⟨_, a₁, w₁, hq, .of_steps (.one h0 stepR_scope) harr⟩
  | outgrown => exact ⟨_, a₁, w₁, hq, .of_steps (.one h0 stepR_scope) harr⟩
end

/-- the loop owns one box -/
def OneBox (n0 : Nat) (w : World) (c0 : Nat) (t : TypeId) (v : Value) (G : Nat → Prop) (W : World) : Prop :=
  G = (fun b => b = c0) ∧ W.heap[c0]? = some (.cells #[v] t (0, 0)) ∧ Below n0 w W

theorem OneBox.stable {n0 : Nat} {w : World} {c0 : Nat} {t : TypeId} {v : Value} {B : Nat} (h1 : n0 ≤ B) (h2 : n0 ≤ w.heap.size) : Stable B (OneBox n0 w c0 t v) := by
  rintro G A C ⟨rfl, hc, hb⟩ hk
  have hlt := (Array.getElem?_eq_some_iff.1 hc).1
  exact ⟨rfl, (hk.same c0 hlt (.inr rfl)).trans hc, ⟨hk.os.trans hb.os, hk.tape.trans hb.tape, hk.output.trans hb.output, Nat.le_trans hb.size hk.size, fun b hbl => (hk.same b (by have := hb.size; omega) (.inl (by omega))).trans (hb.block b hbl)⟩⟩
theorem OneBox.lt {n0 : Nat} {w : World} {c0 : Nat} {t : TypeId} {v : Value} {G : Nat → Prop} {W : World} (h : OneBox n0 w c0 t v G W) : ∀ b, G b → b < W.heap.size := by
  obtain ⟨rfl, hc, hb⟩ := h
  rintro b rfl
  exact (Array.getElem?_eq_some_iff.1 hc).1
/-- a store into the box -/
theorem OneBox.store {n0 : Nat} {w : World} {c0 : Nat} {t : TypeId} {v : Value} {G : Nat → Prop} {W : World} (h : OneBox n0 w c0 t v G W) (hn : n0 ≤ c0) (u : Value) : OneBox n0 w c0 t u G (W.setCell ⟨c0, 0, none⟩ u) :=
  ⟨h.1, heap_setCell_same W c0 0 #[v] t u h.2.1, h.2.2.setCell (p := ⟨c0, 0, none⟩) hn u⟩
theorem OneBox.grow {n0 : Nat} {w : World} {c0 : Nat} {t : TypeId} {v : Value} {G : Nat → Prop} {W W' : World} (h : OneBox n0 w c0 t v G W) (hb : Below W.heap.size W W') (hn : n0 ≤ w.heap.size) : OneBox n0 w c0 t v G W' :=
  ⟨h.1, (hb.block c0 (Array.getElem?_eq_some_iff.1 h.2.1).1).trans h.2.1, h.2.2.trans (hb.mono (Nat.le_trans hn h.2.2.size))⟩
/-- behind the record's turn -/
theorem OneBox.mid {n0 : Nat} {w : World} {c0 : Nat} {t : TypeId} {v : Value} {G : Nat → Prop} {W W1 W2 : World} {l : Nat} (h : OneBox n0 w c0 t v G W) (hb : Below W.heap.size W W1) (e1 : W2.os = W1.os) (e2 : W2.tape = W1.tape) (e3 : W2.output = W1.output)
    (e4 : W2.heap.size = W1.heap.size) (e5 : ∀ b, b ≠ l → W2.heap[b]? = W1.heap[b]?) (hl : ¬ G l) (hl2 : n0 ≤ l) (hn : n0 ≤ w.heap.size) : OneBox n0 w c0 t v G W2 := by
  obtain ⟨h1, h2, h3⟩ := h.grow hb hn
  have hcl : c0 ≠ l := by rintro rfl; exact hl (by rw [h1])
  exact ⟨h1, (e5 c0 hcl).trans h2, ⟨e1.trans h3.os, e2.trans h3.tape, e3.trans h3.output, by have := h3.size; omega, fun b hb => (e5 b (by omega)).trans (h3.block b hb)⟩⟩

end Go.Proofs.Ytlagablcopmhkaa
