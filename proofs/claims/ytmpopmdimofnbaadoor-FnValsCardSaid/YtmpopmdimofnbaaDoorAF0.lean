import Derived.WalkKit
import Derived.Orders
import Derived.OwnWalk
import Derived.Laws.Rows
import Derived.Lib.LaidTab
import Derived.Lib.ItoaNum
/-! Abstract values and states. -/
namespace Go.AF
set_option linter.unusedVariables false

inductive AV where
  | any
  | v (x : Value)
  | nil
  | ro (rows : List (List AV))
  | rp (cs : List AV)
  | sl (b sz off len : Nat)
  | pt (b sz i j : Nat)
  | agg (cs : List AV)
  | tup (cs : List AV)
  | fn (f : Nat) (cs : List AV)
  deriving Inhabited

/-- What is no memory. -/
def Rest (W W' : World) : Prop := W'.os = W.os ∧ W'.tape = W.tape ∧ W'.output = W.output
theorem Rest.refl (W : World) : Rest W W := ⟨rfl, rfl, rfl⟩
theorem Rest.trans {A B C : World} (h : Rest A B) (k : Rest B C) : Rest A C := ⟨k.1.trans h.1, k.2.1.trans h.2.1, k.2.2.trans h.2.2⟩

/-- Sizes, types and frozen ranges of rows of cells stay. -/
structure Grow (W W' : World) : Prop where
  size : W.heap.size ≤ W'.heap.size
  blk : ∀ (b : Nat) (arr : Array Value) (ty : TypeId) (fz : Nat × Nat), W.heap[b]? = some (Obj.cells arr ty fz) → ∃ arr' : Array Value, W'.heap[b]? = some (Obj.cells arr' ty fz) ∧ arr'.size = arr.size
  rest : Rest W W'

theorem Grow.refl (W : World) : Grow W W := ⟨Nat.le_refl _, fun _ arr _ _ h => ⟨arr, h, rfl⟩, Rest.refl W⟩
theorem Grow.trans {A B C : World} (h : Grow A B) (k : Grow B C) : Grow A C := ⟨Nat.le_trans h.1 k.1, fun b arr ty fz hb => by
  obtain ⟨a1, h1, e1⟩ := h.2 b arr ty fz hb
  obtain ⟨a2, h2, e2⟩ := k.2 b a1 ty fz h1
  exact ⟨a2, h2, e2.trans e1⟩, h.rest.trans k.rest⟩

inductive Rep (W : World) (S : Nat → Prop) : AV → Value → Prop
  | any (x : Value) : Rep W S .any x
  | v (x : Value) : Rep W S (.v x) x
  | nil : Rep W S .nil (.slice none 0 0)
  | roNil (A : Option Addr) (c : Nat) : Rep W S (.ro []) (.slice A 0 c)
  | ro (b o c sz : Nat) (rows : List (List AV)) (us : Nat → Nat → Value) (hc : rows.length ≤ c) (hS : S b) (hr : ∀ row ∈ rows, row.length = sz)
      (hu : ∀ i j : Nat, i < rows.length → j < sz → W.cell? ⟨b, o + (i * sz + j), none⟩ = some (us i j))
      (hx : ∀ (i : Nat) (row : List AV), rows[i]? = some row → ∀ (j : Nat) (x : AV), row[j]? = some x → Rep W S x (us i j)) : Rep W S (.ro rows) (.slice (some ⟨b, o, none⟩) rows.length c)
  | rp (b o : Nat) (cs : List AV) (us : Nat → Value) (hS : S b) (hu : ∀ j, j < cs.length → W.cell? ⟨b, o + j, none⟩ = some (us j))
      (hx : ∀ (j : Nat) (x : AV), cs[j]? = some x → Rep W S x (us j)) : Rep W S (.rp cs) (.pointer (some ⟨b, o, none⟩))
  | sl (b sz off len o c : Nat) (hl : len ≤ c) (ho : 0 < c → o = off * sz) (arr : Array Value) (ty : TypeId) (fz : Nat × Nat) (hb : W.heap[b]? = some (.cells arr ty fz)) (ha : (off + c) * sz ≤ arr.size) :
      Rep W S (.sl b sz off len) (.slice (some ⟨b, o, none⟩) len c)
  | pt (b sz i j : Nat) : Rep W S (.pt b sz i j) (.pointer (some ⟨b, i * sz + j, none⟩))
  | agg (cs : List AV) (vs : List Value) (hl : cs.length = vs.length) (hx : ∀ (j : Nat) (x : AV) (u : Value), cs[j]? = some x → vs[j]? = some u → Rep W S x u) : Rep W S (.agg cs) (.agg vs.toArray)
  | tup (cs : List AV) (vs : List Value) (hl : cs.length = vs.length) (hx : ∀ (j : Nat) (x : AV) (u : Value), cs[j]? = some x → vs[j]? = some u → Rep W S x u) : Rep W S (.tup cs) (.tuple vs.toArray)
  | fn (f : Nat) (cs : List AV) (vs : List Value) (hl : cs.length = vs.length) (hx : ∀ (j : Nat) (x : AV) (u : Value), cs[j]? = some x → vs[j]? = some u → Rep W S x u) : Rep W S (.fn f cs) (.func (.func f) #[] vs.toArray)

theorem cell_of_block {W W' : World} {b : Nat} (h : W'.heap[b]? = W.heap[b]?) (o : Nat) (s : Option Nat) : W'.cell? ⟨b, o, s⟩ = W.cell? ⟨b, o, s⟩ := by
  simp only [World.cell?, h]

theorem Rep.mono {W W' : World} {S S' : Nat → Prop} {x : AV} {u : Value} (h : Rep W S x u) (hS : ∀ b, S b → S' b) (hb : ∀ b, S b → W'.heap[b]? = W.heap[b]?) (hg : Grow W W') : Rep W' S' x u := by
  induction h with
  | any x => exact .any x
  | v x => exact .v x
  | nil => exact .nil
  | roNil A c => exact .roNil A c
  | ro b o c sz rows us hc hS' hr hu hx ih => exact .ro b o c sz rows us hc (hS b hS') hr (fun i j hi hj => (cell_of_block (hb b hS') _ _).trans (hu i j hi hj)) ih
  | rp b o cs us hS' hu hx ih => exact .rp b o cs us (hS b hS') (fun j hj => (cell_of_block (hb b hS') _ _).trans (hu j hj)) ih
  | sl b sz off len o c hl ho arr ty fz hb' ha =>
    obtain ⟨arr', h1, h2⟩ := hg.2 b arr ty fz hb'
    exact .sl b sz off len o c hl ho arr' ty fz h1 (by omega)
  | pt b sz i j => exact .pt b sz i j
  | agg cs vs hl hx ih => exact .agg cs vs hl ih
  | tup cs vs hl hx ih => exact .tup cs vs hl ih
  | fn f cs vs hl hx ih => exact .fn f cs vs hl ih

/-- What may lie in a cell. -/
def AV.cell : AV → Bool
  | .v x => x.oneCell'
  | .nil | .ro _ | .rp _ | .sl .. | .pt .. | .fn .. => true
  | .any | .agg _ | .tup _ => false

theorem Rep.cell {W : World} {S : Nat → Prop} {x : AV} {u : Value} (h : Rep W S x u) (hc : x.cell = true) : u.oneCell' = true := by
  cases h <;> first | exact hc | rfl | (simp [AV.cell] at hc)

structure Blk where
  ty : TypeId
  sz : Nat
  rows : List (List AV)

/-- Block b is what blk says. -/
def BlkRep (W : World) (S : Nat → Prop) (b : Nat) (k : Blk) : Prop :=
  ∃ arr : Array Value, W.heap[b]? = some (Obj.cells arr k.ty (0, 0)) ∧ (∀ row ∈ k.rows, row.length = k.sz) ∧ k.rows.length * k.sz ≤ arr.size ∧
    ∀ (i : Nat) (row : List AV), k.rows[i]? = some row → ∀ (j : Nat) (x : AV), row[j]? = some x → ∃ u : Value, arr[i * k.sz + j]? = some u ∧ Rep W S x u ∧ u.oneCell' = true

abbrev Heap := Nat → Option Blk
def Heap.upd (H : Heap) (b : Nat) (k : Option Blk) : Heap := fun c => if c = b then k else H c
theorem Heap.upd_self (H : Heap) (b : Nat) (k : Option Blk) : H.upd b k b = k := by simp [Heap.upd]
theorem Heap.upd_ne (H : Heap) {b c : Nat} (k : Option Blk) (h : c ≠ b) : H.upd b k c = H c := by simp [Heap.upd, h]

structure HeapOk (W : World) (S : Nat → Prop) (H : Heap) : Prop where
  sep : ∀ b k, H b = some k → ¬ S b
  low : ∀ b, S b → b < W.heap.size
  blk : ∀ b k, H b = some k → BlkRep W S b k

theorem BlkRep.lt {W : World} {S : Nat → Prop} {b : Nat} {k : Blk} (h : BlkRep W S b k) : b < W.heap.size := by
  obtain ⟨arr, h, _⟩ := h
  exact (Array.getElem?_eq_some_iff.1 h).1

theorem BlkRep.mono {W W' : World} {S S' : Nat → Prop} {b : Nat} {k : Blk} (h : BlkRep W S b k) (hS : ∀ b, S b → S' b) (hb : ∀ b, S b → W'.heap[b]? = W.heap[b]?) (hg : Grow W W') (hbb : W'.heap[b]? = W.heap[b]?) : BlkRep W' S' b k := by
  obtain ⟨arr, h1, h2, h3, h4⟩ := h
  refine ⟨arr, hbb.trans h1, h2, h3, fun i row hi j x hj => ?_⟩
  obtain ⟨u, hu, hr, ho⟩ := h4 i row hi j x hj
  exact ⟨u, hu, hr.mono hS hb hg, ho⟩

structure St where
  N : Nat
  n : Nat
  t : Nat → AV
  H : Heap

/-- Where a call began: how much memory there was, what was read only, what it was handed. -/
structure Ctx0 where
  W : World
  S : Nat → Prop
  D : Nat → Prop

/-- The library's table, where the program has it: it is only read. -/
def Tabs (P : Program) (W : World) (S : Nat → Prop) : Prop :=
  ∀ g, P.globalNamed "internal/strconv.uint64pow10" = some g → S g ∧ Lib.TabIs P W "internal/strconv.uint64pow10" .u64 Lib.pow10Tab
theorem Tabs.mono {P : Program} {W W' : World} {S S' : Nat → Prop} (h : Tabs P W S) (hS : ∀ b, S b → S' b) (hb : ∀ b, S b → W'.heap[b]? = W.heap[b]?) : Tabs P W' S' := by
  intro g hg
  obtain ⟨h1, h2⟩ := h g hg
  refine ⟨hS g h1, ?_⟩
  unfold Lib.TabIs World.var? at h2 ⊢
  simp only [hg, Option.bind_some, hb g h1] at h2 ⊢
  exact h2

structure Ctx (P : Program) extends Ctx0 where
  tab : Tabs P W S
  sep : ∀ b, S b → b < W.heap.size ∧ ¬ D b

structure Frm (c : Ctx0) (w : World) (H : Heap) : Prop where
  size : c.W.heap.size ≤ w.heap.size
  old : ∀ b, b < c.W.heap.size → ¬ c.D b → w.heap[b]? = c.W.heap[b]?
  dom : ∀ b k, H b = some k → c.D b ∨ c.W.heap.size ≤ b
  grow : Grow c.W w

/-- The relation between what is told and the machine; S: the blocks that are only read. -/
structure Rel {P : Program} (c : Ctx P) (S : Nat → Prop) (s : St) (a : Act) (w : World) : Prop where
  base : s.N = c.W.heap.size ∧ ∀ b, c.D b → b < c.W.heap.size
  defers : a.defers = []
  size : a.tmps.size = s.n
  frm : Frm c.toCtx0 w s.H
  low : ∀ b, c.S b → S b
  high : ∀ b, S b → c.S b ∨ c.W.heap.size ≤ b
  reps : ∀ i, i < s.n → Rep w S (s.t i) (a.tmps.getD i undef)
  ok : HeapOk w S s.H

theorem Rel.tabs {P : Program} {c : Ctx P} {S : Nat → Prop} {s : St} {a : Act} {w : World} (h : Rel c S s a w) : Tabs P w S :=
  c.tab.mono h.low fun b hb => h.frm.old b (c.sep b hb).1 (c.sep b hb).2

def constAV : Value → AV
  | .slice none 0 0 => .nil
  | x => .v x
theorem rep_const {W : World} {S : Nat → Prop} (x : Value) : Rep W S (constAV x) x := by
  unfold constAV
  split
  · exact .nil
  · exact .v _

def St.get (s : St) : Operand → AV
  | .tmp i => if i < s.n then s.t i else .any
  | .const x => constAV x
  | .func f => .v (.func (.func f) #[] #[])
  | .global _ => .any

def St.put (s : St) (d : Option Tmp) (x : AV) : St :=
  match d with
  | some d => { s with t := fun i => if i = d then x else s.t i }
  | none => s

/-- What goes on behind an operation: its value, and the memory. -/
def St.out (s : St) (d : Option Tmp) (K : St → Prop) : AV → Heap → Prop := fun x H => K ({ s with H := H }.put d x)

theorem St.put_n (s : St) (d : Option Tmp) (x : AV) : (s.put d x).n = s.n := by cases d <;> rfl
theorem St.put_N (s : St) (d : Option Tmp) (x : AV) : (s.put d x).N = s.N := by cases d <;> rfl
theorem St.put_H (s : St) (d : Option Tmp) (x : AV) : (s.put d x).H = s.H := by cases d <;> rfl

theorem Rel.get {P : Program} {c : Ctx P} {S : Nat → Prop} {s : St} {a : Act} {w : World} (h : Rel c S s a w) (x : Operand) : Rep w S (s.get x) (a.eval x) := by
  cases x with
  | tmp i =>
    simp only [St.get, Act.eval]
    split
    · exact h.reps i ‹_›
    · exact .any _
  | const v => exact rep_const v
  | global g => exact .any _
  | func f => exact .v _

theorem getD_put (a : Act) (d i : Nat) (v : Value) (hd : d < a.tmps.size) : (a.put (some d) v).tmps.getD i undef = if i = d then v else a.tmps.getD i undef := by
  simp only [Act.put, Array.getD_eq_getD_getElem?, Array.getElem?_setIfInBounds]
  by_cases h : d = i
  · subst h; simp [hd]
  · simp [h, Ne.symm h]

/-- A destination is one of the frame's. -/
def St.fits (s : St) (d : Option Tmp) : Prop := match d with | some d => d < s.n | none => True
instance (s : St) (d : Option Tmp) : Decidable (s.fits d) := by unfold St.fits; cases d <;> infer_instance

theorem reps_put {s : St} {a : Act} {w : World} {S : Nat → Prop} {d : Option Tmp} {x : AV} {u : Value} (hn : a.tmps.size = s.n) (hr : ∀ i, i < s.n → Rep w S (s.t i) (a.tmps.getD i undef)) (hd : s.fits d) (hx : Rep w S x u) :
    ∀ i, i < (s.put d x).n → Rep w S ((s.put d x).t i) ((a.put d u).tmps.getD i undef) := by
  cases d with
  | none => exact hr
  | some d =>
    intro i hi
    rw [getD_put a d i u (by rw [hn]; exact hd)]
    simp only [St.put]
    split
    · exact hx
    · exact hr i hi

theorem size_put (a : Act) (d : Option Tmp) (u : Value) : (a.put d u).tmps.size = a.tmps.size := by cases d <;> simp [Act.put]
theorem defers_put (a : Act) (d : Option Tmp) (u : Value) : (a.put d u).defers = a.defers := by cases d <;> rfl

/-- A value is put; the world stays. -/
theorem Rel.put {P : Program} {c : Ctx P} {S : Nat → Prop} {s : St} {a : Act} {w : World} (h : Rel c S s a w) {d : Option Tmp} {x : AV} {u : Value} (hd : s.fits d) (hx : Rep w S x u) : Rel c S (s.put d x) (a.put d u) w :=
  ⟨by rw [St.put_N]; exact h.base, (defers_put a d u).trans h.defers, by rw [size_put, h.size, St.put_n], by rw [St.put_H]; exact h.frm, h.low, h.high, reps_put h.size h.reps hd hx, by rw [St.put_H]; exact h.ok⟩
end Go.AF
