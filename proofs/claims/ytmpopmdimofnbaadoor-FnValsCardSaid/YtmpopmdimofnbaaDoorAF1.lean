import Derived.Test.YtmpopmdimofnbaaDoorAF0
import Derived.Laws.CopyRow
import Derived.Laws.Tables
/-! Types, and what becomes of the relation at a new block and at a store. -/
namespace Go.AF
set_option linter.unusedVariables false

theorem cells_one {x : Value} (h : x.oneCell' = true) : x.cells = #[x] := by cases x <;> first | rfl | (simp [Value.oneCell'] at h)

def constCell : Value → AV
  | .slice none 0 0 => .nil
  | x => .v x

/-- A type, as far as it is wanted. -/
inductive TK where
  | int (k : IntKind) | bool | str | slice (e : Nat) | ptr (e : Nat) | struct (fs : List (Nat × Nat × Nat)) | array (n e : Nat) | other
structure TI where
  size : Nat
  bytes : Nat
  zero : List AV
  kind : TK
def TK.agg : TK → Bool
  | .struct _ | .array .. => true
  | _ => false
def tkOf (P : Program) : TypeDesc → TK
  | .int k => .int k
  | .bool => .bool
  | .string => .str
  | .slice e => .slice e
  | .pointer e => .ptr e
  | .struct fs => .struct (fs.toList.map fun f => (f.offset, f.type, P.cellsOf f.type))
  | .array n e => .array n e
  | _ => .other
def tiOf (P : Program) (t : Nat) : Option TI :=
  match P.info? t, P.underlying t with
  | some i, some d => match i.zero with
    | some z => some { size := i.size, bytes := i.bytes, zero := z.cells.toList.map constCell, kind := tkOf P d }
    | none => none
  | _, _ => none

theorem tiOf_spec {P : Program} {t : Nat} {ti : TI} (h : tiOf P t = some ti) : ∃ i d z, P.info? t = some i ∧ P.underlying t = some d ∧ i.zero = some z ∧ ti.size = i.size ∧ ti.bytes = i.bytes ∧ ti.zero = z.cells.toList.map constCell ∧ ti.kind = tkOf P d := by
  unfold tiOf at h
  split at h
  · split at h
    · cases h
      exact ⟨_, _, _, ‹_›, ‹_›, ‹_›, rfl, rfl, rfl, rfl⟩
    · cases h
  · cases h

section
variable {P : Program} {w : World} {t : Nat} {ti : TI}
theorem ti_size (h : tiOf P t = some ti) : (sizeOf t).run P w = .ok ti.size w := by
  obtain ⟨i, d, z, h1, h2, h3, h4, h5, h6, h7⟩ := tiOf_spec h
  simp [sizeOf, typeInfo, h1, h4]
theorem ti_info (h : tiOf P t = some ti) : ∃ i, (typeInfo t).run P w = .ok i w ∧ i.size = ti.size ∧ i.bytes = ti.bytes := by
  obtain ⟨i, d, z, h1, h2, h3, h4, h5, h6, h7⟩ := tiOf_spec h
  exact ⟨i, by simp [typeInfo, h1], h4.symm, h5.symm⟩
theorem ti_under (h : tiOf P t = some ti) : ∃ d, (underlying t).run P w = .ok d w ∧ P.underlying t = some d ∧ ti.kind = tkOf P d := by
  obtain ⟨i, d, z, h1, h2, h3, h4, h5, h6, h7⟩ := tiOf_spec h
  exact ⟨d, by simp [underlying, h2], h2, h7⟩
theorem ti_slice {e : Nat} (h : tiOf P t = some ti) (hk : ti.kind = .slice e) : P.underlying t = some (.slice e) := by
  obtain ⟨i, d, z, h1, h2, h3, h4, h5, h6, h7⟩ := tiOf_spec h
  rw [hk] at h7
  cases d <;> simp [tkOf] at h7
  subst h7
  exact h2
theorem ti_agg (h : tiOf P t = some ti) : (isAgg t).run P w = .ok ti.kind.agg w := by
  obtain ⟨i, d, z, h1, h2, h3, h4, h5, h6, h7⟩ := tiOf_spec h
  rw [h7]
  cases d <;> simp [isAgg, underlying, h2, tkOf, TK.agg]
theorem ti_zero (h : tiOf P t = some ti) : ∃ z : Value, (zeroValue t).run P w = .ok z w ∧ ti.zero = z.cells.toList.map constCell := by
  obtain ⟨i, d, z, h1, h2, h3, h4, h5, h6, h7⟩ := tiOf_spec h
  exact ⟨z, by simp [zeroValue, typeInfo, h1, h3], h6⟩
end

theorem rep_constCell {W : World} {S : Nat → Prop} (x : Value) : Rep W S (constCell x) x := by
  unfold constCell
  split
  · exact .nil
  · exact .v _
theorem constCell_cell {x : Value} (h : (constCell x).cell = true) : x.oneCell' = true := (rep_constCell (W := default) (S := fun _ => False) x).cell h

/-! A new block. -/
theorem grow_alloc (w : World) (o : Obj) : Grow w (w.alloc o) := by
  refine ⟨by show w.heap.size ≤ (w.heap.push o).size; rw [Array.size_push]; omega, fun b arr ty fz h => ⟨arr, ?_, rfl⟩, ⟨rfl, rfl, rfl⟩⟩
  have hb := (Array.getElem?_eq_some_iff.1 h).1
  simp only [World.alloc, Array.getElem?_push]
  rw [if_neg (by omega)]
  exact h
theorem alloc_old (w : World) (o : Obj) {b : Nat} (h : b < w.heap.size) : (w.alloc o).heap[b]? = w.heap[b]? := by
  simp only [World.alloc, Array.getElem?_push]
  rw [if_neg (by omega)]
theorem alloc_new (w : World) (o : Obj) : (w.alloc o).heap[w.heap.size]? = some o := by
  show (w.heap.push o)[w.heap.size]? = some o
  rw [Array.getElem?_push, if_pos rfl]
theorem alloc_size (w : World) (o : Obj) : (w.alloc o).heap.size = w.heap.size + 1 := Array.size_push ..

/-- Rows of cells as one list. -/
def flat (rows : List (List AV)) : List AV := rows.flatten
theorem flat_get : ∀ (rows : List (List AV)) (sz : Nat) (hr : ∀ row ∈ rows, row.length = sz) (i : Nat) (row : List AV), rows[i]? = some row → ∀ j x, row[j]? = some x → (flat rows)[i * sz + j]? = some x := by
  intro rows
  induction rows with
  | nil => intro sz hr i row h; simp at h
  | cons r rest ih =>
    intro sz hr i row h j x hj
    have hl : r.length = sz := hr r (by simp)
    have hjl : j < sz := by
      have := (List.getElem?_eq_some_iff.1 hj).1
      cases i with
      | zero => simp at h; subst h; omega
      | succ i => have := hr row (List.mem_of_getElem? h); omega
    cases i with
    | zero =>
      simp at h
      subst h
      simp only [flat, List.flatten_cons, Nat.zero_mul, Nat.zero_add]
      rw [List.getElem?_append_left (by omega)]
      exact hj
    | succ i =>
      have := ih sz (fun row hm => hr row (by simp [hm])) i row (by simpa using h) j x hj
      simp only [flat, List.flatten_cons]
      rw [List.getElem?_append_right (by rw [hl, Nat.succ_mul]; omega)]
      rw [show (i + 1) * sz + j - r.length = i * sz + j by rw [hl, Nat.succ_mul]; omega]
      exact this
theorem flat_length : ∀ (rows : List (List AV)) (sz : Nat) (hr : ∀ row ∈ rows, row.length = sz), (flat rows).length = rows.length * sz := by
  intro rows
  induction rows with
  | nil => intro sz hr; simp [flat]
  | cons r rest ih =>
    intro sz hr
    have h1 := ih sz (fun row hm => hr row (by simp [hm]))
    have h2 := hr r (by simp)
    simp only [flat, List.flatten_cons, List.length_append, List.length_cons] at h1 ⊢
    rw [h1, h2, Nat.succ_mul]
    omega

/-- Values that lie one behind the other are what is told of them. -/
def Cells (W : World) (S : Nat → Prop) (xs : List AV) (us : List Value) : Prop := us.length = xs.length ∧ ∀ (j : Nat) (x : AV), xs[j]? = some x → ∃ u : Value, us[j]? = some u ∧ Rep W S x u ∧ u.oneCell' = true

theorem Cells.mono {W W' : World} {S S' : Nat → Prop} {xs : List AV} {us : List Value} (h : Cells W S xs us) (hS : ∀ b, S b → S' b) (hb : ∀ b, S b → W'.heap[b]? = W.heap[b]?) (hg : Grow W W') : Cells W' S' xs us :=
  ⟨h.1, fun j x hj => by obtain ⟨u, h1, h2, h3⟩ := h.2 j x hj; exact ⟨u, h1, h2.mono hS hb hg, h3⟩⟩
theorem Cells.one {W : World} {S : Nat → Prop} {xs : List AV} {us : List Value} (h : Cells W S xs us) : ∀ u ∈ us, u.oneCell' = true := by
  intro u hu
  obtain ⟨j, hj, rfl⟩ := List.mem_iff_getElem.1 hu
  obtain ⟨u', h1, _, h3⟩ := h.2 j (xs[j]'(by rw [← h.1]; exact hj)) (List.getElem?_eq_getElem _)
  rw [List.getElem?_eq_getElem hj] at h1
  cases h1
  exact h3

theorem blk_of_cells {W : World} {S : Nat → Prop} {b : Nat} {arr : Array Value} {ty sz : Nat} {rows : List (List AV)} {rest : List Value} (hb : W.heap[b]? = some (.cells arr ty (0, 0))) (hr : ∀ row ∈ rows, row.length = sz)
    {us : List Value} (hc : Cells W S (flat rows) us) (ha : arr.toList = us ++ rest) : BlkRep W S b ⟨ty, sz, rows⟩ := by
  have hl : us.length = rows.length * sz := by rw [hc.1, flat_length rows sz hr]
  have hs : arr.size = us.length + rest.length := by rw [← Array.length_toList, ha, List.length_append]
  refine ⟨arr, hb, hr, by show rows.length * sz ≤ arr.size; omega, fun i row hi j x hj => ?_⟩
  have hf := flat_get rows sz hr i row hi j x hj
  obtain ⟨u, h1, h2, h3⟩ := hc.2 _ x hf
  refine ⟨u, ?_, h2, h3⟩
  have hlt := (List.getElem?_eq_some_iff.1 h1).1
  rw [← Array.getElem?_toList, ha, List.getElem?_append_left hlt]
  exact h1

theorem Rel.alloc {P : Program} {c : Ctx P} {S : Nat → Prop} {s : St} {a : Act} {w : World} (h : Rel c S s a w) {arr : Array Value} {ty sz : Nat} {rows : List (List AV)} {us rest : List Value} (hr : ∀ row ∈ rows, row.length = sz) (ha : arr.toList = us ++ rest)
    (hc : Cells w S (flat rows) us) :
    s.H w.heap.size = none ∧ s.N ≤ w.heap.size ∧ Rel c S { s with H := s.H.upd w.heap.size (some ⟨ty, sz, rows⟩) } a (w.alloc (.cells arr ty)) := by
  obtain ⟨hb, h1, h2, h3, e1, e2, e3, e4⟩ := h
  have hn : s.H w.heap.size = none := by
    cases hq : s.H w.heap.size with
    | none => rfl
    | some k => exact absurd (e4.blk _ k hq).lt (Nat.lt_irrefl _)
  have hg := grow_alloc w (.cells arr ty)
  have hold : ∀ b, S b → (w.alloc (.cells arr ty)).heap[b]? = w.heap[b]? := fun b hb => alloc_old w _ (e4.low b hb)
  refine ⟨hn, by rw [hb.1]; exact h3.size, hb, h1, h2, ⟨?_, ?_, ?_, h3.grow.trans hg⟩, e1, e2, fun i hi => (e3 i hi).mono (fun _ h => h) hold hg, ?_, ?_, ?_⟩
  · rw [alloc_size]; exact Nat.le_succ_of_le h3.size
  · intro b hb hd
    rw [alloc_old w _ (Nat.lt_of_lt_of_le hb h3.size)]
    exact h3.old b hb hd
  · intro b k hk
    simp only [Heap.upd] at hk
    split at hk
    · subst_vars; exact .inr h3.size
    · exact h3.dom b k hk
  · intro b k hk hs
    simp only [Heap.upd] at hk
    split at hk
    · subst_vars; exact absurd (e4.low _ hs) (Nat.lt_irrefl _)
    · exact e4.sep b k hk hs
  · intro b hb
    rw [alloc_size]
    exact Nat.lt_succ_of_lt (e4.low b hb)
  · intro b k hk
    simp only [Heap.upd] at hk
    split at hk
    · subst_vars
      cases hk
      exact blk_of_cells (alloc_new w _) hr (hc.mono (fun _ h => h) hold hg) ha
    · exact (e4.blk b k hk).mono (fun _ h => h) hold hg (alloc_old w _ (e4.blk b k hk).lt)

/-! A store into an own block. -/
theorem setRow_self' {w : World} {g : Nat} {cur new : Array Value} {t : TypeId} {fr : Nat × Nat} (h : w.heap[g]? = some (.cells cur t fr)) : (w.setRow g new).heap[g]? = some (.cells new t fr) := by
  simp only [World.setRow, Array.getElem?_modify, if_true, h, Option.map_some]
theorem setRow_ne' {w : World} {g b : Nat} {new : Array Value} (h : b ≠ g) : (w.setRow g new).heap[b]? = w.heap[b]? := by
  simp only [World.setRow, Array.getElem?_modify, if_neg (Ne.symm h)]
theorem setRow_size' {w : World} {g : Nat} {new : Array Value} : (w.setRow g new).heap.size = w.heap.size := by simp [World.setRow]
theorem grow_setRow {w : World} {g : Nat} {cur new : Array Value} {t : TypeId} {fr : Nat × Nat} (h : w.heap[g]? = some (.cells cur t fr)) (hs : new.size = cur.size) : Grow w (w.setRow g new) := by
  refine ⟨by rw [setRow_size']; exact Nat.le_refl _, fun b arr ty fz hb => ?_, ⟨rfl, rfl, rfl⟩⟩
  by_cases hbg : b = g
  · subst hbg
    rw [h] at hb
    cases hb
    exact ⟨new, setRow_self' h, hs⟩
  · exact ⟨arr, (setRow_ne' hbg).trans hb, rfl⟩

theorem Rel.setRow {P : Program} {c : Ctx P} {S : Nat → Prop} {s : St} {a : Act} {w : World} (h : Rel c S s a w) {b : Nat} {k : Blk} (hk : s.H b = some k) {cur new : Array Value} (hcur : w.heap[b]? = some (.cells cur k.ty (0, 0))) (hs : new.size = cur.size)
    {rows : List (List AV)} (hr : ∀ row ∈ rows, row.length = k.sz) {us rest : List Value} (ha : new.toList = us ++ rest)
    (hc : Cells w S (flat rows) us) :
    Rel c S { s with H := s.H.upd b (some ⟨k.ty, k.sz, rows⟩) } a (w.setRow b new) := by
  obtain ⟨hbs, h1, h2, h3, e1, e2, e3, e4⟩ := h
  have hg := grow_setRow hcur hs
  have hold : ∀ d, S d → (w.setRow b new).heap[d]? = w.heap[d]? := fun d hd => setRow_ne' (fun e => e4.sep b k hk (e ▸ hd))
  refine ⟨hbs, h1, h2, ⟨?_, ?_, ?_, h3.grow.trans hg⟩, e1, e2, fun i hi => (e3 i hi).mono (fun _ h => h) hold hg, ?_, ?_, ?_⟩
  · rw [setRow_size']; exact h3.size
  · intro d hd hD
    rw [setRow_ne' (fun e => ?_)]
    · exact h3.old d hd hD
    · subst e
      rcases h3.dom d k hk with h | h
      · exact hD h
      · omega
  · intro d k' hk'
    simp only [Heap.upd] at hk'
    split at hk'
    · subst_vars; exact h3.dom _ k hk
    · exact h3.dom d k' hk'
  · intro d k' hk' hs'
    simp only [Heap.upd] at hk'
    split at hk'
    · subst_vars; exact e4.sep _ k hk hs'
    · exact e4.sep d k' hk' hs'
  · intro d hd
    rw [setRow_size']
    exact e4.low d hd
  · intro d k' hk'
    simp only [Heap.upd] at hk'
    split at hk'
    · subst_vars
      cases hk'
      exact blk_of_cells (setRow_self' hcur) hr (hc.mono (fun _ h => h) hold hg) ha
    · exact (e4.blk d k' hk').mono (fun _ h => h) hold hg (setRow_ne' ‹_›)
end Go.AF
