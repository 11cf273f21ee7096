import Derived.Test.YtmpopmdimofnbaaDoorAF1
/-! Operations that give a value and leave the world. -/
namespace Go.AF
set_option linter.unusedVariables false
open Go

section
variable {P : Program} {w : World} {S : Nat → Prop} {t : Nat} {ti : TI}

theorem add_none (b o j : Nat) : (⟨b, o, none⟩ : Addr).add j = ⟨b, o + j, none⟩ := by unfold Addr.add; split <;> simp_all

theorem cell_blk {b : Nat} {arr : Array Value} {ty : Nat} {fz : Nat × Nat} (h : w.heap[b]? = some (.cells arr ty fz)) (o : Nat) : w.cell? ⟨b, o, none⟩ = arr[o]? := by
  simp [World.cell?, h]

theorem run_loadVar_seg (ht : tiOf P t = some ti) (b o : Nat) (us : Nat → Value) (hu : ∀ j, j < ti.size → w.cell? ⟨b, o + j, none⟩ = some (us j)) (h1 : ti.kind.agg = false → 0 < ti.size) :
    (loadVar t ⟨b, o, none⟩).run P w = .ok (if ti.kind.agg then .agg ((List.range ti.size).map us).toArray else us 0) w := by
  cases hk : ti.kind.agg with
  | false =>
    have h0 := hu 0 (h1 hk)
    simp only [Nat.add_zero] at h0
    have hl : (load ⟨b, o, none⟩).run P w = .ok (us 0) w := by simp [h0]
    simp [loadVar, ti_agg ht, hk, h0]
  | true =>
    have hl : (loadCells ⟨b, o, none⟩ ti.size).run P w = .ok ((List.range ti.size).map us).toArray w := by
      have := run_loadCells_list (P := P) w ⟨b, o, none⟩ ((List.range ti.size).map us) (fun j v hj => by
        rw [add_none]
        simp only [List.getElem?_map] at hj
        obtain ⟨hlt, rfl⟩ : j < ti.size ∧ us j = v := by
          by_cases hlt : j < ti.size
          · simp [List.getElem?_range hlt] at hj; exact ⟨hlt, hj⟩
          · simp [List.getElem?_eq_none (show (List.range ti.size).length ≤ j by simp; omega)] at hj
        exact hu j hlt)
      simpa using this
    simp [loadVar, ti_agg ht, hk, ti_size ht, hl]

/-- What a load at an address gives. -/
def loadK (ti : TI) (H : Heap) (x : AV) (K : AV → Prop) : Prop :=
  match x with
  | .pt b sz i j => ∃ k, H b = some k ∧ k.sz = sz ∧ ∃ row, k.rows[i]? = some row ∧ j + ti.size ≤ sz ∧ (if ti.kind.agg then K (.agg ((row.drop j).take ti.size)) else ∃ y, row[j]? = some y ∧ K y)
  | .rp cs => ti.size ≤ cs.length ∧ (if ti.kind.agg then K (.agg (cs.take ti.size)) else ∃ y, cs[0]? = some y ∧ K y)
  | _ => False

theorem agg_rep {cs : List AV} {n : Nat} {us : Nat → Value} (hn : cs.length = n) (hx : ∀ (j : Nat) (x : AV), cs[j]? = some x → Rep w S x (us j)) : Rep w S (.agg cs) (.agg ((List.range n).map us).toArray) := by
  refine .agg cs _ (by simp [hn]) fun j x u hj hu => ?_
  have hlt : j < n := by rw [← hn]; exact (List.getElem?_eq_some_iff.1 hj).1
  simp [List.getElem?_range hlt] at hu
  subst hu
  exact hx j x hj

theorem loadK_sound {H : Heap} {x : AV} {u : Value} {K : AV → Prop} (ht : tiOf P t = some ti) (h1 : ti.kind.agg = false → 0 < ti.size) (hok : HeapOk w S H) (hx : Rep w S x u) (hk : loadK ti H x K) :
    ∃ y v, K y ∧ (Instr.loadAt t u).run P w = .ok v w ∧ Rep w S y v := by
  cases hx with
  | pt b sz i j =>
    obtain ⟨k, hb, rfl, row, hrow, hj, hK⟩ := hk
    obtain ⟨arr, ha, hr, hsz, hc⟩ := hok.blk b k hb
    have hl : row.length = k.sz := hr row (List.mem_of_getElem? hrow)
    let us : Nat → Value := fun q => (arr[i * k.sz + (j + q)]?).getD undef
    have hus : ∀ q, j + q < k.sz → ∃ y, row[j + q]? = some y ∧ w.cell? ⟨b, i * k.sz + j + q, none⟩ = some (us q) ∧ Rep w S y (us q) := by
      intro q hq
      refine ⟨row[j + q]'(by omega), List.getElem?_eq_getElem _, ?_⟩
      obtain ⟨v, h2, h3, h4⟩ := hc i row hrow (j + q) _ (List.getElem?_eq_getElem (by omega))
      have : us q = v := by simp only [us, h2, Option.getD_some]
      rw [cell_blk ha, show i * k.sz + j + q = i * k.sz + (j + q) by omega, this]
      exact ⟨h2, h3⟩
    have hrun : (Instr.loadAt t (.pointer (some ⟨b, i * k.sz + j, none⟩))).run P w = _ := run_loadVar_seg ht b (i * k.sz + j) us (fun q hq => by obtain ⟨_, _, h, _⟩ := hus q (by omega); exact h) h1
    cases hag : ti.kind.agg with
    | true =>
      rw [hag] at hrun hK
      refine ⟨_, _, hK, hrun, agg_rep (by simp; omega) fun q x hq => ?_⟩
      have hqs : q < ti.size := by have := (List.getElem?_eq_some_iff.1 hq).1; simp at this; omega
      obtain ⟨y, h2, h3, h4⟩ := hus q (by omega)
      rw [List.getElem?_take_of_lt hqs, List.getElem?_drop, h2] at hq
      cases hq
      exact h4
    | false =>
      rw [hag] at hrun hK
      obtain ⟨y, hy, hK⟩ := hK
      obtain ⟨y', h2, h3, h4⟩ := hus 0 (by have := h1 hag; omega)
      rw [Nat.add_zero, hy] at h2
      cases h2
      exact ⟨y, _, hK, hrun, h4⟩
  | rp b o cs us hS hu hx =>
    obtain ⟨hle, hK⟩ := hk
    have hrun : (Instr.loadAt t (.pointer (some ⟨b, o, none⟩))).run P w = _ := run_loadVar_seg ht b o us (fun q hq => hu q (by omega)) h1
    cases hag : ti.kind.agg with
    | true =>
      rw [hag] at hrun hK
      refine ⟨_, _, hK, hrun, agg_rep (by simp; omega) fun q x hq => ?_⟩
      have hqs : q < ti.size := by have := (List.getElem?_eq_some_iff.1 hq).1; simp at this; omega
      rw [List.getElem?_take_of_lt hqs] at hq
      exact hx q x hq
    | false =>
      rw [hag] at hrun hK
      obtain ⟨y, hy, hK⟩ := hK
      exact ⟨y, _, hK, hrun, hx 0 y hy⟩
  | any => exact hk.elim
  | v => exact hk.elim
  | nil => exact hk.elim
  | roNil => exact hk.elim
  | ro => exact hk.elim
  | sl => exact hk.elim
  | agg => exact hk.elim
  | tup => exact hk.elim
  | fn => exact hk.elim

/-! The address of a field; a field. -/
def faK (ti : TI) (f : Nat) (x : AV) (K : AV → Prop) : Prop :=
  match ti.kind with
  | .struct fs => ∃ g, fs[f]? = some g ∧ g.2.2 ≠ 0 ∧ match x with
    | .pt b sz i j => K (.pt b sz i (j + g.1))
    | .rp cs => K (.rp (cs.drop g.1))
    | _ => False
  | _ => False

theorem ti_struct {fs : List (Nat × Nat × Nat)} (h : tiOf P t = some ti) (hk : ti.kind = .struct fs) : ∃ fl : Array Field, P.underlying t = some (.struct fl) ∧ fs = fl.toList.map fun f => (f.offset, f.type, P.cellsOf f.type) := by
  obtain ⟨i, d, z, h1, h2, h3, h4, h5, h6, h7⟩ := tiOf_spec h
  rw [hk] at h7
  cases d <;> simp [tkOf] at h7
  subst h7
  exact ⟨_, h2, by simp⟩

theorem size_of_cells {t : Nat} (h : P.cellsOf t ≠ 0) : (sizeOf t).run P w = .ok (P.cellsOf t) w := by
  unfold Program.cellsOf at h ⊢
  cases hi : P.info? t with
  | none => simp [hi] at h
  | some i => simp [sizeOf, typeInfo, hi]

theorem faK_sound {x : AV} {u : Value} {f : Nat} {K : AV → Prop} (ht : tiOf P t = some ti) (hx : Rep w S x u) (hk : faK ti f x K) :
    ∃ y v, K y ∧ (Instr.fieldAt t u f).run P w = .ok v w ∧ Rep w S y v := by
  unfold faK at hk
  split at hk
  · rename_i fs hfs
    obtain ⟨fl, hu, rfl⟩ := ti_struct ht hfs
    obtain ⟨g, hg, h0, hk⟩ := hk
    obtain ⟨q, hq, rfl⟩ : ∃ q, fl[f]? = some q ∧ (q.offset, q.type, P.cellsOf q.type) = g := by
      simpa [Option.map_eq_some_iff] using hg
    have hrun : ∀ b o, (Instr.fieldAt t (.pointer (some ⟨b, o, none⟩)) f).run P w = .ok (.pointer (some ⟨b, o + q.offset, none⟩)) w := by
      intro b o
      have hs := size_of_cells (w := w) h0
      simp [Instr.fieldAt, underlying, hu, hq, Instr.sureAddr, fieldPlace, hs, h0, add_none]
    cases hx with
    | pt b sz i j => exact ⟨_, _, hk, hrun _ _, by rw [Nat.add_assoc]; exact .pt ..⟩
    | rp b o cs us hS hu' hx =>
      refine ⟨_, _, hk, hrun _ _, .rp b (o + q.offset) (cs.drop q.offset) (fun j => us (q.offset + j)) hS (fun j hj => ?_) (fun j x hj => ?_)⟩
      · rw [Nat.add_assoc]
        exact hu' _ (by simp at hj; omega)
      · rw [List.getElem?_drop] at hj
        exact hx _ x hj
    | any => exact hk.elim
    | v => exact hk.elim
    | nil => exact hk.elim
    | roNil => exact hk.elim
    | ro => exact hk.elim
    | sl => exact hk.elim
    | agg => exact hk.elim
    | tup => exact hk.elim
    | fn => exact hk.elim
  · exact hk.elim

def fieldK (P : Program) (ti : TI) (f : Nat) (x : AV) (K : AV → Prop) : Prop :=
  match ti.kind, x with
  | .struct fs, .agg cs => ∃ g, fs[f]? = some g ∧ g.1 + g.2.2 ≤ cs.length ∧ ∃ ti', tiOf P g.2.1 = some ti' ∧ ti'.size = g.2.2 ∧
      (if ti'.kind.agg then K (.agg ((cs.drop g.1).take g.2.2)) else ∃ y, cs[g.1]? = some y ∧ K y)
  | _, _ => False

theorem fieldK_sound {x : AV} {u : Value} {f : Nat} {K : AV → Prop} (ht : tiOf P t = some ti) (hx : Rep w S x u) (hk : fieldK P ti f x K) :
    ∃ y v, K y ∧ (Instr.field t u f).run P w = .ok v w ∧ Rep w S y v := by
  unfold fieldK at hk
  split at hk
  · rename_i fs cs hfs
    obtain ⟨fl, hu, rfl⟩ := ti_struct ht hfs
    obtain ⟨g, hg, hle, ti', ht', hs', hk⟩ := hk
    obtain ⟨q, hq, rfl⟩ : ∃ q, fl[f]? = some q ∧ (q.offset, q.type, P.cellsOf q.type) = g := by
      simpa [Option.map_eq_some_iff] using hg
    cases hx with
    | agg _ vs hl hx =>
      simp only at hle hs' hk
      have hag := ti_agg (w := w) ht'
      have hsz := ti_size (w := w) ht'
      cases h : ti'.kind.agg with
      | true =>
        rw [h] at hk hag
        refine ⟨_, .agg (vs.toArray.extract q.offset (q.offset + ti'.size)), hk, by simp [Instr.field, underlying, hu, hq, part, hag, asAgg, hsz], ?_⟩
        have e : vs.toArray.extract q.offset (q.offset + ti'.size) = ((vs.drop q.offset).take ti'.size).toArray := by
          apply Array.ext'
          simp [List.extract_eq_take_drop]
        rw [e]
        refine .agg _ _ (by simp [hs', hl]) fun j x u hj hu => ?_
        rw [hs'] at hu
        by_cases hj' : j < P.cellsOf q.type
        · rw [List.getElem?_take_of_lt hj', List.getElem?_drop] at hj hu
          exact hx _ x u hj hu
        · rw [List.getElem?_eq_none (by simp; omega)] at hj
          cases hj
      | false =>
        rw [h] at hk hag
        obtain ⟨y, hy, hk⟩ := hk
        have hlt := (List.getElem?_eq_some_iff.1 hy).1
        have hv : vs[q.offset]? = some (vs[q.offset]'(by omega)) := List.getElem?_eq_getElem _
        refine ⟨y, _, hk, ?_, hx _ y _ hy hv⟩
        simp [Instr.field, underlying, hu, hq, part, hag, asAgg, hv]
  · exact hk.elim
end
end Go.AF
