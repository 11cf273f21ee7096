import Derived.Test.YtmpopmdimofnbaaDoorAF4
import Derived.Laws.OwnMore
import Derived.Laws.MakeOwn
import Derived.Deep.AppendSrc
import Derived.Laws.AppendOwn
import Derived.Great.BuildSlice
/-! Operations that make or write memory. -/
namespace Go.AF
set_option linter.unusedVariables false
set_option linter.unusedSimpArgs false
open Go

section
variable {P : Program} {w : World} {c : Ctx P} {S : Nat → Prop} {s : St} {a : Act} {t : Nat} {ti : TI}

theorem Rel.heap {w' : World} (h : Rel c S s a w) (hh : w'.heap = w.heap) (hrest : Rest w w') : Rel c S s a w' := by
  have hg : Grow w w' := ⟨by rw [hh]; exact Nat.le_refl _, fun b arr ty fz hb => ⟨arr, by rw [hh]; exact hb, rfl⟩, hrest⟩
  have hb : ∀ b, S b → w'.heap[b]? = w.heap[b]? := fun b _ => by rw [hh]
  exact ⟨h.base, h.defers, h.size, ⟨by rw [hh]; exact h.frm.size, fun b h1 h2 => by rw [hh]; exact h.frm.old b h1 h2, h.frm.dom, h.frm.grow.trans hg⟩, h.low, h.high, fun i hi => (h.reps i hi).mono (fun _ h => h) hb hg,
    ⟨h.ok.sep, fun b hs => by rw [hh]; exact h.ok.low b hs, fun b k hk => (h.ok.blk b k hk).mono (fun _ h => h) hb hg (by rw [hh])⟩⟩

theorem flat_inv : ∀ (rows : List (List AV)) (sz : Nat) (hr : ∀ row ∈ rows, row.length = sz) (q : Nat) (x : AV), (flat rows)[q]? = some x → ∃ i row j, rows[i]? = some row ∧ row[j]? = some x ∧ q = i * sz + j := by
  intro rows
  induction rows with
  | nil => intro sz hr q x h; simp [flat] at h
  | cons r rest ih =>
    intro sz hr q x h
    have hl : r.length = sz := hr r (by simp)
    simp only [flat, List.flatten_cons] at h
    by_cases hq : q < r.length
    · rw [List.getElem?_append_left hq] at h
      exact ⟨0, r, q, rfl, h, by simp⟩
    · rw [List.getElem?_append_right (by omega)] at h
      obtain ⟨i, row, j, h1, h2, h3⟩ := ih sz (fun row hm => hr row (by simp [hm])) _ x h
      exact ⟨i + 1, row, j, by simpa using h1, h2, by rw [Nat.succ_mul]; omega⟩

theorem BlkRep.cells {b : Nat} {k : Blk} {arr : Array Value} (h : BlkRep w S b k) (ha : w.heap[b]? = some (.cells arr k.ty (0, 0))) : Cells w S (flat k.rows) (arr.toList.take (k.rows.length * k.sz)) ∧ k.rows.length * k.sz ≤ arr.size ∧ ∀ row ∈ k.rows, row.length = k.sz := by
  obtain ⟨arr', h1, h2, h3, h4⟩ := h
  rw [ha] at h1
  cases h1
  refine ⟨⟨by rw [flat_length _ _ h2]; simp; omega, fun q x hq => ?_⟩, h3, h2⟩
  obtain ⟨i, row, j, e1, e2, rfl⟩ := flat_inv _ _ h2 q x hq
  obtain ⟨u, e3, e4, e5⟩ := h4 i row e1 j x e2
  have hlt : i * k.sz + j < k.rows.length * k.sz := by
    have := (List.getElem?_eq_some_iff.1 hq).1
    rwa [flat_length _ _ h2] at this
  exact ⟨u, by rw [List.getElem?_take_of_lt hlt, Array.getElem?_toList]; exact e3, e4, e5⟩

theorem Cells.splice {xs ys : List AV} {us vs : List Value} {off : Nat} (h : Cells w S xs us) (k : Cells w S ys vs) (hl : off + ys.length ≤ xs.length) : Cells w S (splice xs off ys) (splice us off vs) := by
  have hl' : off + vs.length ≤ us.length := by rw [k.1, h.1]; exact hl
  refine ⟨by rw [splice_length hl, splice_length hl', h.1], fun j x hj => ?_⟩
  rw [splice_get hl] at hj
  rw [splice_get hl', k.1]
  split at hj
  · rw [if_pos ‹_›]; exact k.2 _ x hj
  · rw [if_neg ‹_›]; exact h.2 _ x hj
theorem Cells.append {xs ys : List AV} {us vs : List Value} (h : Cells w S xs us) (k : Cells w S ys vs) : Cells w S (xs ++ ys) (us ++ vs) := by
  refine ⟨by simp [h.1, k.1], fun j x hj => ?_⟩
  by_cases hlt : j < xs.length
  · rw [List.getElem?_append_left hlt] at hj
    rw [List.getElem?_append_left (by rw [h.1]; exact hlt)]
    exact h.2 j x hj
  · rw [List.getElem?_append_right (by omega)] at hj
    rw [List.getElem?_append_right (by rw [h.1]; omega), h.1]
    exact k.2 _ x hj
theorem Cells.take {xs : List AV} {us : List Value} (h : Cells w S xs us) (n : Nat) : Cells w S (xs.take n) (us.take n) := by
  refine ⟨by simp [h.1], fun j x hj => ?_⟩
  have hlt : j < n := by have := (List.getElem?_eq_some_iff.1 hj).1; simp at this; omega
  rw [List.getElem?_take_of_lt hlt] at hj ⊢
  exact h.2 j x hj
theorem Cells.drop {xs : List AV} {us : List Value} (h : Cells w S xs us) (n : Nat) : Cells w S (xs.drop n) (us.drop n) := by
  refine ⟨by simp [h.1], fun j x hj => ?_⟩
  rw [List.getElem?_drop] at hj ⊢
  exact h.2 _ x hj
theorem cells_const {us : List Value} (h : (us.map constCell).all AV.cell = true) : Cells w S (us.map constCell) us := by
  refine ⟨by simp, fun j x hj => ?_⟩
  obtain ⟨u, hu, rfl⟩ : ∃ u, us[j]? = some u ∧ constCell u = x := by simpa [Option.map_eq_some_iff] using hj
  have hm : (constCell u).cell = true := List.all_eq_true.1 h _ (List.mem_map.2 ⟨u, List.mem_of_getElem? hu, rfl⟩)
  exact ⟨u, hu, rep_constCell u, constCell_cell hm⟩

theorem flat_one (row : List AV) : flat [row] = row := by simp [flat]
theorem flat_append (xs ys : List (List AV)) : flat (xs ++ ys) = flat xs ++ flat ys := by simp [flat]
theorem flat_take (rows : List (List AV)) (sz n : Nat) (hr : ∀ row ∈ rows, row.length = sz) : flat (rows.take n) = (flat rows).take (n * sz) := by
  induction rows generalizing n with
  | nil => simp [flat]
  | cons r rest ih =>
    cases n with
    | zero => simp [flat]
    | succ n =>
      have hl : r.length = sz := hr r (by simp)
      have := ih n (fun row hm => hr row (by simp [hm]))
      simp only [flat, List.take_succ_cons, List.flatten_cons] at this ⊢
      have e : (n + 1) * sz - r.length = n * sz := by rw [hl, Nat.succ_mul]; omega
      rw [List.take_append, e, ← this, List.take_of_length_le (l := r) (by rw [hl, Nat.succ_mul]; omega)]
theorem flat_drop (rows : List (List AV)) (sz n : Nat) (hr : ∀ row ∈ rows, row.length = sz) : flat (rows.drop n) = (flat rows).drop (n * sz) := by
  induction rows generalizing n with
  | nil => simp [flat]
  | cons r rest ih =>
    cases n with
    | zero => simp [flat]
    | succ n =>
      have hl : r.length = sz := hr r (by simp)
      have := ih n (fun row hm => hr row (by simp [hm]))
      simp only [flat, List.drop_succ_cons, List.flatten_cons] at this ⊢
      have e : (n + 1) * sz - r.length = n * sz := by rw [hl, Nat.succ_mul]; omega
      rw [List.drop_append, e, ← this, List.drop_eq_nil_of_le (as := r) (by rw [hl, Nat.succ_mul]; omega), List.nil_append]
theorem flat_set (rows : List (List AV)) (sz i j : Nat) (row ys : List AV) (hr : ∀ row ∈ rows, row.length = sz) (hi : rows[i]? = some row) (hj : j + ys.length ≤ sz) : flat (rows.set i (splice row j ys)) = splice (flat rows) (i * sz + j) ys := by
  have hil := (List.getElem?_eq_some_iff.1 hi).1
  have hrl : row.length = sz := hr row (List.mem_of_getElem? hi)
  have hmul : i * sz + sz ≤ rows.length * sz := by have := Nat.mul_le_mul_right sz (show i + 1 ≤ rows.length by omega); rw [Nat.succ_mul] at this; exact this
  have hrs : ∀ r ∈ rows.set i (splice row j ys), r.length = sz := by
    intro r hm
    rcases List.mem_or_eq_of_mem_set hm with h | h
    · exact hr r h
    · subst h; rw [splice_length (by omega), hrl]
  apply List.ext_getElem?
  intro q
  have hle : i * sz + j + ys.length ≤ (flat rows).length := by rw [flat_length _ _ hr]; omega
  rw [splice_get hle]
  by_cases hq : q < rows.length * sz
  · have hq1 : q < (flat rows).length := by rw [flat_length _ _ hr]; exact hq
    have hq2 : q < (flat (rows.set i (splice row j ys))).length := by rw [flat_length _ _ hrs]; simpa using hq
    obtain ⟨i', row', j', e1, e2, rfl⟩ := flat_inv _ _ hrs q _ (List.getElem?_eq_getElem hq2)
    have hj' : j' < sz := by have := (List.getElem?_eq_some_iff.1 e2).1; rw [hrs _ (List.mem_of_getElem? e1)] at this; exact this
    rw [List.getElem?_eq_getElem hq2, ← e2]
    by_cases hii : i' = i
    · subst hii
      rw [List.getElem?_set_self hil] at e1
      cases e1
      rw [splice_get (by omega)]
      by_cases h1 : j ≤ j' ∧ j' < j + ys.length
      · rw [if_pos h1, if_pos (by omega)]
        congr 1
        omega
      · rw [if_neg h1, if_neg (by omega)]
        exact (flat_get rows sz hr i' row hi j' _ (List.getElem?_eq_getElem (by omega))).symm ▸ List.getElem?_eq_getElem (by omega)
    · rw [List.getElem?_set_ne (Ne.symm hii)] at e1
      rw [if_neg ?_]
      · rw [e2]
        exact (flat_get rows sz hr i' row' e1 j' _ e2).symm
      · intro ⟨h1, h2⟩
        rcases Nat.lt_or_gt_of_ne hii with h | h
        · have := Nat.mul_le_mul_right sz (show i' + 1 ≤ i by omega); rw [Nat.succ_mul] at this; omega
        · have := Nat.mul_le_mul_right sz (show i + 1 ≤ i' by omega); rw [Nat.succ_mul] at this; omega
  · rw [List.getElem?_eq_none (by rw [flat_length _ _ hrs]; simpa using hq), if_neg (by omega), List.getElem?_eq_none (by rw [flat_length _ _ hr]; omega)]

/-! A variable in memory. -/
def newK (ty : Nat) (cs : List AV) (H : Heap) (N : Nat) (K : AV → Heap → Prop) : Prop :=
  cs.all AV.cell = true ∧ ∀ b, H b = none → N ≤ b → K (.pt b cs.length 0 0) (H.upd b (some ⟨ty, cs.length, [cs]⟩))

theorem newK_sound {ty : Nat} {cs : List AV} {us : List Value} {d : Option Tmp} {K : St → Prop} (h : Rel c S s a w) (hc : cs.all AV.cell = true → Cells w S cs us) (hd : s.fits d) (hk : newK ty cs s.H s.N (s.out d K)) :
    ∃ s', K s' ∧ Rel c S s' (a.put d (.pointer (some ⟨w.heap.size, 0, none⟩))) (w.alloc (.cells us.toArray ty)) := by
  obtain ⟨h1, hk⟩ := hk
  obtain ⟨hn, hN, hr⟩ := h.alloc (arr := us.toArray) (ty := ty) (sz := cs.length) (rows := [cs]) (us := us) (rest := []) (by simp) (by simp) (by rw [flat_one]; exact hc h1)
  refine ⟨_, hk _ hn hN, hr.put (by exact hd) ?_⟩
  have := Rep.pt (W := w.alloc (.cells us.toArray ty)) (S := S) w.heap.size cs.length 0 0
  simpa using this

/-! A store. -/
def stK (ti : TI) (x y : AV) (H : Heap) (K : AV → Heap → Prop) : Prop :=
  match x with
  | .pt b sz i j => ∃ k, H b = some k ∧ k.sz = sz ∧ ∃ row, k.rows[i]? = some row ∧ y.cells.all AV.cell = true ∧ y.cells.length = ti.size ∧ j + ti.size ≤ sz ∧ K .any (H.upd b (some ⟨k.ty, k.sz, k.rows.set i (splice row j y.cells)⟩))
  | _ => False

theorem stK_sound {x y : AV} {u v : Value} {K : AV → Heap → Prop} (ht : tiOf P t = some ti) (h : Rel c S s a w) (hx : Rep w S x u) (hy : Rep w S y v) (hk : stK ti x y s.H K) :
    ∃ s' w', (s'.n = s.n ∧ s' = { s with H := s'.H }) ∧ K .any s'.H ∧ (Instr.storeAt t u v).run P w = .ok () w' ∧ Rel c S s' a w' := by
  unfold stK at hk
  split at hk
  · rename_i b sz i j
    obtain ⟨k, hb, rfl, row, hrow, hcell, hlen, hj, hk⟩ := hk
    cases hx
    obtain ⟨arr, ha, hr0, hsz0, h40⟩ := h.ok.blk b k hb
    obtain ⟨hcs, hsz, hr⟩ := (h.ok.blk b k hb).cells ha
    have hyc := rep_cells hy (fun z hz => List.all_eq_true.1 hcell z hz)
    have hil := (List.getElem?_eq_some_iff.1 hrow).1
    have hmul : i * k.sz + k.sz ≤ k.rows.length * k.sz := by have := Nat.mul_le_mul_right k.sz (show i + 1 ≤ k.rows.length by omega); rw [Nat.succ_mul] at this; exact this
    have hvl : v.cells.toList.length = ti.size := by rw [hyc.1, hlen]
    have hA : arr.toList.length = arr.size := Array.length_toList
    have hT : (arr.toList.take (k.rows.length * k.sz)).length = k.rows.length * k.sz := by rw [List.length_take]; omega
    have hst := run_storeCells_at P b (i * k.sz + j) k.ty v.cells.toList 0 arr w ha (by omega) hyc.one
    simp only [Nat.add_zero] at hst
    have hrun : (Instr.storeAt t (.pointer (some ⟨b, i * k.sz + j, none⟩)) v).run P w = .ok () (w.setRow b (splice arr.toList (i * k.sz + j) v.cells.toList).toArray) := by
      have hs := ti_size (w := w) ht
      have hvs : v.cells.size = ti.size := by rw [← Array.length_toList]; exact hvl
      show (storeVar t ⟨b, i * k.sz + j, none⟩ v).run P w = _
      simp [storeVar, hs, hvs]
      exact hst
    refine ⟨{ s with H := s.H.upd b (some ⟨k.ty, k.sz, k.rows.set i (splice row j y.cells)⟩) }, _, ⟨rfl, rfl⟩, hk, hrun, ?_⟩
    have hfl := flat_length _ _ hr
    have e1 : splice arr.toList (i * k.sz + j) v.cells.toList = splice (arr.toList.take (k.rows.length * k.sz)) (i * k.sz + j) v.cells.toList ++ arr.toList.drop (k.rows.length * k.sz) := by
      apply List.ext_getElem?
      intro q
      have hle1 : i * k.sz + j + v.cells.toList.length ≤ arr.toList.length := by omega
      have hle2 : i * k.sz + j + v.cells.toList.length ≤ (arr.toList.take (k.rows.length * k.sz)).length := by omega
      rw [splice_get hle1]
      by_cases hq : q < k.rows.length * k.sz
      · rw [List.getElem?_append_left (by rw [splice_length hle2]; omega), splice_get hle2, List.getElem?_take_of_lt hq]
      · rw [if_neg (by omega), List.getElem?_append_right (by rw [splice_length hle2]; omega), splice_length hle2, List.getElem?_drop]
        congr 1
        omega
    refine h.setRow hb ha (new := (splice arr.toList (i * k.sz + j) v.cells.toList).toArray) (by simp only [List.size_toArray]; rw [splice_length (by omega)]; exact hA) (rows := k.rows.set i (splice row j y.cells)) ?_ e1 ?_
    · intro r hm
      rcases List.mem_or_eq_of_mem_set hm with h | h
      · exact hr r h
      · subst h
        have hrl := hr row (List.mem_of_getElem? hrow)
        rw [splice_length (by omega), hrl]
    · rw [flat_set k.rows k.sz i j row y.cells hr hrow (by omega)]
      exact hcs.splice hyc (by omega)
  · exact hk.elim

/-! Slices that are made. -/
def mkK (ti : TI) (e : Nat) (x y : AV) (H : Heap) (N : Nat) (K : AV → Heap → Prop) : Prop :=
  match x, y with
  | .v (.int _ l), .v (.int _ n) => (0 ≤ l ∧ l ≤ n ∧ ti.bytes * n.toNat ≤ 281474976710656 ∧ n ≤ 9223372036854775807) ∧ ti.zero.all AV.cell = true ∧ ti.zero.length = ti.size ∧ 0 < ti.size ∧
      ∀ b, H b = none → N ≤ b → K (.sl b ti.size 0 l.toNat) (H.upd b (some ⟨e, ti.size, List.replicate l.toNat ti.zero⟩))
  | _, _ => False

theorem rep_get {α : Type} (l : List α) (h0 : 0 < l.length) : ∀ (n q : Nat), ((List.replicate n l).flatten)[q]? = if q < n * l.length then l[q % l.length]? else none := by
  intro n
  induction n with
  | zero => intro q; simp
  | succ n ih =>
    intro q
    simp only [List.replicate_succ, List.flatten_cons]
    by_cases hq : q < l.length
    · rw [List.getElem?_append_left hq, if_pos (by rw [Nat.succ_mul]; omega), Nat.mod_eq_of_lt hq]
    · rw [List.getElem?_append_right (by omega), ih]
      have e : q % l.length = (q - l.length) % l.length := by
        rw [Nat.mod_eq_sub_mod (by omega)]
      by_cases h : q - l.length < n * l.length
      · rw [if_pos h, if_pos (by rw [Nat.succ_mul]; omega), e]
      · rw [if_neg h, if_neg (by rw [Nat.succ_mul]; omega)]

theorem made_flat (zs : Array Value) (h0 : 0 < zs.size) (n : Nat) : (madeCells zs (n * zs.size)).toList = (List.replicate n zs.toList).flatten := by
  apply List.ext_getElem?
  intro q
  have hl : zs.toList.length = zs.size := Array.length_toList
  rw [rep_get zs.toList (by omega), hl]
  simp only [madeCells, Array.toList_map, Array.toList_range, List.getElem?_map]
  by_cases h : q < n * zs.size
  · rw [List.getElem?_range h, if_pos h]
    have hm : q % zs.size < zs.size := Nat.mod_lt _ h0
    simp [getElem!_pos zs (q % zs.size) hm, hm]
  · rw [List.getElem?_eq_none (by simp; omega), if_neg h]
    rfl

theorem cells_rep {xs : List AV} {us : List Value} (h : Cells w S xs us) (n : Nat) : Cells w S (flat (List.replicate n xs)) ((List.replicate n us).flatten) := by
  induction n with
  | zero => exact ⟨rfl, fun j x hj => by simp [flat] at hj⟩
  | succ n ih =>
    simp only [flat, List.replicate_succ, List.flatten_cons] at ih ⊢
    exact h.append ih

theorem flatten_rep_split {α : Type} (l : List α) (m n : Nat) (h : m ≤ n) : (List.replicate n l).flatten = (List.replicate m l).flatten ++ (List.replicate (n - m) l).flatten := by
  rw [← List.flatten_append, List.replicate_append_replicate]
  congr 2
  omega

theorem mkK_sound {e : Nat} {tie : TI} {x y : AV} {u v : Value} {d : Option Tmp} {K : St → Prop} (ht : tiOf P t = some ti) (hs : ti.kind = .slice e) (hte : tiOf P e = some tie) (h : Rel c S s a w) (hx : Rep w S x u) (hy : Rep w S y v) (hd : s.fits d)
    (hk : mkK tie e x y s.H s.N (s.out d K)) : ∃ s' r w', K s' ∧ (Instr.makeSlice t u v).run P w = .ok r w' ∧ Rel c S s' (a.put d r) w' := by
  unfold mkK at hk
  split at hk
  · rename_i k l k' n
    obtain ⟨⟨h0, h1, h2, h3⟩, h4, h5, h6, hk⟩ := hk
    rw [rep_v hx, rep_v hy]
    have hun := ti_slice ht hs
    obtain ⟨i, d', z, g1, g2, g3, g4, g5, g6, g7⟩ := tiOf_spec hte
    have hb' : (i.bytes : Int) * n ≤ 281474976710656 := by
      have : ((tie.bytes * n.toNat : Nat) : Int) ≤ 281474976710656 := by omega
      rw [Int.natCast_mul, Int.toNat_of_nonneg (by omega), g5] at this
      exact this
    have hr := run_make (P := P) w t e i z hun g1 g3 k k' l n h0 h1 hb' h3
    have hzl : z.cells.toList.length = tie.size := by rw [← h5, g6, List.length_map]
    have hzs : z.cells.size = tie.size := by rw [← hzl, Array.length_toList]
    have hc : Cells w S tie.zero z.cells.toList := by rw [g6]; exact cells_const (by rw [← g6]; exact h4)
    have hmade : (madeCells z.cells (n.toNat * i.size)).toList = (List.replicate l.toNat z.cells.toList).flatten ++ (List.replicate (n.toNat - l.toNat) z.cells.toList).flatten := by
      rw [← flatten_rep_split _ _ _ (by omega), ← g4, ← hzs]
      exact made_flat _ (by omega) _
    obtain ⟨hn, hN, hrel⟩ := h.alloc (arr := madeCells z.cells (n.toNat * i.size)) (ty := e) (sz := tie.size) (rows := List.replicate l.toNat tie.zero) (fun row hm => by rw [(List.mem_replicate.1 hm).2]; exact h5) hmade (cells_rep hc _)
    refine ⟨_, _, _, hk _ hn hN, hr, hrel.put hd ?_⟩
    refine .sl _ _ _ _ 0 _ (by omega) (fun _ => by simp) (madeCells z.cells (n.toNat * i.size)) e (0, 0) (alloc_new w _) ?_
    rw [size_madeCells, ← g4, Nat.zero_add]
    exact Nat.le_refl _
  · exact hk.elim
end
end Go.AF
