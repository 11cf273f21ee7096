import Derived.Test.YtmpopmdimofnbaaDoorAF3
import Derived.Laws.Slices
import Derived.Laws.Small
/-! Cuts, lengths, structs and slices that are built. -/
namespace Go.AF
set_option linter.unusedVariables false
set_option linter.unusedSimpArgs false
open Go

section
variable {P : Program} {w : World} {S : Nat → Prop} {t : Nat} {ti : TI}

def unK (op : UnOp) (x : AV) (K : AV → Prop) : Prop :=
  match op, x with
  | .neg, .v (.int k n) => K (.v (.int k (k.wrap (0 - n))))
  | .xor, .v (.int k n) => K (.v (.int k (bitsI .xor k (if k.signed then -1 else k.max) n)))
  | .not, .v (.bool b) => K (.v (.bool (!b)))
  | _, _ => False
theorem unK_sound {op : UnOp} {x : AV} {u : Value} {K : AV → Prop} (hx : Rep w S x u) (hk : unK op x K) : ∃ z r, K z ∧ (Op.unary op u).run P w = .ok r w ∧ Rep w S z r := by
  unfold unK at hk
  split at hk
  · rw [rep_v hx]; exact ⟨_, _, hk, by simp [Op.unary, Op.intArith], .v _⟩
  · rw [rep_v hx]; exact ⟨_, _, hk, by simp [Op.unary, Op.intBits, bitsI], .v _⟩
  · rw [rep_v hx]; exact ⟨_, _, hk, by simp [Op.unary], .v _⟩
  · exact hk.elim

/-- A conversion between kinds of whole numbers. -/
def cvK (ti : TI) (x : AV) (K : AV → Prop) : Prop :=
  match ti.kind, x with
  | .int k, .v (.int _ n) => K (.v (.int k (k.wrap n)))
  | _, _ => False
theorem cvK_sound {x : AV} {u : Value} {K : AV → Prop} {s : Nat} {tis : TI} (hs : tiOf P s = some tis) (ht : tiOf P t = some ti) (hx : Rep w S x u) (hk : cvK ti x K) :
    ∃ z r, K z ∧ (convert s t u).run P w = .ok r w ∧ Rep w S z r := by
  unfold cvK at hk
  split at hk
  · rename_i k k' n hkd
    obtain ⟨i, d, z, h1, h2, h3, h4, h5, h6, h7⟩ := tiOf_spec ht
    obtain ⟨i', d', z', g1, g2, g3, g4, g5, g6, g7⟩ := tiOf_spec hs
    rw [hkd] at h7
    have hd : P.underlying t = some (.int k) := by cases d <;> simp [tkOf] at h7; subst h7; exact h2
    rw [rep_v hx]
    refine ⟨_, _, hk, ?_, .v _⟩
    simp [convert, underlying, hd, g2, Conv.intToInt]
  · exact hk.elim

/-! Cuts. -/
def bndI (x : Option AV) (d : Int) : Option Int :=
  match x with
  | none => some d
  | some (.v (.int _ n)) => some n
  | _ => none
/-- Optional operands and their values. -/
inductive RepO (W : World) (S : Nat → Prop) : Option AV → Option Value → Prop
  | none : RepO W S none none
  | some {x : AV} {u : Value} (h : Rep W S x u) : RepO W S (some x) (some u)

theorem bounds_run {isSlice : Bool} {len cap : Nat} {lo hi : Option AV} {lv hv : Option Value} {l h : Int} (hl : RepO w S lo lv) (hh : RepO w S hi hv) (el : bndI lo 0 = some l) (eh : bndI hi len = some h)
    (h0 : 0 ≤ l) (h1 : l ≤ h) (h2 : h ≤ cap) : (Instr.sliceBounds isSlice len cap lv hv none).run P w = .ok (l.toNat, h.toNat, cap) w := by
  have eh' : (h.toNat : Int) = h := Int.toNat_of_nonneg (by omega)
  cases hl with
  | none =>
    simp only [bndI, Option.some.injEq] at el
    subst el
    cases hh with
    | none =>
      simp only [bndI, Option.some.injEq] at eh
      subst eh
      simp [Instr.sliceBounds]
    | some hh =>
      unfold bndI at eh
      split at eh
      · simp_all
      · simp only [Option.some.injEq] at eh
        subst eh
        rename_i hx
        cases hx
        rw [rep_v hh]
        simp [Instr.sliceBounds, run_sliceBound, h1, h2]
      · cases eh
  | some hl =>
    unfold bndI at el
    split at el
    · simp_all
    · simp only [Option.some.injEq] at el
      subst el
      rename_i hx
      cases hx
      rw [rep_v hl]
      cases hh with
      | none =>
        simp only [bndI, Option.some.injEq] at eh
        subst eh
        simp [Instr.sliceBounds, run_sliceBound, h0, h1]
      | some hh =>
        unfold bndI at eh
        split at eh
        · simp_all
        · simp only [Option.some.injEq] at eh
          subst eh
          rename_i hx
          cases hx
          rw [rep_v hh]
          simp [Instr.sliceBounds, run_sliceBound, h0, h1, h2, eh', show (0 : Int) ≤ _ from Int.le_trans h0 h1]
        · cases eh
    · cases el

def avLen : AV → Option Nat
  | .sl _ _ _ len => some len
  | .ro rows => some rows.length
  | .nil => some 0
  | .v (.string s) => some s.size
  | _ => none

def slK (es : Nat) (x : AV) (lo hi : Option AV) (K : AV → Prop) : Prop :=
  ∃ n, avLen x = some n ∧ ∃ l, bndI lo 0 = some l ∧ ∃ h, bndI hi n = some h ∧ (0 ≤ l ∧ l ≤ h ∧ h ≤ n) ∧
    match x with
    | .sl b sz off _ => sz = es ∧ K (.sl b sz (off + l.toNat) (h.toNat - l.toNat))
    | .ro rows => (∀ row ∈ rows, row.length = es) ∧ K (.ro ((rows.drop l.toNat).take (h.toNat - l.toNat)))
    | .nil => K .nil
    | .v (.string s) => K (.v (.string (s.extract l.toNat h.toNat)))
    | _ => False

theorem slK_slice_sound {x : AV} {u : Value} {lo hi : Option AV} {lv hv : Option Value} {K : AV → Prop} {e : Nat} {tie : TI} (ht : tiOf P t = some ti) (hs : ti.kind = .slice e) (hte : tiOf P e = some tie)
    (hx : Rep w S x u) (hl : RepO w S lo lv) (hh : RepO w S hi hv) (hns : ∀ s, x ≠ .v (.string s)) (hk : slK tie.size x lo hi K) : ∃ z r, K z ∧ (Instr.sliceAt t u lv hv none).run P w = .ok r w ∧ Rep w S z r := by
  have hun := ti_slice ht hs
  have hel : P.elem t = e := by simp [Program.elem, hun]
  have hsz := ti_size (w := w) hte
  obtain ⟨n, hn, l, el, h, eh, ⟨h0, h1, h2⟩, hk⟩ := hk
  have hrun : ∀ (a : Option Addr) (c : Nat), n ≤ c → (Instr.sliceAt t (.slice a n c) lv hv none).run P w = .ok (.slice (if c = l.toNat then a else a.map (·.add (l.toNat * tie.size))) (h.toNat - l.toNat) (c - l.toNat)) w := by
    intro a c hc
    have hb := bounds_run (P := P) (isSlice := true) (cap := c) hl hh el eh h0 h1 (by omega)
    rw [run_sliceAt_slice (P := P) w t _ _ _ _ (by rw [hel]; exact hun)]
    simp [Instr.slice, underlying, hun, hb, hsz]
  cases hx with
  | sl b sz off len o c hlc ho arr ty fz hb ha =>
    obtain ⟨rfl, hk⟩ := hk
    simp only [avLen, Option.some.injEq] at hn
    subst hn
    refine ⟨_, _, hk, hrun _ c hlc, ?_⟩
    by_cases hcl : c = l.toNat
    · rw [if_pos hcl]
      exact .sl b tie.size _ _ o (c - l.toNat) (by omega) (fun hc => by omega) arr ty fz hb (by
        have : (off + l.toNat + (c - l.toNat)) = off + c := by omega
        rw [this]; exact ha)
    · rw [if_neg hcl]
      have ho' : o = off * tie.size := ho (by omega)
      simp only [Option.map_some, add_none]
      exact .sl b tie.size _ _ _ (c - l.toNat) (by omega) (fun hc => by rw [ho', Nat.add_mul]) arr ty fz hb (by
        have : (off + l.toNat + (c - l.toNat)) = off + c := by omega
        rw [this]; exact ha)
  | roNil A c =>
    obtain ⟨_, hk⟩ := hk
    simp only [avLen, List.length_nil, Option.some.injEq] at hn
    subst hn
    obtain rfl : l = 0 := by omega
    obtain rfl : h = 0 := by omega
    refine ⟨_, _, hk, hrun A c (Nat.zero_le _), ?_⟩
    simp only [Int.toNat_zero, Nat.sub_zero, List.drop_nil, List.take_nil]
    exact .roNil _ _
  | ro b o c sz rows us hc hS hr hu hx =>
    obtain ⟨hsame, hk⟩ := hk
    simp only [avLen, Option.some.injEq] at hn
    subst hn
    refine ⟨_, _, hk, hrun _ c hc, ?_⟩
    have hlen : ((rows.drop l.toNat).take (h.toNat - l.toNat)).length = h.toNat - l.toNat := by simp; omega
    by_cases hcl : c = l.toNat
    · rw [if_pos hcl]
      have h0' : h.toNat - l.toNat = 0 := by omega
      rw [h0', List.take_zero]
      exact .roNil _ _
    · rw [if_neg hcl]
      simp only [Option.map_some, add_none]
      have key : Rep w S (.ro ((rows.drop l.toNat).take (h.toNat - l.toNat))) (.slice (some ⟨b, o + l.toNat * tie.size, none⟩) ((rows.drop l.toNat).take (h.toNat - l.toNat)).length (c - l.toNat)) := by
       refine .ro b _ (c - l.toNat) sz _ (fun i j => us (l.toNat + i) j) (by rw [hlen]; omega) hS (fun row hm => hr row (List.mem_of_mem_drop (List.mem_of_mem_take hm))) (fun i j hi hj => ?_) (fun i row hi j x hj => ?_)
       · rw [hlen] at hi
         have hne : sz = tie.size := by
           have hm : rows[l.toNat + i]'(by omega) ∈ rows := List.getElem_mem _
           rw [← hr _ hm, hsame _ hm]
         have := hu (l.toNat + i) j (by omega) hj
         rw [← hne, show o + l.toNat * sz + (i * sz + j) = o + ((l.toNat + i) * sz + j) by rw [Nat.add_mul]; omega]
         exact this
       · have hlt := (List.getElem?_eq_some_iff.1 hi).1
         rw [hlen] at hlt
         rw [List.getElem?_take_of_lt hlt, List.getElem?_drop] at hi
         exact hx _ row hi j x hj
      rw [hlen] at key
      exact key
  | nil =>
    simp only [avLen, Option.some.injEq] at hn
    subst hn
    obtain rfl : l = 0 := by omega
    obtain rfl : h = 0 := by omega
    exact ⟨_, _, hk, hrun none 0 (Nat.le_refl _), .nil⟩
  | v =>
    cases u <;> first | (simp [avLen] at hn; done) | exact absurd rfl (hns _)
  | any => cases hn
  | rp => cases hn
  | pt => cases hn
  | agg => cases hn
  | tup => cases hn
  | fn => cases hn

theorem slK_string_sound {s : ByteArray} {u : Value} {lo hi : Option AV} {lv hv : Option Value} {K : AV → Prop} {es : Nat} (ht : tiOf P t = some ti) (hs : ti.kind = .str)
    (hx : Rep w S (.v (.string s)) u) (hl : RepO w S lo lv) (hh : RepO w S hi hv) (hk : slK es (.v (.string s)) lo hi K) : ∃ z r, K z ∧ (Instr.sliceAt t u lv hv none).run P w = .ok r w ∧ Rep w S z r := by
  obtain ⟨i, d, z, g1, g2, g3, g4, g5, g6, g7⟩ := tiOf_spec ht
  rw [hs] at g7
  have hd : P.underlying t = some .string := by cases d <;> simp [tkOf] at g7; exact g2
  obtain ⟨n, hn, l, el, h, eh, ⟨h0, h1, h2⟩, hk⟩ := hk
  simp only [avLen, Option.some.injEq] at hn
  subst hn
  rw [rep_v hx]
  have hb := bounds_run (P := P) (isSlice := false) (len := s.size) (cap := s.size) hl hh el eh h0 h1 (by omega)
  refine ⟨_, _, hk, ?_, .v _⟩
  simp [Instr.sliceAt, Instr.slice, underlying, hd, hb]

/-! Structs that are built. -/
def AV.cells : AV → List AV
  | .agg cs => cs
  | x => [x]

theorem rep_cells {x : AV} {u : Value} (hx : Rep w S x u) (hc : ∀ y ∈ x.cells, y.cell = true) : Cells w S x.cells u.cells.toList := by
  cases hx with
  | agg cs vs hl hx =>
    refine ⟨by simp [AV.cells, Value.cells, hl], fun j y hj => ?_⟩
    have hlt : j < vs.length := by rw [← hl]; exact (List.getElem?_eq_some_iff.1 hj).1
    have h := hx j y _ hj (List.getElem?_eq_getElem hlt)
    exact ⟨vs[j], by simp [Value.cells, List.getElem?_eq_getElem hlt], h, h.cell (hc y (List.mem_of_getElem? hj))⟩
  | any => exact absurd (hc .any (by simp [AV.cells])) (by simp [AV.cell])
  | tup cs => exact absurd (hc (.tup cs) (by simp [AV.cells])) (by simp [AV.cell])
  | v =>
    have h1 := hc (.v u) (by simp [AV.cells])
    rw [cells_one h1]
    exact ⟨rfl, fun j y hj => by cases j <;> simp [AV.cells] at hj; subst hj; exact ⟨u, rfl, .v _, h1⟩⟩
  | nil => exact ⟨rfl, fun j y hj => by cases j <;> simp [AV.cells] at hj; subst hj; exact ⟨_, rfl, .nil, rfl⟩⟩
  | roNil A c => exact ⟨rfl, fun j y hj => by cases j <;> simp [AV.cells] at hj; subst hj; exact ⟨_, rfl, .roNil A c, rfl⟩⟩
  | ro b o c sz rows us hc' hS hr hu hx => exact ⟨rfl, fun j y hj => by cases j <;> simp [AV.cells] at hj; subst hj; exact ⟨_, rfl, .ro b o c sz rows us hc' hS hr hu hx, rfl⟩⟩
  | rp b o cs us hS hu hx => exact ⟨rfl, fun j y hj => by cases j <;> simp [AV.cells] at hj; subst hj; exact ⟨_, rfl, .rp b o cs us hS hu hx, rfl⟩⟩
  | sl b sz off len o c hl ho arr ty fz hb ha => exact ⟨rfl, fun j y hj => by cases j <;> simp [AV.cells] at hj; subst hj; exact ⟨_, rfl, .sl b sz off len o c hl ho arr ty fz hb ha, rfl⟩⟩
  | fn f cs vs hl hx => exact ⟨rfl, fun j' y hj => by cases j' <;> simp [AV.cells] at hj; subst hj; exact ⟨_, rfl, .fn f cs vs hl hx, rfl⟩⟩
  | pt b sz i j => exact ⟨rfl, fun j' y hj => by cases j' <;> simp [AV.cells] at hj; subst hj; exact ⟨_, rfl, .pt b sz i j, rfl⟩⟩

/-- Some cells written over others. -/
def splice {α : Type} (xs : List α) (off : Nat) (ys : List α) : List α := xs.take off ++ ys ++ xs.drop (off + ys.length)
theorem splice_length {α : Type} {xs : List α} {off : Nat} {ys : List α} (h : off + ys.length ≤ xs.length) : (splice xs off ys).length = xs.length := by
  simp [splice]; omega
theorem splice_get {α : Type} {xs : List α} {off : Nat} {ys : List α} (h : off + ys.length ≤ xs.length) (j : Nat) : (splice xs off ys)[j]? = if off ≤ j ∧ j < off + ys.length then ys[j - off]? else xs[j]? := by
  unfold splice
  have hl : (xs.take off).length = off := by simp; omega
  by_cases h1 : j < off
  · rw [if_neg (by omega), List.append_assoc, List.getElem?_append_left (by omega), List.getElem?_take_of_lt h1]
  · by_cases h2 : j < off + ys.length
    · rw [if_pos ⟨by omega, h2⟩, List.getElem?_append_left (by simp; omega), List.getElem?_append_right (by omega), hl]
    · rw [if_neg (by omega), List.getElem?_append_right (by simp; omega), List.getElem?_drop]
      congr 1
      simp
      omega

/-- Values that lie one behind the other, not asked to be cells. -/
def Vals (W : World) (S : Nat → Prop) (xs : List AV) (us : List Value) : Prop := us.length = xs.length ∧ ∀ (j : Nat) (x : AV) (u : Value), xs[j]? = some x → us[j]? = some u → Rep W S x u
theorem Cells.vals {xs : List AV} {us : List Value} (h : Cells w S xs us) : Vals w S xs us := ⟨h.1, fun j x u hj hu => by obtain ⟨u', h1, h2, _⟩ := h.2 j x hj; rw [hu] at h1; cases h1; exact h2⟩
theorem Vals.splice {xs ys : List AV} {us vs : List Value} {off : Nat} (h : Vals w S xs us) (k : Vals w S ys vs) (hl : off + ys.length ≤ xs.length) : Vals w S (splice xs off ys) (splice us off vs) := by
  have hl' : off + vs.length ≤ us.length := by rw [k.1, h.1]; exact hl
  refine ⟨by rw [splice_length hl, splice_length hl', h.1], fun j x u hj hu => ?_⟩
  rw [splice_get hl] at hj
  rw [splice_get hl', k.1] at hu
  split at hj
  · rw [if_pos ‹_›] at hu; exact k.2 _ x u hj hu
  · rw [if_neg ‹_›] at hu; exact h.2 _ x u hj hu

theorem fold_set (vs : List Value) : ∀ (k off : Nat) (cs : Array Value), off + k + vs.length ≤ cs.size →
    ((vs.zipIdx k).foldl (fun cs (x : Value × Nat) => cs.setIfInBounds (off + x.2) x.1) cs).toList = splice cs.toList (off + k) vs := by
  induction vs with
  | nil => intro k off cs h; simp [splice]
  | cons v r ih =>
    intro k off cs h
    simp only [List.zipIdx_cons, List.foldl_cons]
    rw [ih (k + 1) off _ (by simp at h ⊢; omega)]
    simp only [Array.toList_setIfInBounds]
    apply List.ext_getElem?
    intro j
    simp only [List.length_cons] at h
    rw [splice_get (by simp; omega), splice_get (by simp; omega)]
    simp only [List.length_cons, List.getElem?_set]
    by_cases h1 : off + (k + 1) ≤ j ∧ j < off + (k + 1) + r.length
    · rw [if_pos h1, if_pos (by omega), show j - (off + k) = (j - (off + (k + 1))) + 1 by omega, List.getElem?_cons_succ]
    · rw [if_neg h1]
      by_cases h2 : off + k = j
      · subst h2
        rw [if_pos rfl, if_pos (by simp; omega), if_pos (by omega), Nat.sub_self]
        rfl
      · rw [if_neg h2, if_neg (by omega)]

def fillA (place : Nat → Option (Nat × Nat)) (cells : List AV) : List (Nat × AV) → Option (List AV)
  | [] => some cells
  | (i, x) :: rest => match place i with
    | none => none
    | some (off, size) => if x.cells.length = size ∧ off + size ≤ cells.length ∧ x.cells.all AV.cell then fillA place (splice cells off x.cells) rest else none

theorem fillA_sound {place : Nat → Option (Nat × Nat)} : ∀ (ps : List (Nat × AV)) (qs : List (Nat × Value)) (cells out : List AV) (arr : Array Value), qs.length = ps.length →
    (∀ (j : Nat) (p : Nat × AV) (q : Nat × Value), ps[j]? = some p → qs[j]? = some q → p.1 = q.1 ∧ Rep w S p.2 q.2) → Vals w S cells arr.toList → fillA place cells ps = some out →
    ∃ arr', Instr.fill place arr qs = some arr' ∧ Vals w S out arr'.toList := by
  intro ps
  induction ps with
  | nil =>
    intro qs cells out arr hl hp hv h
    cases qs with
    | nil => simp only [fillA, Option.some.injEq] at h; subst h; exact ⟨arr, rfl, hv⟩
    | cons => simp at hl
  | cons p rest ih =>
    intro qs cells out arr hl hp hv h
    cases qs with
    | nil => simp at hl
    | cons q qs =>
      obtain ⟨i, x⟩ := p
      obtain ⟨i', u⟩ := q
      obtain ⟨e1, hr⟩ := hp 0 _ _ rfl rfl
      simp only at e1 hr
      subst e1
      simp only [fillA] at h
      split at h
      · cases h
      · rename_i off size hpl
        split at h
        · rename_i hc
          obtain ⟨h1, h2, h3⟩ := hc
          have hcs := rep_cells hr (fun y hy => List.all_eq_true.1 h3 y hy)
          have hsz : u.cells.size = size := by have := hcs.1; rw [Array.length_toList] at this; omega
          have hle : off + u.cells.size ≤ arr.size := by have := hv.1; rw [Array.length_toList] at this; omega
          have hfold := fold_set u.cells.toList 0 off arr (by simp; omega)
          have hfe : (u.cells.zipIdx.foldl (fun cs (x : Value × Nat) => cs.setIfInBounds (off + x.2) x.1) arr).toList = splice arr.toList off u.cells.toList := by
            rw [Nat.add_zero] at hfold
            rw [← hfold]
            rw [← Array.foldl_toList]
            simp
          obtain ⟨arr', h4, h5⟩ := ih qs (splice cells off x.cells) out _ (by simpa using hl) (fun j p q hj hq => hp (j + 1) p q (by simpa using hj) (by simpa using hq)) (by rw [hfe]; exact hv.splice hcs.vals (by omega)) h
          refine ⟨arr', ?_, h5⟩
          simp only [Instr.fill, hpl]
          rw [if_neg (by simp [hsz]; omega)]
          exact h4
        · cases h
end
end Go.AF
