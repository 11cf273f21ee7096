import Derived.Test.YtmpopmdimofnbaaDoorAF7
/-! Calls; one operation. -/
namespace Go.AF
set_option linter.unusedVariables false
set_option linter.unusedSimpArgs false
open Go

section
variable {P : Program} {w : World} {c : Ctx P} {S : Nat → Prop} {s : St} {a : Act} {t : Nat} {ti : TI}

/-- Own memory seen as what is only read. -/
def view1 (H : Heap) : AV → AV
  | .sl b sz off len => match H b with
    | some k => if k.sz = sz ∧ off + len ≤ k.rows.length then .ro ((k.rows.drop off).take len) else .any
    | none => .any
  | .nil => .ro []
  | .pt b sz i j => match H b with
    | some k => if k.sz = sz then (match k.rows[i]? with
      | some row => .rp (row.drop j)
      | none => .any) else .any
    | none => .any
  | x => x
def view (H : Heap) : AV → AV
  | .agg cs => .agg (cs.map (view1 H))
  | x => view1 H x

/-- Nothing of the call's own. -/
def AV.shut1 : AV → Bool
  | .sl .. | .pt .. => false
  | _ => true
def AV.shut : AV → Bool
  | .agg cs => cs.all AV.shut1
  | x => x.shut1
/-- Nothing that leads to memory. -/
def AV.plain1 : AV → Bool
  | .v _ | .any | .nil => true
  | _ => false
def AV.plain : AV → Bool
  | .agg cs => cs.all AV.plain1
  | .tup cs => cs.all AV.plain1
  | x => x.plain1

theorem view1_sound {H : Heap} {x : AV} {u : Value} (hok : HeapOk w S H) (hx : Rep w S x u) : Rep w (fun b => S b ∨ (H b).isSome = true) (view1 H x) u := by
  have hm : Rep w (fun b => S b ∨ (H b).isSome = true) x u := hx.mono (fun _ h => .inl h) (fun _ _ => rfl) (Grow.refl w)
  cases hx with
  | nil => exact .roNil none 0
  | sl b sz off len o c hl ho arr ty fz hb ha =>
    simp only [view1]
    split
    · rename_i k hk
      split
      · rename_i hc
        obtain ⟨h1, h2⟩ := hc
        obtain ⟨arr', e1, hr, hsz, h4⟩ := hok.blk b k hk
        have hlen : ((k.rows.drop off).take len).length = len := by simp; omega
        by_cases h0 : len = 0
        · subst h0
          rw [List.take_zero]
          exact .roNil _ _
        · have ho' := ho (by omega)
          have key : Rep w (fun b => S b ∨ (H b).isSome = true) (.ro ((k.rows.drop off).take len)) (.slice (some ⟨b, o, none⟩) ((k.rows.drop off).take len).length c) := by
            refine .ro b o c sz _ (fun i j => (arr'[(off + i) * k.sz + j]?).getD undef) (by omega) (.inr (by simp [hk])) (fun row hm => (hr row (List.mem_of_mem_drop (List.mem_of_mem_take hm))).trans h1) (fun i j hi hj => ?_) (fun i row hi j x hj => ?_)
            · rw [hlen] at hi
              have hrow : k.rows[off + i]? = some (k.rows[off + i]'(by omega)) := List.getElem?_eq_getElem _
              have hrl := hr _ (List.getElem_mem (show off + i < k.rows.length by omega))
              obtain ⟨v, e2, _, _⟩ := h4 (off + i) _ hrow j _ (List.getElem?_eq_getElem (by omega))
              rw [cell_blk e1, ho', ← h1, show off * k.sz + (i * k.sz + j) = (off + i) * k.sz + j by rw [Nat.add_mul]; omega, e2]
              rfl
            · have hlt := (List.getElem?_eq_some_iff.1 hi).1
              rw [hlen] at hlt
              rw [List.getElem?_take_of_lt hlt, List.getElem?_drop] at hi
              obtain ⟨v, e2, e3, _⟩ := h4 (off + i) row hi j x hj
              rw [e2]
              exact e3.mono (fun _ h => .inl h) (fun _ _ => rfl) (Grow.refl w)
          rw [hlen] at key
          exact key
      · exact .any _
    · exact .any _
  | pt b sz i j =>
    simp only [view1]
    split
    · rename_i k hk
      split
      · rename_i h1
        split
        · rename_i row hrow
          obtain ⟨arr', e1, hr, hsz, h4⟩ := hok.blk b k hk
          refine .rp b _ _ (fun q => (arr'[i * k.sz + (j + q)]?).getD undef) (.inr (by simp [hk])) (fun q hq => ?_) (fun q x hq => ?_)
          · simp only [List.length_drop] at hq
            obtain ⟨v, e2, _, _⟩ := h4 i row hrow (j + q) _ (List.getElem?_eq_getElem (by omega))
            rw [cell_blk e1, ← h1, Nat.add_assoc, e2]
            rfl
          · rw [List.getElem?_drop] at hq
            obtain ⟨v, e2, e3, _⟩ := h4 i row hrow (j + q) x hq
            rw [e2]
            exact e3.mono (fun _ h => .inl h) (fun _ _ => rfl) (Grow.refl w)
        · exact .any _
      · exact .any _
    · exact .any _
  | _ => exact hm

theorem view_sound {H : Heap} {x : AV} {u : Value} (hok : HeapOk w S H) (hx : Rep w S x u) : Rep w (fun b => S b ∨ (H b).isSome = true) (view H x) u := by
  cases hx with
  | agg cs vs hl hx =>
    refine .agg _ _ (by simpa using hl) fun j x u hj hu => ?_
    simp only [List.getElem?_map, Option.map_eq_some_iff] at hj
    obtain ⟨y, hy, rfl⟩ := hj
    exact view1_sound hok (hx j y u hy hu)
  | any => exact .any _
  | v => exact .v _
  | nil => exact view1_sound hok .nil
  | roNil A c => exact view1_sound hok (.roNil A c)
  | ro b o c sz rows us hc hS hr hu hx => exact view1_sound hok (.ro b o c sz rows us hc hS hr hu hx)
  | rp b o cs us hS hu hx => exact view1_sound hok (.rp b o cs us hS hu hx)
  | sl b sz off len o c hl ho arr ty fz hb ha => exact view1_sound hok (.sl b sz off len o c hl ho arr ty fz hb ha)
  | pt b sz i j => exact view1_sound hok (.pt b sz i j)
  | tup cs vs hl hx => exact view1_sound hok (.tup cs vs hl hx)
  | fn f cs vs hl hx => exact view1_sound hok (.fn f cs vs hl hx)

theorem view1_shut {H : Heap} {x : AV} {u : Value} (hs : x.shut1 = true) (hx : Rep w S x u) : Rep w S (view1 H x) u := by
  cases hx with
  | nil => exact .roNil none 0
  | sl => simp [AV.shut1] at hs
  | pt => simp [AV.shut1] at hs
  | any => exact .any _
  | v => exact .v _
  | roNil A c => exact .roNil A c
  | ro b o c sz rows us hc hS hr hu hx => exact .ro b o c sz rows us hc hS hr hu hx
  | rp b o cs us hS hu hx => exact .rp b o cs us hS hu hx
  | agg cs vs hl hx => exact .agg cs vs hl hx
  | tup cs vs hl hx => exact .tup cs vs hl hx
  | fn f cs vs hl hx => exact .fn f cs vs hl hx
theorem view_shut {H : Heap} {x : AV} {u : Value} (hs : x.shut = true) (hx : Rep w S x u) : Rep w S (view H x) u := by
  cases hx with
  | agg cs vs hl hx =>
    refine .agg _ _ (by simpa using hl) fun j x u hj hu => ?_
    simp only [List.getElem?_map, Option.map_eq_some_iff] at hj
    obtain ⟨y, hy, rfl⟩ := hj
    exact view1_shut (List.all_eq_true.1 hs y (List.mem_of_getElem? hy)) (hx j y u hy hu)
  | nil => exact .roNil none 0
  | sl => simp [AV.shut, AV.shut1] at hs
  | pt => simp [AV.shut, AV.shut1] at hs
  | any => exact .any _
  | v => exact .v _
  | roNil A c => exact .roNil A c
  | ro b o c sz rows us hc hS hr hu hx => exact .ro b o c sz rows us hc hS hr hu hx
  | rp b o cs us hS hu hx => exact .rp b o cs us hS hu hx
  | tup cs vs hl hx => exact .tup cs vs hl hx
  | fn f cs vs hl hx => exact .fn f cs vs hl hx

theorem plain1_rep {W W' : World} {S' : Nat → Prop} {x : AV} {u : Value} (hp : x.plain1 = true) (hx : Rep W S x u) : Rep W' S' x u := by
  cases hx <;> first | exact .any _ | exact .v _ | exact .nil | (simp [AV.plain1] at hp)
theorem plain_rep {W W' : World} {S' : Nat → Prop} {x : AV} {u : Value} (hp : x.plain = true) (hx : Rep W S x u) : Rep W' S' x u := by
  cases hx with
  | agg cs vs hl hx => exact .agg _ _ hl fun j x u hj hu => plain1_rep (List.all_eq_true.1 hp x (List.mem_of_getElem? hj)) (hx j x u hj hu)
  | tup cs vs hl hx => exact .tup _ _ hl fun j x u hj hu => plain1_rep (List.all_eq_true.1 hp x (List.mem_of_getElem? hj)) (hx j x u hj hu)
  | any => exact .any _
  | v => exact .v _
  | nil => exact .nil
  | _ => simp [AV.plain, AV.plain1] at hp

def noHeap : Heap := fun _ => none

/-- A call that writes nothing. -/
def callP (P : Program) (f : FuncId) (xs : List AV) (H : Heap) (K : AV → Heap → Prop) : Prop :=
  ∃ R : AV → Prop, CallsA P f (xs.map (view H)) noHeap (fun r H' => R r) ∧ (xs.all AV.shut = true ∨ ∀ r, R r → r.plain = true) ∧ (∃ r, R r) ∧ ∀ r, R r → K r H

def merge (H Hf H' : Heap) : Heap := fun b => match H' b with
  | some k => some k
  | none => if (Hf b).isSome then none else H b

/-- A call that is handed own blocks. -/
def callH (P : Program) (f : FuncId) (xs : List AV) (H : Heap) (N : Nat) (K : AV → Heap → Prop) : Prop :=
  ∃ (ys : List AV) (Hf : Heap) (post : AV → Heap → Prop), (∀ b k, Hf b = some k → H b = some k) ∧ CallsA P f ys Hf post ∧
    (ys.length = xs.length ∧ ∀ (j : Nat) (x y : AV), xs[j]? = some x → ys[j]? = some y → y = x ∨ x.shut = true ∧ y = view H x) ∧
    ∀ r H', post r H' → (∀ b, (H' b).isSome = true → (Hf b).isSome = true ∨ (H b = none ∧ N ≤ b)) → K r (merge H Hf H')

theorem calls_rel {W' : World} {S' : Nat → Prop} {Hf H' : Heap} (h : Rel c S s a w) (hsub : ∀ b k, Hf b = some k → s.H b = some k) (hok : HeapOk W' S' H') (hlow : ∀ b, S b → S' b) (hhigh : ∀ b, S' b → S b ∨ w.heap.size ≤ b) (hf : Frm ⟨w, S, fun b => (Hf b).isSome = true⟩ W' H') :
    (∀ b, (H' b).isSome = true → (Hf b).isSome = true ∨ (s.H b = none ∧ s.N ≤ b)) ∧ Rel c S' { s with H := merge s.H Hf H' } a W' := by
  have hsame : ∀ b, b < w.heap.size → (Hf b).isSome ≠ true → W'.heap[b]? = w.heap[b]? := fun b hb hd => hf.old b hb hd
  have hSsame : ∀ b, S b → W'.heap[b]? = w.heap[b]? := fun b hb => hsame b (h.ok.low b hb) (fun e => by
    obtain ⟨k, hk⟩ := Option.isSome_iff_exists.1 e
    exact h.ok.sep b k (hsub b k hk) hb)
  have hN : ∀ b, w.heap.size ≤ b → s.H b = none ∧ s.N ≤ b := fun b hb => ⟨by
    cases hq : s.H b with
    | none => rfl
    | some k => exact absurd (h.ok.blk b k hq).lt (by omega), by rw [h.base.1]; exact Nat.le_trans h.frm.size hb⟩
  have hdom : ∀ b, (H' b).isSome = true → (Hf b).isSome = true ∨ (s.H b = none ∧ s.N ≤ b) := fun b hb => by
    obtain ⟨k, hk⟩ := Option.isSome_iff_exists.1 hb
    rcases hf.dom b k hk with h1 | h1
    · exact .inl h1
    · exact .inr (hN b h1)
  have hcase : ∀ b k, merge s.H Hf H' b = some k → H' b = some k ∨ ((Hf b).isSome ≠ true ∧ s.H b = some k ∧ H' b = none) := by
    intro b k hk
    simp only [merge] at hk
    split at hk
    · rename_i k' hk'
      cases hk
      exact .inl hk'
    · rename_i hn
      split at hk
      · cases hk
      · exact .inr ⟨‹_›, hk, hn⟩
  refine ⟨hdom, h.base, h.defers, h.size, ⟨Nat.le_trans h.frm.size hf.size, fun b hb hd => ?_, fun b k hk => ?_, h.frm.grow.trans hf.grow⟩, fun b hb => hlow b (h.low b hb), fun b hb => ?_, fun i hi => (h.reps i hi).mono hlow hSsame hf.grow, ⟨fun b k hk hs => ?_, hok.low, fun b k hk => ?_⟩⟩
  · have hlt := Nat.lt_of_lt_of_le hb h.frm.size
    rw [hsame b hlt (fun e => ?_)]
    · exact h.frm.old b hb hd
    · obtain ⟨k, hk⟩ := Option.isSome_iff_exists.1 e
      rcases h.frm.dom b k (hsub b k hk) with h1 | h1
      · exact hd h1
      · omega
  · rcases hcase b k hk with h1 | ⟨_, h1, _⟩
    · rcases hf.dom b k h1 with h2 | h2
      · obtain ⟨k', hk'⟩ := Option.isSome_iff_exists.1 h2
        exact h.frm.dom b k' (hsub b k' hk')
      · exact .inr (Nat.le_trans h.frm.size h2)
    · exact h.frm.dom b k h1
  · rcases hhigh b hb with h1 | h1
    · exact h.high b h1
    · exact .inr (Nat.le_trans h.frm.size h1)
  · rcases hcase b k hk with h1 | ⟨_, h1, _⟩
    · exact hok.sep b k h1 hs
    · rcases hhigh b hs with h2 | h2
      · exact h.ok.sep b k h1 h2
      · rw [(hN b h2).1] at h1; cases h1
  · rcases hcase b k hk with h1 | ⟨h0, h1, _⟩
    · exact hok.blk b k h1
    · have hb := h.ok.blk b k h1
      exact hb.mono hlow hSsame hf.grow (hsame b hb.lt h0)

def callK (P : Program) (f : FuncId) (xs : List AV) (H : Heap) (N : Nat) (K : AV → Heap → Prop) : Prop := callP P f xs H K ∨ callH P f xs H N K

theorem heap_none {W : World} {S : Nat → Prop} (h : ∀ b, S b → b < W.heap.size) : HeapOk W S noHeap := by
  refine ⟨fun b k hk => ?_, h, fun b k hk => ?_⟩ <;> cases hk

theorem callK_sound {f : FuncId} {xs : List AV} {us : List Value} {d : Option Tmp} {K : St → Prop} (h : Rel c S s a w) (hv : Vals w S xs us) (hd : s.fits d) (hk : callK P f xs s.H s.N (s.out d K)) :
    Calls P f us.toArray w fun e W' => ∃ v s' S', e = .returned v ∧ K s' ∧ Rel c S' s' (a.put d v) W' := by
  rcases hk with ⟨R, hc, hsh, _, hK⟩ | ⟨ys, Hf, post, hsub, hc, hys, hK⟩
  · rcases hsh with hsh | hsh
    · refine (hc w S us ⟨by simpa using hv.1, fun j x u hj hu => ?_⟩ (heap_none h.ok.low) h.tabs).mono ?_
      · simp only [List.getElem?_map, Option.map_eq_some_iff] at hj
        obtain ⟨y, hy, rfl⟩ := hj
        exact view_shut (List.all_eq_true.1 hsh y (List.mem_of_getElem? hy)) (hv.2 j y u hy hu)
      · rintro e W' ⟨v, r, H', S', rfl, hR, hrep, hok, hlow, hhigh, hf⟩
        have hno : HeapOk W' S' noHeap := heap_none hok.low
        obtain ⟨_, hrel⟩ := calls_rel (Hf := noHeap) (H' := noHeap) h (fun b k hk => by cases hk) hno hlow hhigh ⟨hf.size, hf.old, fun b k hk => (by cases hk), hf.grow⟩
        have e : merge s.H noHeap noHeap = s.H := by funext b; simp [merge, noHeap]
        rw [e] at hrel
        exact ⟨v, s.put d r, S', rfl, hK r hR, hrel.put hd hrep⟩
    · refine (hc w (fun b => S b ∨ (s.H b).isSome = true) us ⟨by simpa using hv.1, fun j x u hj hu => ?_⟩ (heap_none fun b hb => ?_) (h.tabs.mono (fun _ hb => .inl hb) fun _ _ => rfl)).mono ?_
      · simp only [List.getElem?_map, Option.map_eq_some_iff] at hj
        obtain ⟨y, hy, rfl⟩ := hj
        exact view_sound h.ok (hv.2 j y u hy hu)
      · rcases hb with hb | hb
        · exact h.ok.low b hb
        · obtain ⟨k, hk⟩ := Option.isSome_iff_exists.1 hb
          exact (h.ok.blk b k hk).lt
      · rintro e W' ⟨v, r, H', S', rfl, hR, hrep, hok, hlow, hhigh, hf⟩
        have hlow2 : ∀ b, S b → b < W'.heap.size := fun b hb => Nat.lt_of_lt_of_le (h.ok.low b hb) hf.size
        obtain ⟨_, hrel⟩ := calls_rel (Hf := noHeap) (H' := noHeap) (S' := S) h (fun b k hk => by cases hk) (heap_none hlow2) (fun _ h => h) (fun _ h => .inl h) ⟨hf.size, fun b hb hd => hf.old b hb hd, fun b k hk => (by cases hk), hf.grow⟩
        have e : merge s.H noHeap noHeap = s.H := by funext b; simp [merge, noHeap]
        rw [e] at hrel
        exact ⟨v, s.put d r, S, rfl, hK r hR, hrel.put hd (plain_rep (hsh r hR) hrep)⟩
  · refine (hc w S us ⟨by rw [hv.1, hys.1], fun j y u hj hu => ?_⟩ ⟨fun b k hk => h.ok.sep b k (hsub b k hk), h.ok.low, fun b k hk => h.ok.blk b k (hsub b k hk)⟩ h.tabs).mono ?_
    · have hlt : j < xs.length := by rw [← hys.1]; exact (List.getElem?_eq_some_iff.1 hj).1
      have hx := List.getElem?_eq_getElem hlt
      have hrep := hv.2 j _ u hx hu
      rcases hys.2 j _ y hx hj with h1 | ⟨h1, h2⟩
      · rw [h1]; exact hrep
      · rw [h2]; exact view_shut h1 hrep
    · rintro e W' ⟨v, r, H', S', rfl, hp, hrep, hok, hlow, hhigh, hf⟩
      obtain ⟨hdom, hrel⟩ := calls_rel h hsub hok hlow hhigh hf
      exact ⟨v, _, S', rfl, hK r H' hp hdom, hrel.put hd hrep⟩

def tgt (g : Operand → AV) : Callee → Option (FuncId × List AV)
  | .value x => match g x with
    | .v (.func (.func f) fs cs) => if fs.size = 0 ∧ cs.size = 0 then some (f, []) else none
    | .fn f caps => some (f, caps)
    | _ => none
  | _ => none

def lenK (x : AV) (K : AV → Prop) : Prop := ∃ n, avLen x = some n ∧ K (.v (.int .i64 n))

def isSrc (ti : TI) : Prop := (∃ e, ti.kind = .slice e) ∨ ti.kind = .str

def biK (P : Program) (b : Builtin) (ts : List Nat) (xs : List AV) (H : Heap) (N : Nat) (K : AV → Heap → Prop) : Prop :=
  match b, ts, xs with
  | .len, [t], [x] => ∃ ti, tiOf P t = some ti ∧ isSrc ti ∧ (∀ q, x = .v (.string q) → ti.kind = .str) ∧ ((∀ q, x ≠ .v (.string q)) → ti.kind ≠ .str) ∧ lenK x fun y => K y H
  | .append, [t, tx], [x, y] => ∃ ti e tie tix, tiOf P t = some ti ∧ ti.kind = .slice e ∧ tiOf P e = some tie ∧ tiOf P tx = some tix ∧ isSrc tix ∧ apK tie e x y H N K
  | .copy, [t, tx], [x, y] => ∃ ti e tie tix, tiOf P t = some ti ∧ ti.kind = .slice e ∧ tiOf P e = some tie ∧ tiOf P tx = some tix ∧ isSrc tix ∧ cpK tie x y H K
  | .max, _, [.v (.int k x), .v (.int _ y)] => K (.v (.int k (if y > x then y else x))) H
  | .min, _, [.v (.int k x), .v (.int _ y)] => K (.v (.int k (if y < x then y else x))) H
  | _, _, _ => False

/-- One operation, of its operands and the memory. -/
def gA (P : Program) (op : Op) (g : Operand → AV) (H : Heap) (N : Nat) (K : AV → Heap → Prop) : Prop :=
  match op with
  | .move x | .assign x => K (g x) H
  | .pick q x y => ∃ b, g q = .v (.bool b) ∧ K (if b then g x else g y) H
  | .alloc T => ∃ ti, tiOf P T = some ti ∧ newK T ti.zero H N K
  | .box T x => newK T (g x).cells H N K
  | .build T ps => ∃ ti, tiOf P T = some ti ∧ buildK ti (ps.toList.map fun p => (p.1, g p.2)) fun y => K y H
  | .buildSlice T n ps => ∃ ti e tie, tiOf P T = some ti ∧ ti.kind = .slice e ∧ tiOf P e = some tie ∧ bsK tie e n (ps.toList.map fun p => (p.1, g p.2)) H N K
  | .load T x => ∃ ti, tiOf P T = some ti ∧ (ti.kind.agg = false → 0 < ti.size) ∧ loadK ti H (g x) fun y => K y H
  | .store T x y => ∃ ti, tiOf P T = some ti ∧ stK ti (g x) (g y) H K
  | .nilCheck x => match g x with
    | .pt .. | .rp .. => K (g x) H
    | _ => False
  | .binOp op T x y _ => binK P op T (g x) (g y) fun z => K z H
  | .unOp op _ x => unK op (g x) fun z => K z H
  | .convert src dst x => ∃ tis ti, tiOf P src = some tis ∧ tiOf P dst = some ti ∧ match ti.kind, tis.kind with
    | .str, .slice e => ∃ tie, tiOf P e = some tie ∧ tie.kind = .int .u8 ∧ cvS H (g x) fun z => K z H
    | _, _ => cvK ti (g x) fun z => K z H
  | .makeSlice T l n => ∃ ti e tie, tiOf P T = some ti ∧ ti.kind = .slice e ∧ tiOf P e = some tie ∧ mkK tie e (g l) (g n) H N K
  | .slice T x lo hi none => ∃ ti, tiOf P T = some ti ∧ match ti.kind with
    | .str => (∃ q, g x = .v (.string q)) ∧ slK 0 (g x) (lo.map g) (hi.map g) fun z => K z H
    | .slice e => (∀ q, g x ≠ .v (.string q)) ∧ ∃ tie, tiOf P e = some tie ∧ slK tie.size (g x) (lo.map g) (hi.map g) fun z => K z H
    | _ => False
  | .fieldAddr T x f => ∃ ti, tiOf P T = some ti ∧ faK ti f (g x) fun z => K z H
  | .field T x f => ∃ ti, tiOf P T = some ti ∧ fieldK P ti f (g x) fun z => K z H
  | .indexAddr T x i => ∃ ti e tie, tiOf P T = some ti ∧ ti.kind = .slice e ∧ tiOf P e = some tie ∧ iaK e tie.size (g x) (g i) fun z => K z H
  | .index T x i => ∃ ti, tiOf P T = some ti ∧ ti.kind = .str ∧ idxK (g x) (g i) fun z => K z H
  | .extract x i => exK (g x) i fun z => K z H
  | .call q => match q.callee with
    | .builtin b => biK P b q.argTypes.toList (q.args.toList.map g) H N K
    | _ => ∃ f caps, tgt g q.callee = some (f, caps) ∧ callable P f = true ∧ callK P f (q.args.toList.map g ++ caps) H N K
  | _ => False

/-- What must hold of the state for K to hold behind the operation. -/
def opA (P : Program) (o : Oper) (s : St) (K : St → Prop) : Prop := s.fits o.dst ∧ gA P o.op s.get s.H s.N (s.out o.dst K)

theorem repO_get (h : Rel c S s a w) (x : Option Operand) : RepO w S (x.map s.get) (x.map a.eval) := by
  cases x with
  | none => exact .none
  | some x => exact .some (h.get x)

theorem upon_val {o : Oper} {next : Act → World → Prop} {Q : Exit → Act → World → Prop} {f : Sem Value} (hf : (execOp a.eval o).run P w = (do pure (Next.value (← f)) : Sem Next).run P w) {v : Value} {w' : World} (hr : f.run P w = .ok v w') (hn : next (a.put o.dst v) w') : o.wp P a w next Q := by
  have : (execOp a.eval o).run P w = .ok (.value v) w' := by rw [hf]; simp [hr]
  unfold Oper.wp
  rw [this]
  exact hn
end
end Go.AF
