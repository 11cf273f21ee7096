import Derived.Test.YtmpopmdimofnbaaDoorAF19
/-! Own memory that from now on is only read. -/
namespace Go.AF
set_option linter.unusedVariables false
set_option linter.unusedSimpArgs false
open Go

/-- What is told of a value when the blocks of H are only read: so many levels deep. -/
def dv (H : Heap) : Nat → AV → AV
  | 0, x => x
  | n + 1, .sl b sz off len => match H b with
    | some k => if k.sz = sz ∧ off + len ≤ k.rows.length then .ro (((k.rows.drop off).take len).map (List.map (dv H n))) else .sl b sz off len
    | none => .sl b sz off len
  | n + 1, .pt b sz i j => match H b with
    | some k => if k.sz = sz then (match k.rows[i]? with
      | some row => .rp ((row.drop j).map (dv H n))
      | none => .pt b sz i j) else .pt b sz i j
    | none => .pt b sz i j
  | n + 1, .nil => .ro []
  | n + 1, .agg cs => .agg (cs.map (dv H n))
  | n + 1, .tup cs => .tup (cs.map (dv H n))
  | n + 1, x => x

theorem dv_sound {w : World} {S S' : Nat → Prop} {H : Heap} (hblk : ∀ b k, H b = some k → BlkRep w S b k) (hS : ∀ b, S b → S' b) (hH : ∀ b k, H b = some k → S' b) : ∀ (n : Nat) {x : AV} {u : Value}, Rep w S x u → Rep w S' (dv H n x) u := by
  have up : ∀ {x : AV} {u : Value}, Rep w S x u → Rep w S' x u := fun h => h.mono hS (fun _ _ => rfl) (Grow.refl w)
  intro n
  induction n with
  | zero => exact fun h => up h
  | succ n ih =>
    intro x u hx
    have hm := up hx
    cases hx with
    | nil => exact .roNil none 0
    | sl b sz off len o c hl ho arr ty fz hb ha =>
      simp only [dv]
      split
      · rename_i k hk
        split
        · rename_i hc
          obtain ⟨h1, h2⟩ := hc
          obtain ⟨arr', e1, hr, hsz, h4⟩ := hblk b k hk
          have hlen : (((k.rows.drop off).take len).map (List.map (dv H n))).length = len := by simp; omega
          by_cases h0 : len = 0
          · subst h0
            rw [List.take_zero]
            exact .roNil _ _
          · have ho' := ho (by omega)
            have key : Rep w S' (.ro (((k.rows.drop off).take len).map (List.map (dv H n)))) (.slice (some ⟨b, o, none⟩) (((k.rows.drop off).take len).map (List.map (dv H n))).length c) := by
              refine .ro b o c sz _ (fun i j => (arr'[(off + i) * k.sz + j]?).getD undef) (by omega) (hH b k hk) (fun row hm => ?_) (fun i j hi hj => ?_) (fun i row hi j x hj => ?_)
              · obtain ⟨row', hm', rfl⟩ := List.mem_map.1 hm
                rw [List.length_map]
                exact (hr row' (List.mem_of_mem_drop (List.mem_of_mem_take hm'))).trans h1
              · rw [hlen] at hi
                have hrow : k.rows[off + i]? = some (k.rows[off + i]'(by omega)) := List.getElem?_eq_getElem _
                have hrl := hr _ (List.getElem_mem (show off + i < k.rows.length by omega))
                obtain ⟨v, e2, _, _⟩ := h4 (off + i) _ hrow j _ (List.getElem?_eq_getElem (by omega))
                rw [cell_blk e1, ho', ← h1, show off * k.sz + (i * k.sz + j) = (off + i) * k.sz + j by rw [Nat.add_mul]; omega, e2]
                rfl
              · have hlt := (List.getElem?_eq_some_iff.1 hi).1
                rw [hlen] at hlt
                rw [List.getElem?_map, List.getElem?_take_of_lt hlt, List.getElem?_drop, Option.map_eq_some_iff] at hi
                obtain ⟨row', hi', rfl⟩ := hi
                rw [List.getElem?_map, Option.map_eq_some_iff] at hj
                obtain ⟨x', hj', rfl⟩ := hj
                obtain ⟨v, e2, e3, _⟩ := h4 (off + i) row' hi' j x' hj'
                rw [e2]
                exact ih e3
            rw [hlen] at key
            exact key
        · exact hm
      · exact hm
    | pt b sz i j =>
      simp only [dv]
      split
      · rename_i k hk
        split
        · rename_i h1
          split
          · rename_i row hrow
            obtain ⟨arr', e1, hr, hsz, h4⟩ := hblk b k hk
            refine .rp b _ _ (fun q => (arr'[i * k.sz + (j + q)]?).getD undef) (hH b k hk) (fun q hq => ?_) (fun q x hq => ?_)
            · simp only [List.length_map, List.length_drop] at hq
              obtain ⟨v, e2, _, _⟩ := h4 i row hrow (j + q) _ (List.getElem?_eq_getElem (by omega))
              rw [cell_blk e1, ← h1, Nat.add_assoc, e2]
              rfl
            · rw [List.getElem?_map, Option.map_eq_some_iff] at hq
              obtain ⟨x', hq', rfl⟩ := hq
              rw [List.getElem?_drop] at hq'
              obtain ⟨v, e2, e3, _⟩ := h4 i row hrow (j + q) x' hq'
              rw [e2]
              exact ih e3
          · exact hm
        · exact hm
      · exact hm
    | agg cs vs hl hx =>
      refine .agg _ _ (by simpa using hl) fun j x u hj hu => ?_
      simp only [List.getElem?_map, Option.map_eq_some_iff] at hj
      obtain ⟨y, hy, rfl⟩ := hj
      exact ih (hx j y u hy hu)
    | tup cs vs hl hx =>
      refine .tup _ _ (by simpa using hl) fun j x u hj hu => ?_
      simp only [List.getElem?_map, Option.map_eq_some_iff] at hj
      obtain ⟨y, hy, rfl⟩ := hj
      exact ih (hx j y u hy hu)
    | any => exact hm
    | v => exact hm
    | roNil A c => exact hm
    | ro => exact hm
    | rp => exact hm
    | fn => exact hm

/-- The blocks of B. -/
def Heap.on (H : Heap) (B : Nat → Bool) : Heap := fun b => if B b then H b else none
def Heap.off (H : Heap) (B : Nat → Bool) : Heap := fun b => if B b then none else H b

theorem Rel.freeze {P : Program} {c : Ctx P} {S : Nat → Prop} {s : St} {a : Act} {w : World} (h : Rel c S s a w) (B : Nat → Bool) (n : Nat) (hB : ∀ b, B b = true → (s.H b).isSome = true → s.N ≤ b) :
    Rel c (fun b => S b ∨ ((s.H.on B) b).isSome = true) { s with H := s.H.off B, t := fun i => dv (s.H.on B) n (s.t i) } a w := by
  have hon : ∀ b k, (s.H.on B) b = some k → B b = true ∧ s.H b = some k := by
    intro b k hk
    simp only [Heap.on] at hk
    split at hk
    · exact ⟨‹_›, hk⟩
    · cases hk
  have hoff : ∀ b k, (s.H.off B) b = some k → B b ≠ true ∧ s.H b = some k := by
    intro b k hk
    simp only [Heap.off] at hk
    split at hk
    · cases hk
    · exact ⟨‹_›, hk⟩
  have hu : ∀ {x : AV} {u : Value}, Rep w S x u → Rep w (fun b => S b ∨ ((s.H.on B) b).isSome = true) x u := fun hx => hx.mono (fun _ h => .inl h) (fun _ _ => rfl) (Grow.refl w)
  refine ⟨h.base, h.defers, h.size, ⟨h.frm.size, h.frm.old, fun b k hk => h.frm.dom b k (hoff b k hk).2, h.frm.grow⟩, fun b hb => .inl (h.low b hb), fun b hb => ?_, fun i hi => ?_, ⟨fun b k hk hs => ?_, fun b hb => ?_, fun b k hk => ?_⟩⟩
  · rcases hb with hb | hb
    · exact h.high b hb
    · obtain ⟨k, hk⟩ := Option.isSome_iff_exists.1 hb
      obtain ⟨h1, h2⟩ := hon b k hk
      right
      have := hB b h1 (by rw [h2]; rfl)
      rw [h.base.1] at this
      exact this
  · exact dv_sound (S := S) (fun b k hk => h.ok.blk b k (hon b k hk).2) (fun _ h => .inl h) (fun b k hk => .inr (by rw [hk]; rfl)) n (h.reps i hi)
  · obtain ⟨h1, h2⟩ := hoff b k hk
    rcases hs with hs | hs
    · exact h.ok.sep b k h2 hs
    · obtain ⟨k', hk'⟩ := Option.isSome_iff_exists.1 hs
      exact h1 (hon b k' hk').1
  · rcases hb with hb | hb
    · exact h.ok.low b hb
    · obtain ⟨k, hk⟩ := Option.isSome_iff_exists.1 hb
      exact (h.ok.blk b k (hon b k hk).2).lt
  · exact (h.ok.blk b k (hoff b k hk).2).mono (fun _ h => .inl h) (fun _ _ => rfl) (Grow.refl w) rfl

section
variable {P : Program} {c : Ctx P} {N : Nat} {rs : List AV} {H : Heap} {Q : Exit → St → Prop}
theorem tell_freeze (B : Nat → Bool) (n : Nat) (hB : ∀ b, B b = true → (H b).isSome = true → N ≤ b) : Tell c (stL N rs H) (stL N (rs.map (dv (H.on B) n)) (H.off B)) := fun S a w h => by
  have h1 := h.freeze (s := stL N rs H) B n hB
  refine ⟨_, (Same.rel ?_ h1)⟩
  refine ⟨rfl, by simp [stL], rfl, fun i hi => ?_⟩
  have hi' : i < rs.length := hi
  show dv (H.on B) n ((rs[i]?).getD .any) = ((rs.map (dv (H.on B) n))[i]?).getD .any
  rw [List.getElem?_map, List.getElem?_eq_getElem hi']
  rfl
theorem WP.freeze {code : Code} (B : Nat → Bool) (n : Nat) (hB : ∀ b, B b = true → (H b).isSome = true → N ≤ b) (h : WP P c code Q (stL N (rs.map (dv (H.on B) n)) (H.off B))) : WP P c code Q (stL N rs H) := WP.tell (tell_freeze B n hB) h

theorem resL_mono {s : St} : ∀ (rl : List ResultVar) {A B : List AV → Prop}, (∀ x, A x → B x) → resL P s rl A → resL P s rl B := by
  intro rl
  induction rl with
  | nil => exact fun {A B} h k => h _ k
  | cons r rl ih =>
    intro A B h k
    unfold resL at k ⊢
    cases r with
    | tmp t => exact ih (fun xs hx => h _ hx) k
    | cell a t =>
      obtain ⟨ti, h1, h2, h3⟩ := k
      exact ⟨ti, h1, h2, (det_loadK _ _ _).mono (fun y hy => ih (fun xs hx => h _ hx) hy) h3⟩

/-- All that this call has made is only read from now on. -/
def old (N : Nat) (H : Heap) : Heap := fun b => if b < N then H b else none
def new (N : Nat) (H : Heap) : Heap := fun b => if b < N then none else H b
theorem retQ.frz {rl : List ResultVar} {post : AV → Heap → Prop} {e : Exit} (he : e = .normal ∨ e = .ret) (n : Nat) (h : resL P (stL N (rs.map (dv (new N H) n)) (old N H)) rl fun vs => ∃ H', (∀ b k, H' b = some k → b < N ∧ H b = some k) ∧ post (one vs) H') : retQ P c rl post e (stL N rs H) := by
  have e1 : H.on (fun b => !decide (b < N)) = new N H := by
    funext b
    by_cases hb : b < N <;> simp [Heap.on, new, hb]
  have e2 : H.off (fun b => !decide (b < N)) = old N H := by
    funext b
    by_cases hb : b < N <;> simp [Heap.off, old, hb]
  have ht := tell_freeze (c := c) (rs := rs) (H := H) (N := N) (fun b => !decide (b < N)) n (fun b hb _ => by simpa using hb)
  rw [e1, e2] at ht
  refine ⟨he, _, ht, resL_mono rl (fun vs hv => ?_) h⟩
  obtain ⟨H', h1, h2⟩ := hv
  refine ⟨H', fun b k hk => ?_, h2⟩
  obtain ⟨h3, h4⟩ := h1 b k hk
  show old N H b = some k
  simp [old, h3, h4]
/-- .. where nothing is left that is the caller's. -/
theorem retQ.frzP {rl : List ResultVar} {R : AV → Prop} {e : Exit} (he : e = .normal ∨ e = .ret) (n : Nat) (h : resL P (stL N (rs.map (dv (new N H) n)) (old N H)) rl fun vs => R (one vs)) : retQ P c rl (fun r _ => R r) e (stL N rs H) :=
  retQ.frz he n (resL_mono rl (fun vs hv => ⟨noHeap, fun b k hk => (by cases hk), hv⟩) h)
end
end Go.AF
