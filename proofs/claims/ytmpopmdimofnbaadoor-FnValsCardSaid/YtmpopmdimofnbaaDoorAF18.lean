import Derived.Test.YtmpopmdimofnbaaDoorAF17
/-! What is forgotten; loops. -/
namespace Go.AF
set_option linter.unusedVariables false
set_option linter.unusedSimpArgs false
open Go

/-- Slots that are kept. -/
def keepL : List Bool → List AV → List AV
  | true :: bs, x :: xs => x :: keepL bs xs
  | false :: bs, _ :: xs => .any :: keepL bs xs
  | [], xs => xs
  | _, [] => []
theorem keepL_length : ∀ (bs : List Bool) (xs : List AV), (keepL bs xs).length = xs.length
  | [], xs => rfl
  | true :: bs, [] => rfl
  | false :: bs, [] => rfl
  | true :: bs, x :: xs => by simp [keepL, keepL_length bs xs]
  | false :: bs, x :: xs => by simp [keepL, keepL_length bs xs]
theorem keepL_get : ∀ (bs : List Bool) (xs : List AV) (i : Nat), (keepL bs xs)[i]? = xs[i]? ∨ (keepL bs xs)[i]? = some .any
  | [], xs, i => .inl rfl
  | true :: bs, [], i => .inl rfl
  | false :: bs, [], i => .inl rfl
  | true :: bs, x :: xs, 0 => .inl rfl
  | false :: bs, x :: xs, 0 => .inr rfl
  | true :: bs, x :: xs, i + 1 => by simpa [keepL] using keepL_get bs xs i
  | false :: bs, x :: xs, i + 1 => by simpa [keepL] using keepL_get bs xs i

def Sub (H' H : Heap) : Prop := ∀ b k, H' b = some k → H b = some k
theorem Sub.refl (H : Heap) : Sub H H := fun _ _ h => h
theorem Sub.none (H : Heap) : Sub noHeap H := fun _ _ h => by cases h
theorem Sub.upd {H H' : Heap} (h : Sub H H') {b : Nat} {k : Blk} (hb : H' b = some k) : Sub (H.upd b (some k)) H' := fun c q hq => by
  simp only [Heap.upd] at hq
  split at hq
  · rename_i e; subst e; cases hq; exact hb
  · exact h c q hq

section
variable {P : Program} {c : Ctx P} {N : Nat} {rs : List AV} {H : Heap} {Q : Exit → St → Prop}

theorem tell_keep (bs : List Bool) {H' : Heap} (hs : Sub H' H) : Tell c (stL N rs H) (stL N (keepL bs rs) H') := fun S a w h => by
  refine ⟨S, h.base, h.defers, by rw [h.size]; simp [stL, keepL_length], ⟨h.frm.size, h.frm.old, fun b k hk => h.frm.dom b k (hs b k hk), h.frm.grow⟩, h.low, h.high, fun i hi => ?_, ⟨fun b k hk => h.ok.sep b k (hs b k hk), h.ok.low, fun b k hk => h.ok.blk b k (hs b k hk)⟩⟩
  have hi' : i < (stL N rs H).n := by simpa [stL, keepL_length] using hi
  have hr := h.reps i hi'
  simp only [stL] at hr ⊢
  rcases keepL_get bs rs i with e | e
  · rw [e]; exact hr
  · rw [e]; exact .any _

theorem WP.loopL {x : Code} (bs : List Bool) (I : Nat → List AV → Heap → Prop) {n : Nat} {H0 : Heap} (hs : Sub H0 H) (h0 : I n (keepL bs rs) H0)
    (round : ∀ n rs H, I n rs H → WP P c x (thenA (fun s' => ∃ rs' H' H'' n', s' = stL N rs' H' ∧ Sub H'' H' ∧ n' < n ∧ I n' (keepL bs rs') H'') Q) (stL N rs H)) : WP P c (.loop x) Q (stL N rs H) := by
  refine WP.tell (tell_keep bs hs) ?_
  refine WP.loop (fun n s => ∃ rs H, s = stL N rs H ∧ I n rs H) ⟨_, _, rfl, h0⟩ fun n s hI => ?_
  obtain ⟨rs, H, rfl, hI⟩ := hI
  refine (round n rs H hI).mono fun e s' h => ?_
  cases e with
  | normal =>
    obtain ⟨rs', H', H'', n', rfl, h1, h2, h3⟩ := h
    exact ⟨n', _, h2, tell_keep bs h1, _, _, rfl, h3⟩
  | _ => exact h
/-- The end of a round. -/
theorem roundL {bs : List Bool} {I : Nat → List AV → Heap → Prop} {n : Nat} (n' : Nat) (H'' : Heap) (hs : Sub H'' H) (hlt : n' < n) (h : I n' (keepL bs rs) H'') : ∃ rs' H' H'' n', stL N rs H = stL N rs' H' ∧ Sub H'' H' ∧ n' < n ∧ I n' (keepL bs rs') H'' :=
  ⟨_, _, H'', n', rfl, hs, hlt, h⟩
end
end Go.AF
