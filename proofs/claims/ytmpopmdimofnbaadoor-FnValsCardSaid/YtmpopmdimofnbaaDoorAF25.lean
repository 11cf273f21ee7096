import Derived.Test.YtmpopmdimofnbaaDoorAF24
/-! Boxes that are only read, once more. -/
namespace Go.AF
set_option linter.unusedVariables false
set_option linter.unusedSimpArgs false
open Go
section
variable {b sz' : Nat} {cs : List AV} {rows : List (List AV)}
theorem frP_pt {b' sz i j : Nat} : frP b cs (.pt b' sz i j) = if b' = b ∧ sz = cs.length ∧ i = 0 then .rp (cs.drop j) else .pt b' sz i j := rfl
theorem frP_any : frP b cs .any = .any := rfl
theorem frP_v {x : Value} : frP b cs (.v x) = .v x := rfl
theorem frP_nil : frP b cs .nil = .nil := rfl
theorem frP_ro {x : List (List AV)} : frP b cs (.ro x) = .ro x := rfl
theorem frP_rp {x : List AV} : frP b cs (.rp x) = .rp x := rfl
theorem frP_agg {x : List AV} : frP b cs (.agg x) = .agg x := rfl
theorem frP_tup {x : List AV} : frP b cs (.tup x) = .tup x := rfl
theorem frP_fn {g : Nat} {x : List AV} : frP b cs (.fn g x) = .fn g x := rfl
theorem frP_sl {b' s o n : Nat} : frP b cs (.sl b' s o n) = .sl b' s o n := rfl
theorem frS_sl {b' s off len : Nat} : frS b sz' rows (.sl b' s off len) = if b' = b ∧ s = sz' ∧ off + len ≤ rows.length then .ro ((rows.drop off).take len) else .sl b' s off len := rfl
theorem frS_any : frS b sz' rows .any = .any := rfl
theorem frS_v {x : Value} : frS b sz' rows (.v x) = .v x := rfl
theorem frS_nil : frS b sz' rows .nil = .nil := rfl
theorem frS_ro {x : List (List AV)} : frS b sz' rows (.ro x) = .ro x := rfl
theorem frS_rp {x : List AV} : frS b sz' rows (.rp x) = .rp x := rfl
theorem frS_agg {x : List AV} : frS b sz' rows (.agg x) = .agg x := rfl
theorem frS_tup {x : List AV} : frS b sz' rows (.tup x) = .tup x := rfl
theorem frS_fn {g : Nat} {x : List AV} : frS b sz' rows (.fn g x) = .fn g x := rfl
theorem frS_pt {b' s i j : Nat} : frS b sz' rows (.pt b' s i j) = .pt b' s i j := rfl
theorem frP_own {α : Type} {N e sz : Nat} {f : α → List AV} {l : List α} {x : AV} {H : Heap} (h : OwnL N e sz f l x H) : frP b cs x = x := by
  rcases h with ⟨rfl, rfl⟩ | ⟨c, _, rfl, _⟩ <;> rfl
theorem frS_own {α : Type} {N e sz : Nat} {f : α → List AV} {l : List α} {x : AV} {H : Heap} (h : OwnL N e sz f l x H) (hb : H b = none) : frS b sz' rows x = x := by
  rcases h with ⟨rfl, rfl⟩ | ⟨c, _, rfl, hc⟩
  · rfl
  · rw [frS_sl, if_neg]
    rintro ⟨rfl, _⟩
    rw [hb] at hc; cases hc
end
end Go.AF
namespace Go.AF
open Go
theorem OwnL.upd2 {α : Type} {N e sz b : Nat} {f : α → List AV} {l : List α} {x : AV} {H : Heap} {k : Option Blk} (h : OwnL N e sz f l x H) (ha : Apart x b) : OwnL N e sz f l x (H.upd b k) := by
  rcases h with h | ⟨c, h1, h2, h3⟩
  · exact .inl h
  · refine .inr ⟨c, h1, h2, ?_⟩
    rw [Heap.upd_ne _ _ (fun hc => ha _ _ _ (by rw [h2, hc]))]
    exact h3
end Go.AF
