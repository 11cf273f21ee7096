import Derived.Test.YtmpopmdimofnbaaDoorAF25
namespace Go.AF
set_option linter.unusedVariables false
set_option linter.unusedSimpArgs false
open Go
theorem map_nat {α β : Type} [Inhabited α] {f : α → β} {l : List α} {i : Nat} (h : i < l.length) : (l.map f)[i]? = some (f (gt l i)) := by
  rw [List.getElem?_map, gt_nat h]; rfl
section
variable {P : Program} {N : Nat} {rs : List AV} {H : Heap}
theorem oBuildS {T : Nat} {ps : Array (Nat × Operand)} {ti : TI} {fs : List (Nat × Nat × Nat)} {out : List AV} {K : AV → Heap → Prop} (ht : tiOf P T = some ti) (hk : ti.kind = .struct fs) (h0 : (fs.all fun g => g.2.2 != 0) = true) (hf : fillA (placeOf fs) ti.zero (ps.toList.map fun p => (p.1, getL rs p.2)) = some out) (h : K (.agg out) H) : gS P (.build T ps) (getL rs) H N K := oBuild (P := P) (N := N) ht hk h0 hf h
end
end Go.AF
