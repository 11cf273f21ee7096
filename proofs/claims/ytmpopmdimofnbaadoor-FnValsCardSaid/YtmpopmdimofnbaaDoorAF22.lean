import Derived.Test.YtmpopmdimofnbaaDoorAF21
/-! More steps. -/
namespace Go.AF
set_option linter.unusedVariables false
set_option linter.unusedSimpArgs false
open Go

theorem eqOf {b c : Bool} (h : b = c) : b = c := h
theorem neOf {b c : Bool} (h : b ≠ c) : b = !c := by cases b <;> cases c <;> simp_all
theorem neOfT {b : Bool} (h : b ≠ true) : b = false := by cases b <;> simp_all
theorem neOfF {b : Bool} (h : b ≠ false) : b = true := by cases b <;> simp_all
section
variable {P : Program} {c : Ctx P} {N : Nat} {rs : List AV} {H : Heap} {Q : Exit → St → Prop} {ops : Array Oper} {str : Nat → Bool} {i : Nat} {l : List Oper} {d : Option Tmp} {op : Op} {ty : TypeId} {pos : String} {after : Array Edge}
theorem oGt {KK : List AV → Heap → Prop} {g : Nat} {want b : Bool} (hy : yieldL ops rs g = some (some b)) (hb : b = want) (h1 : regO P ops str N KK i (⟨d, op, ty, pos, after, none⟩ :: l) rs H) : regO P ops str N KK i (⟨d, op, ty, pos, after, some (g, want)⟩ :: l) rs H :=
  oG hy (fun _ => h1) (fun h => absurd hb h)
theorem oGf {KK : List AV → Heap → Prop} {g : Nat} {want b : Bool} (hy : yieldL ops rs g = some (some b)) (hb : b = !want) (h2 : regO P ops str N KK (i + 1) l (putL rs d (.v undef)) H) : regO P ops str N KK i (⟨d, op, ty, pos, after, some (g, want)⟩ :: l) rs H :=
  oG hy (fun h => absurd h (by rw [hb]; cases want <;> simp)) (fun _ => h2)
theorem oPickT {q x y : Operand} {b : Bool} {K : AV → Heap → Prop} (hb : getL rs q = .v (.bool b)) (h : b = true) (h1 : K (getL rs x) H) : gA P (.pick q x y) (getL rs) H N K := oPick hb (fun _ => h1) (fun h' => by rw [h] at h'; cases h')
theorem oPickF {q x y : Operand} {b : Bool} {K : AV → Heap → Prop} (hb : getL rs q = .v (.bool b)) (h : b = false) (h1 : K (getL rs y) H) : gA P (.pick q x y) (getL rs) H N K := oPick hb (fun h' => by rw [h] at h'; cases h') (fun _ => h1)
theorem oPickTS {q x y : Operand} {b : Bool} {K : AV → Heap → Prop} (hb : getL rs q = .v (.bool b)) (h : b = true) (h1 : K (getL rs x) H) : gS P (.pick q x y) (getL rs) H N K := oPickT (P := P) (N := N) hb h h1
theorem oPickFS {q x y : Operand} {b : Bool} {K : AV → Heap → Prop} (hb : getL rs q = .v (.bool b)) (h : b = false) (h1 : K (getL rs y) H) : gS P (.pick q x y) (getL rs) H N K := oPickF (P := P) (N := N) hb h h1
theorem WP.condT {x : Operand} {t e : Code} {b : Bool} (hb : getL rs x = .v (.bool b)) (h : b = true) (h1 : WP P c t Q (stL N rs H)) : WP P c (.cond x t e) Q (stL N rs H) := WP.condB hb (fun _ => h1) (fun h' => by rw [h] at h'; cases h')
theorem WP.condF {x : Operand} {t e : Code} {b : Bool} (hb : getL rs x = .v (.bool b)) (h : b = false) (h1 : WP P c e Q (stL N rs H)) : WP P c (.cond x t e) Q (stL N rs H) := WP.condB hb (fun h' => by rw [h] at h'; cases h') (fun _ => h1)
end
theorem n11 : (1 + 1 : Nat) = 2 := rfl
theorem n12 : (1 + 2 : Nat) = 3 := rfl
theorem n21 : (2 + 1 : Nat) = 3 := rfl
theorem n13 : (1 + 3 : Nat) = 4 := rfl
theorem n31 : (3 + 1 : Nat) = 4 := rfl
theorem n22 : (2 + 2 : Nat) = 4 := rfl
theorem n23 : (2 + 3 : Nat) = 5 := rfl
theorem n32 : (3 + 2 : Nat) = 5 := rfl
theorem n14 : (1 + 4 : Nat) = 5 := rfl
theorem n41 : (4 + 1 : Nat) = 5 := rfl
theorem cellsInt (k : IntKind) (n : Int) : (AV.v (.int k n)).cells = [.v (.int k n)] := rfl
theorem cellsBool (b : Bool) : (AV.v (.bool b)).cells = [.v (.bool b)] := rfl
theorem WP.roP' {P : Program} {c : Ctx P} {N : Nat} {rs : List AV} {H : Heap} {Q : Exit → St → Prop} {code : Code} {b T n : Nat} {cs : List AV} (hb : H b = none) (hN : N ≤ b) (hl : cs.length = n) (h : WP P c code Q (stL N (rs.map (frP b cs)) H)) : WP P c code Q (stL N rs (H.upd b (some ⟨T, n, [cs]⟩))) := by
  subst hl
  exact WP.roP hb hN h
section
variable {P : Program} {ops : Array Oper} {str : Nat → Bool} {N i : Nat} {K : List AV → Heap → Prop} {l : List Oper} {rs : List AV} {H : Heap} {d : Option Tmp} {op : Op} {ty : TypeId} {pos : String} {after : Array Edge}
theorem pN (h : ∀ K' : AV → Heap → Prop, (∀ r H' rs', putL rs d r = rs' → regO P ops (fun _ => false) N K (i + 1) l rs' H' → K' r H') → gA P op (getL rs) H N K') : regO P ops (fun _ => false) N K i (⟨d, op, ty, pos, after, none⟩ :: l) rs H :=
  oN fun K' hK' => h K' fun r H' rs' e hr => hK' r H' (by rw [e]; exact hr)
theorem pS (hs : str i = true) (h : ∀ K' : AV → Heap → Prop, (∀ r H' rs', putL rs d r = rs' → regO P ops str N K (i + 1) l rs' H' → K' r H') → gS P op (getL rs) H N K') : regO P ops str N K i (⟨d, op, ty, pos, after, none⟩ :: l) rs H :=
  oS hs fun K' hK' => h K' fun r H' rs' e hr => hK' r H' (by rw [e]; exact hr)
theorem pE (hs : str i = false) (h : ∀ K' : AV → Heap → Prop, (∀ r H' rs', putL rs d r = rs' → regO P ops str N K (i + 1) l rs' H' → K' r H') → gA P op (getL rs) H N K') : regO P ops str N K i (⟨d, op, ty, pos, after, none⟩ :: l) rs H :=
  oE hs fun K' hK' => h K' fun r H' rs' e hr => hK' r H' (by rw [e]; exact hr)
theorem pGf {rs' : List AV} {g : Nat} {want b : Bool} (hy : yieldL ops rs g = some (some b)) (hb : b = !want) (e : putL rs d (.v undef) = rs') (h2 : regO P ops str N K (i + 1) l rs' H) : regO P ops str N K i (⟨d, op, ty, pos, after, some (g, want)⟩ :: l) rs H :=
  oGf hy hb (by rw [e]; exact h2)
theorem pG {rs' : List AV} {g : Nat} {want b : Bool} (hy : yieldL ops rs g = some (some b)) (h1 : b = want → regO P ops str N K i (⟨d, op, ty, pos, after, none⟩ :: l) rs H) (e : putL rs d (.v undef) = rs') (h2 : b ≠ want → regO P ops str N K (i + 1) l rs' H) : regO P ops str N K i (⟨d, op, ty, pos, after, some (g, want)⟩ :: l) rs H :=
  oG hy h1 (fun hb => by rw [e]; exact h2 hb)
end
theorem take_map {α β : Type} (f : α → β) (l : List α) : (l.map f).take l.length = l.map f := by
  rw [List.take_of_length_le (by simp)]
theorem size_lit (a : Array UInt8) : (ByteArray.mk a).size = a.size := rfl

/-! A slice literal of scalars. -/
theorem splice_end (cs : List AV) (x : AV) (k : Nat) : splice (cs ++ List.replicate (k + 1) .any) cs.length [x] = (cs ++ [x]) ++ List.replicate k .any := by
  unfold splice
  simp [List.replicate_succ]
theorem fill_scalars : ∀ (xs cs : List AV), (∀ x ∈ xs, x.cells = [x] ∧ x.cell = true) → fillA (fun i => some (i * 1, 1)) (cs ++ List.replicate xs.length .any) ((xs.zipIdx cs.length).map fun p => (p.2, p.1)) = some (cs ++ xs) := by
  intro xs
  induction xs with
  | nil => intro cs _; simp [fillA]
  | cons x xs ih =>
    intro cs h
    obtain ⟨h1, h2⟩ := h x (by simp)
    simp only [List.zipIdx_cons, List.map_cons, fillA, Nat.mul_one, h1, List.length_cons, List.length_nil, List.all_cons, List.all_nil, h2]
    rw [if_pos (by simp), splice_end]
    have := ih (cs ++ [x]) (fun y hy => h y (by simp [hy]))
    simpa using this
theorem chunk_one : ∀ (xs : List AV), chunk 1 xs.length xs = xs.map fun x => [x] := by
  intro xs
  apply List.ext_getElem?
  intro i
  unfold chunk
  by_cases h : i < xs.length
  · simp [h, List.take_one]
  · simp [h]
theorem oBSs {P : Program} {rs : List AV} {H : Heap} {N : Nat} {T e : Nat} {ps : Array (Nat × Operand)} {ti tie : TI} {K : AV → Heap → Prop} (xs : List AV) (ht : tiOf P T = some ti) (hk : ti.kind = .slice e) (hte : tiOf P e = some tie) (h1 : tie.size = 1) (hn : xs.length ≤ 16777216)
    (hps : (ps.toList.map fun p => (p.1, getL rs p.2)) = (xs.zipIdx 0).map fun p => (p.2, p.1)) (hx : ∀ x ∈ xs, x.cells = [x] ∧ x.cell = true) (h : ∀ b, H b = none → N ≤ b → K (.sl b 1 0 xs.length) (H.upd b (some ⟨e, 1, xs.map fun x => [x]⟩))) : gA P (.buildSlice T xs.length ps) (getL rs) H N K := by
  refine ⟨ti, e, tie, ht, hk, hte, by omega, by rw [h1]; omega, xs, ?_, List.all_eq_true.2 fun x hm => (hx x hm).2, by rw [h1]; omega, ?_⟩
  · rw [hps, h1]
    have := fill_scalars xs [] hx
    simpa using this
  · rw [h1, chunk_one]
    exact h
end Go.AF
