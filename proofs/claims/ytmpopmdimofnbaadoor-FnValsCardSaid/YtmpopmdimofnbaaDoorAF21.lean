import Derived.Test.YtmpopmdimofnbaaDoorAF20
import Derived.KernelRfl
/-! Words for walks. -/
namespace Go.AF
set_option linter.unusedVariables false
set_option linter.unusedSimpArgs false
open Go

/-! What omega decides (conditional rewriting). -/
theorem leT {a b : Int} (h : a ≤ b) : (a ≤ b) = True := eq_true h
theorem leF {a b : Int} (h : b < a) : (a ≤ b) = False := eq_false (by omega)
theorem ltT {a b : Int} (h : a < b) : (a < b) = True := eq_true h
theorem ltF {a b : Int} (h : b ≤ a) : (a < b) = False := eq_false (by omega)
theorem eqF {a b : Int} (h : a ≠ b) : (a = b) = False := eq_false h
theorem nleT {a b : Nat} (h : a ≤ b) : (a ≤ b) = True := eq_true h
theorem nltT {a b : Nat} (h : a < b) : (a < b) = True := eq_true h
theorem neqF {a b : Nat} (h : a ≠ b) : (a = b) = False := eq_false h
theorem wI64 {n : Int} (h1 : -9223372036854775808 ≤ n) (h2 : n ≤ 9223372036854775807) : IntKind.i64.wrap n = n := by
  simp [IntKind.wrap, IntKind.bits, IntKind.signed]
  split <;> omega
theorem wU64 {n : Int} (h1 : 0 ≤ n) (h2 : n ≤ 18446744073709551615) : IntKind.u64.wrap n = n := by
  simp [IntKind.wrap, IntKind.bits, IntKind.signed]
  omega
theorem wU8 {n : Int} (h1 : 0 ≤ n) (h2 : n ≤ 255) : IntKind.u8.wrap n = n := by
  simp [IntKind.wrap, IntKind.bits, IntKind.signed]
  omega

/-- An element of a list. -/
def gt {α : Type} [Inhabited α] (l : List α) (i : Int) : α := l.getD i.toNat default
theorem gt_get {α : Type} [Inhabited α] {l : List α} {i : Int} (h : i.toNat < l.length) : l[i.toNat]? = some (gt l i) := by
  unfold gt
  rw [List.getD_eq_getElem?_getD, List.getElem?_eq_getElem h]
  rfl
theorem map_get {α β : Type} [Inhabited α] {f : α → β} {l : List α} {i : Int} (h : i.toNat < l.length) : (l.map f)[i.toNat]? = some (f (gt l i)) := by
  rw [List.getElem?_map, gt_get h]
  rfl
theorem gt_nat {α : Type} [Inhabited α] {l : List α} {i : Nat} (h : i < l.length) : l[i]? = some (gt l i) := by
  have := gt_get (l := l) (i := (i : Int)) (by simpa using h)
  simpa using this
theorem gt_eq {α : Type} [Inhabited α] {l : List α} {i : Nat} (h : i < l.length) : gt l i = l[i] := by
  have h1 := gt_nat h
  rw [List.getElem?_eq_getElem h] at h1
  exact (Option.some.inj h1).symm
theorem gt_mem {α : Type} [Inhabited α] {l : List α} {i : Int} (h : i.toNat < l.length) : gt l i ∈ l := List.mem_of_getElem? (gt_get h)

/-! Boxes that are only read. -/
def frP (b : Nat) (cs : List AV) : AV → AV
  | .pt b' sz i j => if b' = b ∧ sz = cs.length ∧ i = 0 then .rp (cs.drop j) else .pt b' sz i j
  | x => x
def frS (b sz : Nat) (rows : List (List AV)) : AV → AV
  | .sl b' sz' off len => if b' = b ∧ sz' = sz ∧ off + len ≤ rows.length then .ro ((rows.drop off).take len) else .sl b' sz' off len
  | x => x
theorem frP_dv (b T : Nat) (cs : List AV) {w : World} {S : Nat → Prop} {x : AV} {u : Value} (h : Rep w S (dv (only b ⟨T, cs.length, [cs]⟩) 1 x) u) (h0 : Rep w S x u) : Rep w S (frP b cs x) u := by
  unfold frP
  split
  · rename_i b' sz i j
    split
    · rename_i hc
      obtain ⟨rfl, rfl, rfl⟩ := hc
      simp only [dv, only_self, if_true, List.getElem?_cons_zero] at h
      simpa using h
    · exact h0
  · exact h0
theorem frS_dv (b T sz : Nat) (rows : List (List AV)) {w : World} {S : Nat → Prop} {x : AV} {u : Value} (h : Rep w S (dv (only b ⟨T, sz, rows⟩) 1 x) u) (h0 : Rep w S x u) : Rep w S (frS b sz rows x) u := by
  unfold frS
  split
  · rename_i b' sz' off len
    split
    · rename_i hc
      obtain ⟨rfl, rfl, hle⟩ := hc
      simp only [dv, only_self, true_and, if_pos hle] at h
      simpa using h
    · exact h0
  · exact h0

section
variable {P : Program} {c : Ctx P} {N : Nat} {rs : List AV} {H : Heap} {Q : Exit → St → Prop} {code : Code}
theorem WP.roK {b : Nat} {k : Blk} (g : AV → AV) (hg : ∀ {w : World} {S : Nat → Prop} {x : AV} {u : Value}, Rep w S (dv (only b k) 1 x) u → Rep w S x u → Rep w S (g x) u)
    (hk : H b = some k) (hN : N ≤ b) (h : WP P c code Q (stL N (rs.map g) (H.upd b none))) : WP P c code Q (stL N rs H) := by
  refine WP.tell (fun S a w hr => ?_) h
  have h1 := hr.freeze (s := stL N rs H) (fun c => decide (c = b)) 1 (fun c hc _ => by
    have : c = b := by simpa using hc
    subst this; exact hN)
  have e1 : (stL N rs H).H.on (fun c => decide (c = b)) = only b k := by
    funext c
    by_cases hc : c = b
    · subst hc; rw [only_self]; simp [Heap.on, stL, hk]
    · simp [Heap.on, hc, only, Heap.upd, noHeap]
  have e2 : (stL N rs H).H.off (fun c => decide (c = b)) = H.upd b none := by
    funext c
    by_cases hc : c = b <;> simp [Heap.off, hc, Heap.upd, stL]
  rw [e1, e2] at h1
  refine ⟨_, h1.base, h1.defers, ?_, h1.frm, h1.low, h1.high, fun i hi => ?_, h1.ok⟩
  · rw [hr.size]; simp [stL]
  · have hi' : i < rs.length := by simpa [stL] using hi
    have hx : (stL N rs H).t i = rs[i] := by show (rs[i]?).getD .any = _; rw [List.getElem?_eq_getElem hi']; rfl
    have hy : (stL N (rs.map g) (H.upd b none)).t i = g rs[i] := by
      show ((rs.map g)[i]?).getD .any = _
      rw [List.getElem?_map, List.getElem?_eq_getElem hi']; rfl
    rw [hy]
    have a1 := h1.reps i hi'
    have a2 := hr.reps i hi'
    simp only [hx] at a1 a2
    exact hg a1 (a2.mono (fun _ h => .inl h) (fun _ _ => rfl) (Grow.refl w))
theorem upd_off {b : Nat} {k : Blk} (hb : H b = none) : (H.upd b (some k)).upd b none = H := by
  funext c
  by_cases hc : c = b
  · subst hc; simp [Heap.upd, hb]
  · simp [Heap.upd, hc]
theorem WP.roP {b T : Nat} {cs : List AV} (hb : H b = none) (hN : N ≤ b) (h : WP P c code Q (stL N (rs.map (frP b cs)) H)) : WP P c code Q (stL N rs (H.upd b (some ⟨T, cs.length, [cs]⟩))) := by
  refine WP.roK (k := ⟨T, cs.length, [cs]⟩) (frP b cs) (frP_dv b T cs) (Heap.upd_self ..) hN ?_
  rw [upd_off hb]
  exact h
theorem WP.roS {b T sz : Nat} {rows : List (List AV)} (hb : H b = none) (hN : N ≤ b) (h : WP P c code Q (stL N (rs.map (frS b sz rows)) H)) : WP P c code Q (stL N rs (H.upd b (some ⟨T, sz, rows⟩))) := by
  refine WP.roK (k := ⟨T, sz, rows⟩) (frS b sz rows) (frS_dv b T sz rows) (Heap.upd_self ..) hN ?_
  rw [upd_off hb]
  exact h

/-! Ends. -/
theorem retQ.frzT {t : Tmp} {R : AV → Prop} (n : Nat) (h : R (dv (new N H) n (getL rs (.tmp t)))) : retQ P c [.tmp t] (fun r _ => R r) .ret (stL N rs H) := by
  refine retQ.frzP (.inr rfl) n ?_
  show R (one [(stL N (rs.map (dv (new N H) n)) (old N H)).get (.tmp t)])
  rw [stL_get]
  show R (((rs.map (dv (new N H) n))[t]?).getD .any)
  have e : ((rs.map (dv (new N H) n))[t]?).getD .any = dv (new N H) n ((rs[t]?).getD .any) := by
    rw [List.getElem?_map]
    cases rs[t]? with
    | none => cases n <;> rfl
    | some x => rfl
  rw [e]
  exact h
theorem retQ.frzT2 {t t' : Tmp} {R : AV → Prop} (n : Nat) (h : R (.tup [dv (new N H) n (getL rs (.tmp t)), dv (new N H) n (getL rs (.tmp t'))])) : retQ P c [.tmp t, .tmp t'] (fun r _ => R r) .ret (stL N rs H) := by
  refine retQ.frzP (.inr rfl) n ?_
  have e : ∀ t, (stL N (rs.map (dv (new N H) n)) (old N H)).get (.tmp t) = dv (new N H) n (getL rs (.tmp t)) := fun t => by
    rw [stL_get]
    show ((rs.map (dv (new N H) n))[t]?).getD .any = dv (new N H) n ((rs[t]?).getD .any)
    rw [List.getElem?_map]
    cases rs[t]? with
    | none => cases n <;> rfl
    | some x => rfl
  show R (one [(stL N (rs.map (dv (new N H) n)) (old N H)).get (.tmp t), (stL N (rs.map (dv (new N H) n)) (old N H)).get (.tmp t')])
  rw [e t, e t']
  exact h
theorem retQ.tmp2 {t t' : Tmp} {R : AV → Prop} (h : R (.tup [getL rs (.tmp t), getL rs (.tmp t')])) : retQ P c [.tmp t, .tmp t'] (fun r _ => R r) .ret (stL N rs H) := by
  refine retQ.pure ?_
  show R (one [(stL N rs H).get (.tmp t), (stL N rs H).get (.tmp t')])
  rw [stL_get]
  exact h
end

/-! Calls. -/
section
variable {P : Program} {N : Nat} {rs : List AV} {H : Heap}
/-- .. that give what is only read, of what is only read. -/
theorem cQ {f : FuncId} {args : Array Operand} {tys : Array TypeId} {ys : List AV} {v : AV} {K : AV → Heap → Prop} (hc : callable P f = true) (h : CallsA P f ys noHeap (fun r _ => r = v)) (hx : (args.toList.map (getL rs)).map (view H) = ys) (hv : (args.toList.map (getL rs)).all AV.shut = true) (hk : K v H) :
    gA P (.call { callee := .value (.func f), args := args, argTypes := tys }) (getL rs) H N K := callA_fn hc (.inl (callP_r h hx hv hk))
theorem cQS {f : FuncId} {args : Array Operand} {tys : Array TypeId} {ys : List AV} {v : AV} {K : AV → Heap → Prop} (hc : callable P f = true) (h : CallsA P f ys noHeap (fun r _ => r = v)) (hx : (args.toList.map (getL rs)).map (view H) = ys) (hv : (args.toList.map (getL rs)).all AV.shut = true) (hk : K v H) :
    gS P (.call { callee := .value (.func f), args := args, argTypes := tys }) (getL rs) H N K := callS_fn hc (callP_r h hx hv hk)
/-- .. of which only something is known. -/
theorem cR {f : FuncId} {args : Array Operand} {tys : Array TypeId} {ys : List AV} {R : AV → Prop} {K : AV → Heap → Prop} (hc : callable P f = true) (h : CallsA P f ys noHeap (fun r _ => R r)) (hx : (args.toList.map (getL rs)).map (view H) = ys) (hv : (args.toList.map (getL rs)).all AV.shut = true) (he : ∃ r, R r) (hk : ∀ r, R r → K r H) :
    gA P (.call { callee := .value (.func f), args := args, argTypes := tys }) (getL rs) H N K := callA_fn hc (.inl ⟨R, by rw [hx]; exact h, .inl hv, he, hk⟩)
theorem cRS {f : FuncId} {args : Array Operand} {tys : Array TypeId} {ys : List AV} {R : AV → Prop} {K : AV → Heap → Prop} (hc : callable P f = true) (h : CallsA P f ys noHeap (fun r _ => R r)) (hx : (args.toList.map (getL rs)).map (view H) = ys) (hv : (args.toList.map (getL rs)).all AV.shut = true) (he : ∃ r, R r) (hk : ∀ r, R r → K r H) :
    gS P (.call { callee := .value (.func f), args := args, argTypes := tys }) (getL rs) H N K := callS_fn hc ⟨R, by rw [hx]; exact h, .inl hv, he, hk⟩
end

/-! A list that the call is making. -/
def OwnL {α : Type} (N e sz : Nat) (f : α → List AV) (l : List α) (x : AV) (H : Heap) : Prop :=
  x = .nil ∧ l = [] ∨ ∃ b, N ≤ b ∧ x = .sl b sz 0 l.length ∧ H b = some ⟨e, sz, l.map f⟩
end Go.AF
