import Derived.Test.YtmpopmdimofnbaaDoorAF16
/-! Steps, in the form in which they are taken. -/
namespace Go.AF
set_option linter.unusedVariables false
set_option linter.unusedSimpArgs false
open Go

section
variable {P : Program} {c : Ctx P} {s : St} {Q : Exit → St → Prop} {N : Nat} {rs : List AV} {H : Heap}

theorem WP.condB {x : Operand} {t e : Code} {b : Bool} (hb : getL rs x = .v (.bool b)) (h1 : b = true → WP P c t Q (stL N rs H)) (h2 : b = false → WP P c e Q (stL N rs H)) : WP P c (.cond x t e) Q (stL N rs H) := by
  refine WP.cond (b := b) (by rw [stL_get]; exact hb) ?_
  cases b
  · exact h2 rfl
  · exact h1 rfl

theorem thenX {K : St → Prop} {id : Nat} (h : Q (.exit id) s) : thenA K Q (.exit id) s := h
theorem thenR {K : St → Prop} (h : Q .ret s) : thenA K Q .ret s := h
theorem thenN {K : St → Prop} (h : K s) : thenA K Q .normal s := h
theorem blkR {id : Nat} (h : Q .ret s) : inBlockA id Q .ret s := h
theorem blkZ {id : Nat} (h : Q .normal s) : inBlockA id Q .normal s := h
theorem blkX {id : Nat} (h : Q .normal s) : inBlockA id Q (.exit id) s := by simp only [inBlockA, if_true]; exact h
theorem blkN {id id' : Nat} (hne : Nat.beq id' id = false) (h : Q (.exit id') s) : inBlockA id Q (.exit id') s := by
  have : id' ≠ id := fun e => by subst e; simp at hne
  simp only [inBlockA, this, if_false]; exact h

theorem retQ.ret {rl : List ResultVar} {post : AV → Heap → Prop} (h : resL P s rl fun vs => ∃ H', (∀ b k, H' b = some k → s.H b = some k) ∧ post (one vs) H') : retQ P c rl post .ret s :=
  ⟨.inr rfl, s, Tell.refl _ _, h⟩
theorem retQ.pure {rl : List ResultVar} {R : AV → Prop} (h : resL P s rl fun vs => R (one vs)) : retQ P c rl (fun r _ => R r) .ret s := by
  refine retQ.ret ?_
  revert h
  have mono : ∀ (rl : List ResultVar) (A B : List AV → Prop), (∀ x, A x → B x) → resL P s rl A → resL P s rl B := by
    intro rl
    induction rl with
    | nil => exact fun A B h k => h _ k
    | cons r rl ih =>
      intro A B h k
      unfold resL at k ⊢
      cases r with
      | tmp t => exact ih _ _ (fun xs hx => h _ hx) k
      | cell a t =>
        obtain ⟨ti, h1, h2, h3⟩ := k
        exact ⟨ti, h1, h2, (det_loadK _ _ _).mono (fun y hy => ih _ _ (fun xs hx => h _ hx) hy) h3⟩
  exact mono _ _ _ fun x hx => ⟨noHeap, ⟨fun b k hk => (by cases hk), hx⟩⟩
/-- One result, of a slot. -/
theorem retQ.tmp {t : Tmp} {R : AV → Prop} (h : R (getL rs (.tmp t))) : retQ P c [.tmp t] (fun r _ => R r) .ret (stL N rs H) := by
  refine retQ.pure ?_
  show R (one [(stL N rs H).get (.tmp t)])
  rw [stL_get]
  exact h
theorem retQ.cell {a : Tmp} {T : Nat} {ti : TI} {R : AV → Prop} (ht : tiOf P T = some ti) (hs : ti.kind.agg = false → 0 < ti.size) (h : loadK ti H (getL rs (.tmp a)) R) : retQ P c [.cell a T] (fun r _ => R r) .ret (stL N rs H) := by
  refine retQ.pure ?_
  refine ⟨ti, ht, hs, ?_⟩
  rw [stL_get]
  exact h

theorem gReg {ops : Array Oper} {str : Nat → Bool} {K : List AV → Heap → Prop} {i : Nat} {l : List Oper} (h : regO P ops str N K i l rs H) : regO P ops str N K i l rs H := h
theorem gCall {q : Call} {g : Operand → AV} {K : AV → Heap → Prop} (h : gA P (.call q) g H N K) : gA P (.call q) g H N K := h
theorem gCallS {q : Call} {g : Operand → AV} {K : AV → Heap → Prop} (h : gS P (.call q) g H N K) : gS P (.call q) g H N K := h
theorem gPick {x y z : Operand} {g : Operand → AV} {K : AV → Heap → Prop} (h : gA P (.pick x y z) g H N K) : gA P (.pick x y z) g H N K := h
theorem gPickS {x y z : Operand} {g : Operand → AV} {K : AV → Heap → Prop} (h : gS P (.pick x y z) g H N K) : gS P (.pick x y z) g H N K := h
theorem one_int (k : IntKind) (n : Int) : (Value.int k n).oneCell' = true := rfl
theorem one_bool (b : Bool) : (Value.bool b).oneCell' = true := rfl
theorem one_string (x : ByteArray) : (Value.string x).oneCell' = true := rfl
theorem upd_none {H : Heap} {b c : Nat} {k : Blk} (h : (H.upd b (some k)) c = none) : c ≠ b ∧ H c = none := by
  by_cases e : c = b
  · subst e; rw [H.upd_self] at h; cases h
  · exact ⟨e, by rw [H.upd_ne _ e] at h; exact h⟩
theorem upd_ne' {H : Heap} {b c : Nat} {k : Option Blk} (h : b ≠ c) : (H.upd b k) c = H c := H.upd_ne k (Ne.symm h)
theorem oPick {q x y : Operand} {b : Bool} {K : AV → Heap → Prop} (hb : getL rs q = .v (.bool b)) (h1 : b = true → K (getL rs x) H) (h2 : b = false → K (getL rs y) H) : gA P (.pick q x y) (getL rs) H N K := by
  refine ⟨b, hb, ?_⟩
  cases b
  · exact h2 rfl
  · exact h1 rfl
theorem oPickS {q x y : Operand} {b : Bool} {K : AV → Heap → Prop} (hb : getL rs q = .v (.bool b)) (h1 : b = true → K (getL rs x) H) (h2 : b = false → K (getL rs y) H) : gS P (.pick q x y) (getL rs) H N K := oPick (P := P) (N := N) hb h1 h2
theorem oEnd {ops : Array Oper} {str : Nat → Bool} {K : List AV → Heap → Prop} {i : Nat} (h : K rs H) : regO P ops str N K i [] rs H := h

/-! Calls of a function by its name. -/
theorem callS_fn {f : FuncId} {args : Array Operand} {tys : Array TypeId} {K : AV → Heap → Prop} (hc : callable P f = true) (h : callP P f (args.toList.map (getL rs)) H K) : gS P (.call { callee := .value (.func f), args := args, argTypes := tys }) (getL rs) H N K :=
  ⟨f, [], rfl, hc, by rw [List.append_nil]; exact h⟩
theorem callA_fn {f : FuncId} {args : Array Operand} {tys : Array TypeId} {K : AV → Heap → Prop} (hc : callable P f = true) (h : callK P f (args.toList.map (getL rs)) H N K) : gA P (.call { callee := .value (.func f), args := args, argTypes := tys }) (getL rs) H N K :=
  ⟨f, [], rfl, hc, by rw [List.append_nil]; exact h⟩
/-- A function that gives one plain value. -/
theorem callP_v {f : FuncId} {xs ys : List AV} {v : AV} {K : AV → Heap → Prop} (h : CallsA P f ys noHeap (fun r _ => r = v)) (hx : xs.map (view H) = ys) (hv : v.plain = true) (hk : K v H) : callP P f xs H K :=
  ⟨fun r => r = v, by rw [hx]; exact h, .inr fun r hr => by rw [hr]; exact hv, ⟨v, rfl⟩, fun r hr => by rw [hr]; exact hk⟩
/-- .. and one of nothing but what is read. -/
theorem callP_r {f : FuncId} {xs ys : List AV} {v : AV} {K : AV → Heap → Prop} (h : CallsA P f ys noHeap (fun r _ => r = v)) (hx : xs.map (view H) = ys) (hs : xs.all AV.shut = true) (hk : K v H) : callP P f xs H K :=
  ⟨fun r => r = v, by rw [hx]; exact h, .inl hs, ⟨v, rfl⟩, fun r hr => by rw [hr]; exact hk⟩
theorem cN {f : FuncId} {args : Array Operand} {tys : Array TypeId} {ys : List AV} {v : AV} {K : AV → Heap → Prop} (hc : callable P f = true) (h : CallsA P f ys noHeap (fun r _ => r = v)) (hx : (args.toList.map (getL rs)).map (view H) = ys) (hv : v.plain = true) (hk : K v H) :
    gA P (.call { callee := .value (.func f), args := args, argTypes := tys }) (getL rs) H N K := callA_fn hc (.inl (callP_v h hx hv hk))
theorem cS {f : FuncId} {args : Array Operand} {tys : Array TypeId} {ys : List AV} {v : AV} {K : AV → Heap → Prop} (hc : callable P f = true) (h : CallsA P f ys noHeap (fun r _ => r = v)) (hx : (args.toList.map (getL rs)).map (view H) = ys) (hv : v.plain = true) (hk : K v H) :
    gS P (.call { callee := .value (.func f), args := args, argTypes := tys }) (getL rs) H N K := callS_fn hc (callP_v h hx hv hk)
end
end Go.AF
