import Derived.Test.YtmpopmdimofnbaaDoorAF18
/-! A callee that is handed one own block. -/
namespace Go.AF
set_option linter.unusedVariables false
set_option linter.unusedSimpArgs false
open Go

/-- One block, and nothing else. -/
def only (b : Nat) (k : Blk) : Heap := noHeap.upd b (some k)
theorem only_self (b : Nat) (k : Blk) : only b k b = some k := noHeap.upd_self b _
theorem merge_only {H : Heap} {b : Nat} {k k' : Blk} : merge H (only b k) (only b k') = H.upd b (some k') := by
  funext c
  unfold merge only
  by_cases h : c = b
  · subst h
    simp [Heap.upd_self]
  · simp [Heap.upd_ne _ _ h, noHeap]

/-- A method with a pointer to an own block: what it gives, and what the block is behind it. -/
def CallsM (P : Program) (f : FuncId) (xs : List AV) (b : Nat) (k : Blk) (R : AV → Blk → Prop) : Prop :=
  CallsA P f xs (only b k) fun r H' => ∃ k', H' = only b k' ∧ R r k'

section
variable {P : Program} {c : Ctx P} {s : St} {Q : Exit → St → Prop} {N : Nat} {rs : List AV} {H : Heap}
theorem cM {f : FuncId} {args : Array Operand} {tys : Array TypeId} {ys : List AV} {b : Nat} {k : Blk} {R : AV → Blk → Prop} {K : AV → Heap → Prop} (hc : callable P f = true) (h : CallsM P f ys b k R) (hx : args.toList.map (getL rs) = ys) (hb : H b = some k)
    (hk : ∀ r k', R r k' → K r (H.upd b (some k'))) : gA P (.call { callee := .value (.func f), args := args, argTypes := tys }) (getL rs) H N K := by
  refine callA_fn hc (.inr ⟨ys, only b k, _, fun c q hq => ?_, h, ⟨by rw [← hx], fun j x y hj hy => .inl ?_⟩, fun r H' hr hd => ?_⟩)
  · unfold only at hq
    by_cases e : c = b
    · subst e
      rw [Heap.upd_self] at hq
      cases hq
      exact hb
    · rw [Heap.upd_ne _ _ e] at hq
      cases hq
  · rw [hx] at hj
    rw [hj] at hy
    exact (Option.some.inj hy).symm
  · obtain ⟨k', rfl, hr⟩ := hr
    rw [merge_only]
    exact hk r k' hr
theorem gBuild {T : Nat} {ps : Array (Nat × Operand)} {g : Operand → AV} {K : AV → Heap → Prop} (h : gA P (.build T ps) g H N K) : gA P (.build T ps) g H N K := h
theorem gBS {T n : Nat} {ps : Array (Nat × Operand)} {g : Operand → AV} {K : AV → Heap → Prop} (h : gA P (.buildSlice T n ps) g H N K) : gA P (.buildSlice T n ps) g H N K := h
theorem oBuild {T : Nat} {ps : Array (Nat × Operand)} {ti : TI} {fs : List (Nat × Nat × Nat)} {out : List AV} {K : AV → Heap → Prop} (ht : tiOf P T = some ti) (hk : ti.kind = .struct fs) (h0 : (fs.all fun g => g.2.2 != 0) = true) (hf : fillA (placeOf fs) ti.zero (ps.toList.map fun p => (p.1, getL rs p.2)) = some out) (h : K (.agg out) H) : gA P (.build T ps) (getL rs) H N K := by
  refine ⟨ti, ht, ?_⟩
  unfold buildK
  rw [hk]
  exact ⟨h0, out, hf, h⟩
theorem oBS {T n e : Nat} {ps : Array (Nat × Operand)} {ti tie : TI} {out : List AV} {K : AV → Heap → Prop} (ht : tiOf P T = some ti) (hk : ti.kind = .slice e) (hte : tiOf P e = some tie) (h0 : Nat.ble 1 tie.size = true) (h1 : Nat.ble (n * tie.size) 16777216 = true) (hf : fillA (fun i => some (i * tie.size, tie.size)) (List.replicate (n * tie.size) .any) (ps.toList.map fun p => (p.1, getL rs p.2)) = some out)
    (hc : out.all AV.cell = true) (hl : out.length = n * tie.size) (h : ∀ b, H b = none → N ≤ b → K (.sl b tie.size 0 n) (H.upd b (some ⟨e, tie.size, chunk tie.size n out⟩))) : gA P (.buildSlice T n ps) (getL rs) H N K :=
  ⟨ti, e, tie, ht, hk, hte, Nat.le_of_ble_eq_true h0, Nat.le_of_ble_eq_true h1, out, hf, hc, hl, h⟩
theorem bLenS {x : Operand} {t e n : Nat} {ti : TI} {K : AV → Heap → Prop} (ht : tiOf P t = some ti) (hk : ti.kind = .slice e) (hl : avLen (getL rs x) = some n) (hs : ∀ q, getL rs x ≠ .v (.string q)) (h : K (.v (.int .i64 n)) H) : gA P (.call { callee := .builtin .len, args := #[x], argTypes := #[t] }) (getL rs) H N K :=
  ⟨ti, ht, .inl ⟨e, hk⟩, fun q hq => absurd hq (hs q), (fun _ => by rw [hk]; intro e; cases e), ⟨n, hl, h⟩⟩
theorem bLenT {x : Operand} {t : Nat} {ti : TI} {q : ByteArray} {K : AV → Heap → Prop} (ht : tiOf P t = some ti) (hk : ti.kind = .str) (hx : getL rs x = .v (.string q)) (h : K (.v (.int .i64 q.size)) H) : gA P (.call { callee := .builtin .len, args := #[x], argTypes := #[t] }) (getL rs) H N K :=
  ⟨ti, ht, .inr hk, fun _ _ => hk, fun hn => absurd hx (hn q), q.size, by show avLen (getL rs x) = _; rw [hx]; rfl, h⟩
theorem bApp {x y : Operand} {t tx e : Nat} {ti tie tix : TI} {K : AV → Heap → Prop} (ht : tiOf P t = some ti) (hk : ti.kind = .slice e) (hte : tiOf P e = some tie) (htx : tiOf P tx = some tix) (hs : isSrc tix) (h : apK tie e (getL rs x) (getL rs y) H N K) : gA P (.call { callee := .builtin .append, args := #[x, y], argTypes := #[t, tx] }) (getL rs) H N K :=
  ⟨ti, e, tie, tix, ht, hk, hte, htx, hs, h⟩
theorem bLenSS {x : Operand} {t e n : Nat} {ti : TI} {K : AV → Heap → Prop} (ht : tiOf P t = some ti) (hk : ti.kind = .slice e) (hl : avLen (getL rs x) = some n) (hs : ∀ q, getL rs x ≠ .v (.string q)) (h : K (.v (.int .i64 n)) H) : gS P (.call { callee := .builtin .len, args := #[x], argTypes := #[t] }) (getL rs) H N K := bLenS (P := P) (N := N) ht hk hl hs h
theorem bLenTS {x : Operand} {t : Nat} {ti : TI} {q : ByteArray} {K : AV → Heap → Prop} (ht : tiOf P t = some ti) (hk : ti.kind = .str) (hx : getL rs x = .v (.string q)) (h : K (.v (.int .i64 q.size)) H) : gS P (.call { callee := .builtin .len, args := #[x], argTypes := #[t] }) (getL rs) H N K := bLenT (P := P) (N := N) ht hk hx h
/-- The end of such a method. -/
theorem retM {rl : List ResultVar} {b : Nat} {R : AV → Blk → Prop} (k' : Blk) (hb : s.H b = some k') (h : resL P s rl fun vs => R (one vs) k') : retQ P c rl (fun r H' => ∃ k', H' = only b k' ∧ R r k') .ret s := by
  refine retQ.ret ?_
  have mono : ∀ (rl : List ResultVar) (A B : List AV → Prop), (∀ x, A x → B x) → resL P s rl A → resL P s rl B := by
    intro rl
    induction rl with
    | nil => exact fun A B h k => h _ k
    | cons r rl ih =>
      intro A B h k
      unfold resL at k ⊢
      cases r with
      | tmp t => exact ih _ _ (fun xs hx => h _ hx) k
      | cell a t =>
        obtain ⟨ti, h1, h2, h3⟩ := k
        exact ⟨ti, h1, h2, (det_loadK _ _ _).mono (fun y hy => ih _ _ (fun xs hx => h _ hx) hy) h3⟩
  refine mono _ _ _ (fun x hx => ⟨only b k', fun c q hq => ?_, k', rfl, hx⟩) h
  unfold only at hq
  by_cases e : c = b
  · subst e
    rw [Heap.upd_self] at hq
    cases hq
    exact hb
  · rw [Heap.upd_ne _ _ e] at hq
    cases hq
theorem retM.tmp {t : Tmp} {b : Nat} {R : AV → Blk → Prop} (k' : Blk) (hb : H b = some k') (h : R (getL rs (.tmp t)) k') : retQ P c [.tmp t] (fun r H' => ∃ k', H' = only b k' ∧ R r k') .ret (stL N rs H) := by
  refine retM k' hb ?_
  show R (one [(stL N rs H).get (.tmp t)]) k'
  rw [stL_get]
  exact h
theorem retM.cell {a : Tmp} {T : Nat} {ti : TI} {b : Nat} {R : AV → Blk → Prop} (k' : Blk) (hb : H b = some k') (ht : tiOf P T = some ti) (hs : ti.kind.agg = false → 0 < ti.size) (h : loadK ti H (getL rs (.tmp a)) fun r => R r k') : retQ P c [.cell a T] (fun r H' => ∃ k', H' = only b k' ∧ R r k') .ret (stL N rs H) := by
  refine retM k' hb ⟨ti, ht, hs, ?_⟩
  rw [stL_get]
  exact h
end
end Go.AF
