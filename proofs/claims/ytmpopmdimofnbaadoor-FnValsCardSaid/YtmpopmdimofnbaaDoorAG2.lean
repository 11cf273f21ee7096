import Derived.Test.YtmpopmdimofnbaaDoorAG
import Derived.Test.YtmpopmdimofnbaaDoorAX
/-! Steps in such regions; the source of draws. -/
namespace Go.AF
set_option linter.unusedVariables false
set_option linter.unusedSimpArgs false
open Go
section
variable {P : Program} {ops : Array Oper} {E : Heap → Heap → Prop} {md : Nat → Md} {N i : Nat} {K : List AV → Heap → Prop} {l : List Oper} {rs : List AV} {H : Heap} {d : Option Tmp} {op : Op} {ty : TypeId} {pos : String} {after : Array Edge}
theorem mN (m : Md) (hm : md i = m) (h : ∀ K' : AV → Heap → Prop, (∀ r H' rs', putL rs d r = rs' → regOM P ops E md N K (i + 1) l rs' H' → K' r H') → gM E P m op (getL rs) H N K') : regOM P ops E md N K i (⟨d, op, ty, pos, after, none⟩ :: l) rs H := by
  subst hm
  unfold regOM
  exact h _ fun r H' rs' e hr => by rw [e]; exact hr
theorem mA (hm : md i = .a) (h : ∀ K' : AV → Heap → Prop, (∀ r H' rs', putL rs d r = rs' → regOM P ops E md N K (i + 1) l rs' H' → K' r H') → gA P op (getL rs) H N K') : regOM P ops E md N K i (⟨d, op, ty, pos, after, none⟩ :: l) rs H := mN .a hm h
theorem mS (hm : md i = .s) (h : ∀ K' : AV → Heap → Prop, (∀ r H' rs', putL rs d r = rs' → regOM P ops E md N K (i + 1) l rs' H' → K' r H') → gS P op (getL rs) H N K') : regOM P ops E md N K i (⟨d, op, ty, pos, after, none⟩ :: l) rs H := mN .s hm h
theorem mEnd (h : K rs H) : regOM P ops E md N K i [] rs H := h
end
/-- A value that no writer of the region changes is read. -/
theorem xLoad {E : Heap → Heap → Prop} {P : Program} {T : Nat} {x : Operand} {rs : List AV} {H : Heap} {N : Nat} {K : AV → Heap → Prop} {ti : TI} (y : AV) (ht : tiOf P T = some ti) (hs : ti.kind.agg = false → 0 < ti.size) (hl : ∀ H', E H H' → ∀ K : AV → Prop, loadK ti H' (getL rs x) K ↔ K y) (h : K y H) : gM E P .x (.load T x) (getL rs) H N K := by
  refine ⟨y, h, fun H' N' K' he => ?_⟩
  constructor
  · rintro ⟨ti', h1, h2, h3⟩
    rw [ht] at h1
    cases h1
    exact (hl H' he _).1 h3
  · intro hk
    exact ⟨ti, ht, hs, (hl H' he _).2 hk⟩
/-- A method of an own block writes. -/
theorem wCall {E : Heap → Heap → Prop} {P : Program} {rs : List AV} {H : Heap} {N : Nat} {f : FuncId} {args : Array Operand} {tys : Array TypeId} {ys : List AV} {b : Nat} {k : Blk} {R : AV → Blk → Prop} {K : AV → Heap → Prop} (hc : callable P f = true) (h : CallsM P f ys b k R) (hx : args.toList.map (getL rs) = ys) (hb : H b = some k)
    (hE : ∀ r k', R r k' → E H (H.upd b (some k'))) (he : ∃ r k', R r k') (hk : ∀ r k', R r k' → K r (H.upd b (some k'))) : gM E P .w (.call { callee := .value (.func f), args := args, argTypes := tys }) (getL rs) H N K := by
  refine ⟨fun r H' => ∃ k', H' = H.upd b (some k') ∧ R r k', ?_, ?_, fun K' hk' => ?_⟩
  · obtain ⟨r, k', hr⟩ := he
    exact ⟨r, _, k', rfl, hr⟩
  · rintro r H' ⟨k', rfl, hr⟩
    exact ⟨hE r k' hr, fun hF => hF.upd _ _, hk r k' hr⟩
  · exact cM hc h hx hb fun r k' hr => hk' _ _ ⟨k', rfl, hr⟩

/-! The source of draws: bytes, a place, a number that is mixed, a size. -/
def src (T : Nat) (bs : List UInt8) (a m sz : Int) : Blk := ⟨T, 4, [[.ro (bs.map u8row), .v (.int .i64 a), .v (.int .u64 m), .v (.int .i64 sz)]]⟩
/-- A source of these bytes and of this size. -/
def IsSrc (T : Nat) (bs : List UInt8) (sz : Int) (k : Blk) : Prop := ∃ a m, 0 ≤ a ∧ k = src T bs a m sz
def EqS (T b : Nat) (bs : List UInt8) (sz : Int) (H H' : Heap) : Prop := (∀ c, c ≠ b → H c = H' c) ∧ (H b = H' b ∨ ∃ k k', H b = some k ∧ H' b = some k' ∧ IsSrc T bs sz k ∧ IsSrc T bs sz k')
theorem EqS.eqv (T b : Nat) (bs : List UInt8) (sz : Int) : Eqv (EqS T b bs sz) := by
  refine ⟨fun H => ⟨fun _ _ => rfl, .inl rfl⟩, fun {H H'} h => ⟨fun c hc => (h.1 c hc).symm, ?_⟩, fun {H H' H''} h k => ⟨fun c hc => (h.1 c hc).trans (k.1 c hc), ?_⟩⟩
  · rcases h.2 with e | ⟨k, k', e1, e2, e3, e4⟩
    · exact .inl e.symm
    · exact .inr ⟨k', k, e2, e1, e4, e3⟩
  · rcases h.2 with e | ⟨k1, k2, e1, e2, e3, e4⟩
    · rw [e]; exact k.2
    · rcases k.2 with g | ⟨k3, k4, g1, g2, g3, g4⟩
      · rw [← g]; exact .inr ⟨k1, k2, e1, e2, e3, e4⟩
      · exact .inr ⟨k1, k4, e1, g2, e3, g4⟩
theorem EqS.upd {T b : Nat} {bs : List UInt8} {sz : Int} {H : Heap} {k k' : Blk} (hb : H b = some k) (h1 : IsSrc T bs sz k) (h2 : IsSrc T bs sz k') : EqS T b bs sz H (H.upd b (some k')) :=
  ⟨fun c hc => (H.upd_ne _ hc).symm, .inr ⟨k, k', hb, H.upd_self .., h1, h2⟩⟩
/-- What is read elsewhere. -/
theorem EqS.load {T b : Nat} {bs : List UInt8} {sz : Int} {ti : TI} {H : Heap} {c s i j : Nat} {k : Blk} {row : List AV} {y : AV} (hne : c ≠ b) (hc : H c = some k) (hs : k.sz = s) (hr : k.rows[i]? = some row) (hj : j + ti.size ≤ s) (hy : (if ti.kind.agg = true then AV.agg ((row.drop j).take ti.size) else (row[j]?).getD .any) = y) (h1 : ti.kind.agg = false → (row[j]?).isSome = true) :
    ∀ H', EqS T b bs sz H H' → ∀ K : AV → Prop, loadK ti H' (.pt c s i j) K ↔ K y := by
  intro H' he K
  have e : H' c = some k := by rw [← he.1 c hne]; exact hc
  constructor
  · rintro ⟨k', h1, h2, row', h3, h4, h5⟩
    rw [e] at h1; cases h1
    rw [hr] at h3; cases h3
    split at h5
    · rename_i ha; rw [if_pos ha] at hy; rw [← hy]; exact h5
    · rename_i ha; rw [if_neg ha] at hy
      obtain ⟨z, h6, h7⟩ := h5
      rw [h6] at hy; rw [← hy]; exact h7
  · intro hk
    refine ⟨k, e, hs, row, hr, hj, ?_⟩
    split
    · rename_i ha; rw [if_pos ha] at hy; rw [hy]; exact hk
    · rename_i ha; rw [if_neg ha] at hy
      obtain ⟨z, h6⟩ := Option.isSome_iff_exists.1 (h1 (by simpa using ha))
      refine ⟨z, h6, ?_⟩
      rw [h6] at hy
      simp only [Option.getD_some] at hy
      rw [hy]; exact hk
/-- The size. -/
theorem EqS.size {T b : Nat} {bs : List UInt8} {sz : Int} {ti : TI} {H : Heap} {k : Blk} (hb : H b = some k) (hs : IsSrc T bs sz k) (h1 : ti.size = 1) (h2 : ti.kind.agg = false) : ∀ H', EqS T b bs sz H H' → ∀ K : AV → Prop, loadK ti H' (.pt b 4 0 3) K ↔ K (.v (.int .i64 sz)) := by
  intro H' he K
  have : ∃ k', H' b = some k' ∧ IsSrc T bs sz k' := by
    rcases he.2 with e | ⟨k1, k2, e1, e2, e3, e4⟩
    · exact ⟨k, by rw [← e]; exact hb, hs⟩
    · exact ⟨k2, e2, e4⟩
  obtain ⟨k', hk', a, m, _, rfl⟩ := this
  simp [loadK, hk', src, h1, h2]
/-- What is not in memory of the call's own. -/
theorem EqS.rp {E : Heap → Heap → Prop} {ti : TI} {H : Heap} {cs : List AV} {y : AV} (hl : ti.size ≤ cs.length) (hy : (if ti.kind.agg = true then AV.agg (cs.take ti.size) else (cs[0]?).getD .any) = y) (h1 : ti.kind.agg = false → (cs[0]?).isSome = true) : ∀ H', E H H' → ∀ K : AV → Prop, loadK ti H' (.rp cs) K ↔ K y := by
  intro H' _ K
  constructor
  · rintro ⟨_, h5⟩
    split at h5
    · rename_i ha; rw [if_pos ha] at hy; rw [← hy]; exact h5
    · rename_i ha; rw [if_neg ha] at hy
      obtain ⟨z, h6, h7⟩ := h5
      rw [h6] at hy; rw [← hy]; exact h7
  · intro hk
    refine ⟨hl, ?_⟩
    split
    · rename_i ha; rw [if_pos ha] at hy; rw [hy]; exact hk
    · rename_i ha; rw [if_neg ha] at hy
      obtain ⟨z, h6⟩ := Option.isSome_iff_exists.1 (h1 (by simpa using ha))
      refine ⟨z, h6, ?_⟩
      rw [h6] at hy
      simp only [Option.getD_some] at hy
      rw [hy]; exact hk
end Go.AF
namespace Go.AF
open Go
def mdOf (l : List (Nat × Md)) (i : Nat) : Md := (l.lookup i).getD .s
theorem merge_new {H : Heap} {b : Nat} {k : Blk} : merge H noHeap (only b k) = H.upd b (some k) := by
  funext c
  unfold merge only
  by_cases h : c = b
  · subst h; simp [Heap.upd_self]
  · simp [Heap.upd_ne _ _ h, noHeap]
/-- A call that hands back an own block. -/
theorem cNew {P : Program} {N : Nat} {rs : List AV} {H : Heap} {f : FuncId} {args : Array Operand} {tys : Array TypeId} {ys : List AV} {R : AV → Nat → Blk → Prop} {K : AV → Heap → Prop} (hc : callable P f = true) (h : CallsA P f ys noHeap (fun r H' => ∃ b k, H' = only b k ∧ R r b k)) (hx : args.toList.map (getL rs) = ys)
    (hk : ∀ r b k, R r b k → H b = none → N ≤ b → K r (H.upd b (some k))) : gA P (.call { callee := .value (.func f), args := args, argTypes := tys }) (getL rs) H N K := by
  refine callA_fn hc (.inr ⟨ys, noHeap, _, fun c q hq => (by cases hq), h, ⟨by rw [← hx], fun j x y hj hy => .inl ?_⟩, fun r H' hr hd => ?_⟩)
  · rw [hx] at hj
    rw [hj] at hy
    exact (Option.some.inj hy).symm
  · obtain ⟨b, k, rfl, hr⟩ := hr
    rw [merge_new]
    have := hd b (by rw [only_self]; rfl)
    rcases this with h1 | ⟨h1, h2⟩
    · simp [noHeap] at h1
    · exact hk r b k hr h1 h2
/-- The end of such a call. -/
theorem retNew {P : Program} {c : Ctx P} {N : Nat} {rs : List AV} {H : Heap} {t : Tmp} {R : AV → Nat → Blk → Prop} (b : Nat) (k : Blk) (hb : H b = some k) (h : R (getL rs (.tmp t)) b k) : retQ P c [.tmp t] (fun r H' => ∃ b k, H' = only b k ∧ R r b k) .ret (stL N rs H) := by
  refine retQ.ret ?_
  show resL P (stL N rs H) [.tmp t] fun vs => _
  refine ⟨only b k, fun c q hq => ?_, b, k, rfl, ?_⟩
  · unfold only at hq
    by_cases e : c = b
    · subst e
      rw [Heap.upd_self] at hq
      cases hq
      exact hb
    · rw [Heap.upd_ne _ _ e] at hq
      cases hq
  · show R (one [(stL N rs H).get (.tmp t)]) b k
    rw [stL_get]
    exact h
end Go.AF
