import Derived.Test.YtmpopmdimofnbaaDoorAF2
import Derived.Laws.Entries
/-! More operations that give a value and leave the world. -/
namespace Go.AF
set_option linter.unusedVariables false
set_option linter.unusedSimpArgs false
open Go

section
variable {P : Program} {w : World} {S : Nat → Prop} {t : Nat} {ti : TI}

abbrev AV.int (k : IntKind) (n : Int) : AV := .v (.int k n)
abbrev AV.bool (b : Bool) : AV := .v (.bool b)
abbrev AV.str (s : ByteArray) : AV := .v (.string s)

theorem rep_v {x y : Value} (h : Rep w S (.v x) y) : y = x := by cases h; rfl

/-! The address of an element. -/
def iaK (e : Nat) (es : Nat) (x i : AV) (K : AV → Prop) : Prop :=
  match x, i with
  | .sl b sz off len, .v (.int _ n) => sz = es ∧ (0 ≤ n ∧ n < len) ∧ K (.pt b sz (off + n.toNat) 0)
  | .ro rows, .v (.int _ n) => 0 ≤ n ∧ ∃ row, rows[n.toNat]? = some row ∧ row.length = es ∧ K (.rp row)
  | _, _ => False

theorem iaK_sound {e : Nat} {tie : TI} {x i : AV} {u v : Value} {K : AV → Prop} (ht : tiOf P t = some ti) (hs : ti.kind = .slice e) (hte : tiOf P e = some tie) (hx : Rep w S x u) (hi : Rep w S i v) (hk : iaK e tie.size x i K) :
    ∃ y z, K y ∧ (Instr.indexAt t u v).run P w = .ok z w ∧ Rep w S y z := by
  have hun := ti_slice ht hs
  have hel : P.elem t = e := by simp [Program.elem, hun]
  have hsz := ti_size (w := w) hte
  unfold iaK at hk
  split at hk
  · rename_i b sz off len k n
    obtain ⟨rfl, ⟨h0, hn⟩, hk⟩ := hk
    rw [rep_v hi]
    cases hx with
    | sl _ _ _ _ o c hl ho arr ty fz hb ha =>
      refine ⟨_, .pointer (some ⟨b, (off + n.toNat) * tie.size + 0, none⟩), hk, ?_, .pt ..⟩
      have ho' : o = off * tie.size := ho (by omega)
      rw [run_indexAt_slice (P := P) w t ⟨b, o, none⟩ len c k n (by rw [hel]; exact hun), hel, if_pos ⟨h0, hn⟩, hsz]
      simp only [Result.andThen, add_none, ho', Nat.add_zero, Nat.add_mul]
  · rename_i rows k n
    obtain ⟨h0, row, hrow, hlen, hk⟩ := hk
    rw [rep_v hi]
    have hlt := (List.getElem?_eq_some_iff.1 hrow).1
    cases hx with
    | roNil => simp at hlt
    | ro b o c sz _ us hc hS hr hu hx =>
      have hrl := hr row (List.mem_of_getElem? hrow)
      refine ⟨_, .pointer (some ⟨b, o + n.toNat * tie.size, none⟩), hk, ?_, .rp b _ row (us n.toNat) hS (fun j hj => ?_) (fun j x hj => hx _ row hrow j x hj)⟩
      · rw [run_indexAt_slice (P := P) w t ⟨b, o, none⟩ rows.length c k n (by rw [hel]; exact hun), hel, if_pos ⟨h0, by omega⟩, hsz]
        simp only [Result.andThen, add_none]
      · have := hu n.toNat j hlt (by omega)
        rw [Nat.add_assoc, ← hlen, hrl]
        exact this
  · exact hk.elim

/-! A byte of a string. -/
def idxK (x i : AV) (K : AV → Prop) : Prop :=
  match x, i with
  | .v (.string s), .v (.int _ n) => 0 ≤ n ∧ ∃ b, s[n.toNat]? = some b ∧ K (.v (.int .u8 b.toNat))
  | _, _ => False

theorem idxK_sound {x i : AV} {u v : Value} {K : AV → Prop} (ht : tiOf P t = some ti) (hs : ti.kind = .str) (hx : Rep w S x u) (hi : Rep w S i v) (hk : idxK x i K) :
    ∃ y z, K y ∧ (Instr.index t u v).run P w = .ok z w ∧ Rep w S y z := by
  unfold idxK at hk
  split at hk
  · obtain ⟨h0, b, hb, hk⟩ := hk
    rw [rep_v hi, rep_v hx]
    obtain ⟨i, d, z, h1, h2, h3, h4, h5, h6, h7⟩ := tiOf_spec ht
    rw [hs] at h7
    have hd : P.underlying t = some .string := by cases d <;> simp [tkOf] at h7; exact h2
    exact ⟨_, _, hk, by simp [Instr.index, asIntOf, underlying, hd, h0, hb], .v _⟩
  · exact hk.elim

def exK (x : AV) (i : Nat) (K : AV → Prop) : Prop :=
  match x with
  | .tup cs => ∃ y, cs[i]? = some y ∧ K y
  | _ => False
theorem exK_sound {x : AV} {u : Value} {i : Nat} {K : AV → Prop} (hx : Rep w S x u) (hk : exK x i K) : ∃ y z, K y ∧ (Instr.extract u i).run P w = .ok z w ∧ Rep w S y z := by
  unfold exK at hk
  split at hk
  · obtain ⟨y, hy, hk⟩ := hk
    cases hx with
    | tup _ vs hl hx =>
      have hlt := (List.getElem?_eq_some_iff.1 hy).1
      have hv : vs[i]? = some (vs[i]'(by omega)) := List.getElem?_eq_getElem _
      exact ⟨y, _, hk, by simp [Instr.extract, hv], hx i y _ hy hv⟩
  · exact hk.elim

/-! Whole numbers, bools, strings. -/
def bitsI (op : BinOp) (k : IntKind) (x y : Int) : Int :=
  let a := BitVec.ofInt k.bits x
  let b := BitVec.ofInt k.bits y
  match op with
  | .and => k.wrap (a &&& b).toNat
  | .or => k.wrap (a ||| b).toNat
  | .xor => k.wrap (a ^^^ b).toNat
  | _ => k.wrap (a &&& ~~~b).toNat

def shl (k : IntKind) (x y : Int) : Int := k.wrap (x * 2 ^ min y.toNat k.bits)
def shr (k : IntKind) (x y : Int) : Int := x.fdiv (2 ^ min y.toNat k.bits)

def binI (op : BinOp) (k : IntKind) (a b : Int) (K : AV → Prop) : Prop :=
  match op with
  | .add => K (.v (.int k (k.wrap (a + b))))
  | .sub => K (.v (.int k (k.wrap (a - b))))
  | .mul => K (.v (.int k (k.wrap (a * b))))
  | .quo => b ≠ 0 ∧ K (.v (.int k (k.wrap (a.tdiv b))))
  | .rem => b ≠ 0 ∧ K (.v (.int k (a.tmod b)))
  | .and => K (.v (.int k (bitsI .and k a b)))
  | .or => K (.v (.int k (bitsI .or k a b)))
  | .xor => K (.v (.int k (bitsI .xor k a b)))
  | .andNot => K (.v (.int k (bitsI .andNot k a b)))
  | .eql => K (.v (.bool (decide (a = b))))
  | .neq => K (.v (.bool (!decide (a = b))))
  | .lss => K (.v (.bool (decide (a < b))))
  | .leq => K (.v (.bool (decide (a ≤ b))))
  | .gtr => K (.v (.bool (decide (b < a))))
  | .geq => K (.v (.bool (decide (b ≤ a))))
  | _ => False

def binS (op : BinOp) (a b : ByteArray) (K : AV → Prop) : Prop :=
  match op with
  | .add => a.size + b.size ≤ 9223372036854775807 ∧ K (.v (.string (a ++ b)))
  | .eql => K (.v (.bool (decide (a = b))))
  | .neq => K (.v (.bool (!decide (a = b))))
  | _ => False

def numsOf : List AV → Option (List Int)
  | [] => some []
  | .v (.int .i64 n) :: r => match numsOf r with
    | some l => some (n :: l)
    | none => none
  | _ => none
/-- Of structs of n whole numbers == tells what it should. -/
def AggEq (P : Program) (T n : Nat) : Prop := P.eqGuardType P.depth T = false ∧ ∀ (W : World) (a b : List Int), a.length = n → b.length = n → (Op.equal T (.agg (a.map (Value.int .i64)).toArray) (.agg (b.map (Value.int .i64)).toArray)).run P W = .ok (decide (a = b)) W
def boolK (P : Program) (op : BinOp) (T : Nat) (a b : Bool) (K : AV → Prop) : Prop :=
  match op with
  | .eql => (∃ ti, tiOf P T = some ti ∧ ti.kind = .bool) ∧ K (.v (.bool (decide (a = b))))
  | .neq => (∃ ti, tiOf P T = some ti ∧ ti.kind = .bool) ∧ K (.v (.bool (!decide (a = b))))
  | _ => False
def aggK (P : Program) (op : BinOp) (T : Nat) (xs ys : List AV) (K : AV → Prop) : Prop :=
  match op, numsOf xs, numsOf ys with
  | .eql, some a, some b => (AggEq P T a.length ∧ b.length = a.length) ∧ K (.v (.bool (decide (a = b))))
  | .neq, some a, some b => (AggEq P T a.length ∧ b.length = a.length) ∧ K (.v (.bool (!decide (a = b))))
  | _, _, _ => False

def binK (P : Program) (op : BinOp) (T : Nat) (x y : AV) (K : AV → Prop) : Prop :=
  match x, y with
  | .v (.int k a), .v (.int k' b) => match op with
    | .shl => 0 ≤ b ∧ K (.v (.int k (shl k a b)))
    | .shr => 0 ≤ b ∧ K (.v (.int k (shr k a b)))
    | _ => k = k' ∧ binI op k a b K
  | .v (.string a), .v (.string b) => binS op a b K
  | .v (.bool a), .v (.bool b) => boolK P op T a b K
  | .agg xs, .agg ys => aggK P op T xs ys K
  | _, _ => False

theorem equal_bool {a b : Bool} (h : ∃ ti, tiOf P t = some ti ∧ ti.kind = .bool) : (Op.equal t (.bool a) (.bool b)).run P w = .ok (decide (a = b)) w := by
  obtain ⟨ti, h1, h2⟩ := h
  obtain ⟨d, h3, h4, h5⟩ := ti_under (w := w) h1
  have hd : d = .bool := by
    rw [h2] at h5
    cases d <;> first | rfl | cases h5
  subst hd
  show (Op.equalIn (9999 + 1) t _ _).run P w = _
  rw [Op.equalIn]
  cases a <;> cases b <;> simp [h3]
theorem rep_nums {cs : List AV} {us : List Int} {vs : List Value} (h : numsOf cs = some us) (hl : cs.length = vs.length) (hx : ∀ (j : Nat) (x : AV) (u : Value), cs[j]? = some x → vs[j]? = some u → Rep w S x u) : vs = us.map (Value.int .i64) := by
  induction cs generalizing us vs with
  | nil =>
    cases h
    exact List.eq_nil_of_length_eq_zero hl.symm
  | cons c cs ih =>
    match vs, hl with
    | v :: vs, hl =>
      unfold numsOf at h
      split at h
      · rename_i e; cases e
      · rename_i n r e
        cases e
        split at h
        · cases h
          have h0 := rep_v (hx 0 _ _ rfl rfl)
          rw [h0, ih ‹_› (by simpa using hl) fun j x u h1 h2 => hx (j + 1) x u h1 h2]
          rfl
        · cases h
      · cases h
theorem rep_agg {cs : List AV} {us : List Int} {u : Value} (h : numsOf cs = some us) (hx : Rep w S (.agg cs) u) : u = .agg (us.map (Value.int .i64)).toArray := by
  cases hx with
  | agg _ vs hl hx => rw [rep_nums h hl hx]

theorem ba_toList_inj {a b : ByteArray} (h : a.toList = b.toList) : a = b := by
  rw [ByteArray.toList_eq, ByteArray.toList_eq] at h
  exact ByteArray.ext (Array.ext' h)
theorem ba_beq (a b : ByteArray) : (a.toList == b.toList) = decide (a = b) := by
  by_cases h : a = b
  · subst h; simp
  · rw [decide_eq_false h, beq_eq_false_iff_ne]
    exact fun e => h (ba_toList_inj e)

theorem binK_sound {op : BinOp} {x y : AV} {ox oy : Operand} {u v : Value} {K : AV → Prop} (hx : Rep w S x u) (hy : Rep w S y v) (hk : binK P op t x y K) :
    ∃ z r, K z ∧ ((do eqGuard op t ox oy u v; binOp op t u v : Sem Value)).run P w = .ok r w ∧ Rep w S z r := by
  unfold binK at hk
  split at hk
  · rename_i k a k' b
    rw [rep_v hx, rep_v hy]
    have hg : (eqGuard op t ox oy (.int k a) (.int k' b)).run P w = .ok () w := by
      cases op <;> rfl
    cases op with
    | shl => exact ⟨_, _, hk.2, by simp [hg, binOp, Op.shift, show ¬ b < 0 by omega, shl], .v _⟩
    | shr => exact ⟨_, _, hk.2, by simp [hg, binOp, Op.shift, show ¬ b < 0 by omega, shr], .v _⟩
    | add => obtain ⟨rfl, hk⟩ := hk; exact ⟨_, _, hk, by simp [hg, binOp, Op.intArith], .v _⟩
    | sub => obtain ⟨rfl, hk⟩ := hk; exact ⟨_, _, hk, by simp [hg, binOp, Op.intArith], .v _⟩
    | mul => obtain ⟨rfl, hk⟩ := hk; exact ⟨_, _, hk, by simp [hg, binOp, Op.intArith], .v _⟩
    | quo => obtain ⟨rfl, h0, hk⟩ := hk; exact ⟨_, _, hk, by simp [hg, binOp, Op.intDiv, h0], .v _⟩
    | rem => obtain ⟨rfl, h0, hk⟩ := hk; exact ⟨_, _, hk, by simp [hg, binOp, Op.intDiv, h0], .v _⟩
    | and => obtain ⟨rfl, hk⟩ := hk; exact ⟨_, _, hk, by simp [hg, binOp, Op.intBits, bitsI], .v _⟩
    | or => obtain ⟨rfl, hk⟩ := hk; exact ⟨_, _, hk, by simp [hg, binOp, Op.intBits, bitsI], .v _⟩
    | xor => obtain ⟨rfl, hk⟩ := hk; exact ⟨_, _, hk, by simp [hg, binOp, Op.intBits, bitsI], .v _⟩
    | andNot => obtain ⟨rfl, hk⟩ := hk; exact ⟨_, _, hk, by simp [hg, binOp, Op.intBits, bitsI], .v _⟩
    | eql => obtain ⟨rfl, hk⟩ := hk; exact ⟨_, _, hk, by simp [hg, binOp, Op.intCmp]; rfl, .v _⟩
    | neq => obtain ⟨rfl, hk⟩ := hk; exact ⟨_, _, hk, by simp [hg, binOp, Op.intCmp]; rfl, .v _⟩
    | lss => obtain ⟨rfl, hk⟩ := hk; exact ⟨_, _, hk, by simp [hg, binOp, Op.intCmp], .v _⟩
    | leq => obtain ⟨rfl, hk⟩ := hk; exact ⟨_, _, hk, by simp [hg, binOp, Op.intCmp], .v _⟩
    | gtr => obtain ⟨rfl, hk⟩ := hk; exact ⟨_, _, hk, by simp [hg, binOp, Op.intCmp], .v _⟩
    | geq => obtain ⟨rfl, hk⟩ := hk; exact ⟨_, _, hk, by simp [hg, binOp, Op.intCmp], .v _⟩
  · rename_i a b
    rw [rep_v hx, rep_v hy]
    have hg : (eqGuard op t ox oy (.string a) (.string b)).run P w = .ok () w := by
      cases op <;> rfl
    have hb := ba_beq a b
    cases op with
    | add =>
      refine ⟨_, _, hk.2, ?_, .v _⟩
      have h1 : ¬ ((a.size + b.size : Nat) : Int) > IntKind.i64.max := by
        have := hk.1
        simp [IntKind.max, IntKind.signed, IntKind.bits]; omega
      have h2 := hk.1
      simp [hg, binOp, Op.stringOp]
      omega
    | eql => exact ⟨_, _, hk, by rw [← hb]; simp [hg, binOp, Op.stringOp], .v _⟩
    | neq => exact ⟨_, _, hk, by rw [← hb]; simp [hg, binOp, Op.stringOp], .v _⟩
    | _ => exact absurd hk (by simp [binS])
  · rename_i a b
    rw [rep_v hx, rep_v hy]
    have hg : (eqGuard op t ox oy (.bool a) (.bool b)).run P w = .ok () w := by
      cases op <;> rfl
    cases op with
    | eql => exact ⟨_, _, hk.2, by simp [hg, binOp, equal_bool hk.1], .v _⟩
    | neq => exact ⟨_, _, hk.2, by simp [hg, binOp, equal_bool hk.1], .v _⟩
    | _ => exact hk.elim
  · unfold aggK at hk
    split at hk
    · have hA := hk.1.1
      rw [rep_agg ‹_› hx, rep_agg ‹_› hy]
      have hg : ∀ xs ys, (eqGuard .eql t ox oy (.agg xs) (.agg ys)).run P w = .ok () w := fun xs ys => by simp [eqGuard, hA.1]
      exact ⟨_, _, hk.2, by simp [hg, binOp, hA.2 w _ _ rfl hk.1.2], .v _⟩
    · have hA := hk.1.1
      rw [rep_agg ‹_› hx, rep_agg ‹_› hy]
      have hg : ∀ xs ys, (eqGuard .neq t ox oy (.agg xs) (.agg ys)).run P w = .ok () w := fun xs ys => by simp [eqGuard, hA.1]
      exact ⟨_, _, hk.2, by simp [hg, binOp, hA.2 w _ _ rfl hk.1.2], .v _⟩
    · exact hk.elim
  · exact hk.elim
end
end Go.AF
