import Derived.Test.YtmpopmdimofnbaaDoorAF2
import Derived.Laws.Entries
/-! More operations that give a value and leave the world. -/
namespace Go.AF
set_option linter.unusedVariables false
set_option linter.unusedSimpArgs false
open Go

section
variable {P : Program} {w : World} {S : Nat → Prop} {t : Nat} {ti : TI}

abbrev AV.int (k : IntKind) (n : Int) : AV := .v (.int k n)
abbrev AV.bool (b : Bool) : AV := .v (.bool b)
abbrev AV.str (s : ByteArray) : AV := .v (.string s)

theorem rep_v {x y : Value} (h : Rep w S (.v x) y) : y = x := by cases h; rfl

/-! The address of an element. -/
def iaK (e : Nat) (es : Nat) (x i : AV) (K : AV → Prop) : Prop :=
  match x, i with
  | .sl b sz off len, .v (.int _ n) => sz = es ∧ (0 ≤ n ∧ n < len) ∧ K (.pt b sz (off + n.toNat) 0)
  | .ro rows, .v (.int _ n) => 0 ≤ n ∧ ∃ row, rows[n.toNat]? = some row ∧ row.length = es ∧ K (.rp row)
  | _, _ => False

theorem iaK_sound {e : Nat} {tie : TI} {x i : AV} {u v : Value} {K : AV → Prop} (ht : tiOf P t = some ti) (hs : ti.kind = .slice e) (hte : tiOf P e = some tie) (hx : Rep w S x u) (hi : Rep w S i v) (hk : iaK e tie.size x i K) :
    ∃ y z, K y ∧ (Instr.indexAt t u v).run P w = .ok z w ∧ Rep w S y z := by
  have hun := ti_slice ht hs
  have hel : P.elem t = e := by simp [Program.elem, hun]
  have hsz := ti_size (w := w) hte
  unfold iaK at hk
  split at hk
  · rename_i b sz off len k n
    obtain ⟨rfl, ⟨h0, hn⟩, hk⟩ := hk
    rw [rep_v hi]
    cases hx with
    | sl _ _ _ _ o c hl ho arr ty fz hb ha =>
      refine ⟨_, .pointer (some ⟨b, (off + n.toNat) * tie.size + 0, none⟩), hk, ?_, .pt ..⟩
      have ho' : o = off * tie.size := ho (by omega)
      rw [run_indexAt_slice (P := P) w t ⟨b, o, none⟩ len c k n (by rw [hel]; exact hun), hel, if_pos ⟨h0, hn⟩, hsz]
      simp only [Result.andThen, add_none, ho', Nat.add_zero, Nat.add_mul]
  · rename_i rows k n
    obtain ⟨h0, row, hrow, hlen, hk⟩ := hk
    rw [rep_v hi]
    have hlt := (List.getElem?_eq_some_iff.1 hrow).1
    cases hx with
    | roNil => simp at hlt
    | ro b o c sz _ us hc hS hr hu hx =>
      have hrl := hr row (List.mem_of_getElem? hrow)
      refine ⟨_, .pointer (some ⟨b, o + n.toNat * tie.size, none⟩), hk, ?_, .rp b _ row (us n.toNat) hS (fun j hj => ?_) (fun j x hj => hx _ row hrow j x hj)⟩
      · rw [run_indexAt_slice (P := P) w t ⟨b, o, none⟩ rows.length c k n (by rw [hel]; exact hun), hel, if_pos ⟨h0, by omega⟩, hsz]
        simp only [Result.andThen, add_none]
      · have := hu n.toNat j hlt (by omega)
        rw [Nat.add_assoc, ← hlen, hrl]
        exact this
  · exact hk.elim

/-! A byte of a string. -/
def idxK (x i : AV) (K : AV → Prop) : Prop :=
  match x, i with
  | .v (.string s), .v (.int _ n) => 0 ≤ n ∧ ∃ b, s[n.toNat]? = some b ∧ K (.v (.int .u8 b.toNat))
  | _, _ => False

theorem idxK_sound {x i : AV} {u v : Value} {K : AV → Prop} (ht : tiOf P t = some ti) (hs : ti.kind = .str) (hx : Rep w S x u) (hi : Rep w S i v) (hk : idxK x i K) :
    ∃ y z, K y ∧ (Instr.index t u v).run P w = .ok z w ∧ Rep w S y z := by
  unfold idxK at hk
  split at hk
  · obtain ⟨h0, b, hb, hk⟩ := hk
    rw [rep_v hi, rep_v hx]
    obtain ⟨i, d, z, h1, h2, h3, h4, h5, h6, h7⟩ := tiOf_spec ht
    rw [hs] at h7
    have hd : P.underlying t = some .string := by cases d <;> simp [tkOf] at h7; exact h2
    exact ⟨_, _, hk, by simp [Instr.index, asIntOf, underlying, hd, h0, hb], .v _⟩
  · exact hk.elim

def exK (x : AV) (i : Nat) (K : AV → Prop) : Prop :=
  match x with
  | .tup cs => ∃ y, cs[i]? = some y ∧ K y
  | _ => False
theorem exK_sound {x : AV} {u : Value} {i : Nat} {K : AV → Prop} (hx : Rep w S x u) (hk : exK x i K) : ∃ y z, K y ∧ (Instr.extract u i).run P w = .ok z w ∧ Rep w S y z := by
  unfold exK at hk
  split at hk
  · obtain ⟨y, hy, hk⟩ := hk
    cases hx with
    | tup _ vs hl hx =>
      have hlt := (List.getElem?_eq_some_iff.1 hy).1
      have hv : vs[i]? = some (vs[i]'(by omega)) := List.getElem?_eq_getElem _
      exact ⟨y, _, hk, by simp [Instr.extract, hv], hx i y _ hy hv⟩
  · exact hk.elim

/-! Whole numbers, bools, strings. -/
def bitsI (op : BinOp) (k : IntKind) (x y : Int) : Int :=
  let a := BitVec.ofInt k.bits x
  let b := BitVec.ofInt k.bits y
  match op with
  | .and => k.wrap (a &&& b).toNat
  | .or => k.wrap (a ||| b).toNat
  | .xor => k.wrap (a ^^^ b).toNat
  | _ => k.wrap (a &&& ~~~b).toNat

def shl (k : IntKind) (x y : Int) : Int := k.wrap (x * 2 ^ min y.toNat k.bits)
def shr (k : IntKind) (x y : Int) : Int := x.fdiv (2 ^ min y.toNat k.bits)

def binI (op : BinOp) (k : IntKind) (a b : Int) (K : AV → Prop) : Prop :=
  match op with
  | .add => K (.v (.int k (k.wrap (a + b))))
  | .sub => K (.v (.int k (k.wrap (a - b))))
  | .mul => K (.v (.int k (k.wrap (a * b))))
  | .quo => b ≠ 0 ∧ K (.v (.int k (k.wrap (a.tdiv b))))
  | .rem => b ≠ 0 ∧ K (.v (.int k (a.tmod b)))
  | .and => K (.v (.int k (bitsI .and k a b)))
  | .or => K (.v (.int k (bitsI .or k a b)))
  | .xor => K (.v (.int k (bitsI .xor k a b)))
  | .andNot => K (.v (.int k (bitsI .andNot k a b)))
  | .eql => K (.v (.bool (decide (a = b))))
  | .neq => K (.v (.bool (!decide (a = b))))
  | .lss => K (.v (.bool (decide (a < b))))
  | .leq => K (.v (.bool (decide (a ≤ b))))
  | .gtr => K (.v (.bool (decide (b < a))))
  | .geq => K (.v (.bool (decide (b ≤ a))))
  | _ => False

def binS (op : BinOp) (a b : ByteArray) (K : AV → Prop) : Prop :=
  match op with
  | .add => a.size + b.size ≤ 9223372036854775807 ∧ K (.v (.string (a ++ b)))
  | .eql => K (.v (.bool (decide (a = b))))
  | .neq => K (.v (.bool (!decide (a = b))))
  | _ => False

/-- Plain cells that can be told apart: whole numbers, bools, strings. -/
def plainEq : AV → AV → Option Bool
  | .v (.int k a), .v (.int k' b) => if k = k' then some (decide (a = b)) else none
  | .v (.bool a), .v (.bool b) => some (decide (a = b))
  | .v (.string a), .v (.string b) => some (decide (a = b))
  | _, _ => none

def binK (op : BinOp) (x y : AV) (K : AV → Prop) : Prop :=
  match x, y with
  | .v (.int k a), .v (.int k' b) => match op with
    | .shl => 0 ≤ b ∧ K (.v (.int k (shl k a b)))
    | .shr => 0 ≤ b ∧ K (.v (.int k (shr k a b)))
    | _ => k = k' ∧ binI op k a b K
  | .v (.string a), .v (.string b) => binS op a b K
  | _, _ => False

theorem ba_toList_inj {a b : ByteArray} (h : a.toList = b.toList) : a = b := by
  rw [ByteArray.toList_eq, ByteArray.toList_eq] at h
  exact ByteArray.ext (Array.ext' h)
theorem ba_beq (a b : ByteArray) : (a.toList == b.toList) = decide (a = b) := by
  by_cases h : a = b
  · subst h; simp
  · rw [decide_eq_false h, beq_eq_false_iff_ne]
    exact fun e => h (ba_toList_inj e)

theorem binK_sound {op : BinOp} {x y : AV} {ox oy : Operand} {u v : Value} {K : AV → Prop} (hx : Rep w S x u) (hy : Rep w S y v) (hk : binK op x y K) :
    ∃ z r, K z ∧ ((do eqGuard op t ox oy u v; binOp op t u v : Sem Value)).run P w = .ok r w ∧ Rep w S z r := by
  unfold binK at hk
  split at hk
  · rename_i k a k' b
    rw [rep_v hx, rep_v hy]
    have hg : (eqGuard op t ox oy (.int k a) (.int k' b)).run P w = .ok () w := by
      cases op <;> rfl
    cases op with
    | shl => exact ⟨_, _, hk.2, by simp [hg, binOp, Op.shift, show ¬ b < 0 by omega, shl], .v _⟩
    | shr => exact ⟨_, _, hk.2, by simp [hg, binOp, Op.shift, show ¬ b < 0 by omega, shr], .v _⟩
    | add => obtain ⟨rfl, hk⟩ := hk; exact ⟨_, _, hk, by simp [hg, binOp, Op.intArith], .v _⟩
    | sub => obtain ⟨rfl, hk⟩ := hk; exact ⟨_, _, hk, by simp [hg, binOp, Op.intArith], .v _⟩
    | mul => obtain ⟨rfl, hk⟩ := hk; exact ⟨_, _, hk, by simp [hg, binOp, Op.intArith], .v _⟩
    | quo => obtain ⟨rfl, h0, hk⟩ := hk; exact ⟨_, _, hk, by simp [hg, binOp, Op.intDiv, h0], .v _⟩
    | rem => obtain ⟨rfl, h0, hk⟩ := hk; exact ⟨_, _, hk, by simp [hg, binOp, Op.intDiv, h0], .v _⟩
    | and => obtain ⟨rfl, hk⟩ := hk; exact ⟨_, _, hk, by simp [hg, binOp, Op.intBits, bitsI], .v _⟩
    | or => obtain ⟨rfl, hk⟩ := hk; exact ⟨_, _, hk, by simp [hg, binOp, Op.intBits, bitsI], .v _⟩
    | xor => obtain ⟨rfl, hk⟩ := hk; exact ⟨_, _, hk, by simp [hg, binOp, Op.intBits, bitsI], .v _⟩
    | andNot => obtain ⟨rfl, hk⟩ := hk; exact ⟨_, _, hk, by simp [hg, binOp, Op.intBits, bitsI], .v _⟩
    | eql => obtain ⟨rfl, hk⟩ := hk; exact ⟨_, _, hk, by simp [hg, binOp, Op.intCmp]; rfl, .v _⟩
    | neq => obtain ⟨rfl, hk⟩ := hk; exact ⟨_, _, hk, by simp [hg, binOp, Op.intCmp]; rfl, .v _⟩
    | lss => obtain ⟨rfl, hk⟩ := hk; exact ⟨_, _, hk, by simp [hg, binOp, Op.intCmp], .v _⟩
    | leq => obtain ⟨rfl, hk⟩ := hk; exact ⟨_, _, hk, by simp [hg, binOp, Op.intCmp], .v _⟩
    | gtr => obtain ⟨rfl, hk⟩ := hk; exact ⟨_, _, hk, by simp [hg, binOp, Op.intCmp], .v _⟩
    | geq => obtain ⟨rfl, hk⟩ := hk; exact ⟨_, _, hk, by simp [hg, binOp, Op.intCmp], .v _⟩
  · rename_i a b
    rw [rep_v hx, rep_v hy]
    have hg : (eqGuard op t ox oy (.string a) (.string b)).run P w = .ok () w := by
      cases op <;> rfl
    have hb := ba_beq a b
    cases op with
    | add =>
      refine ⟨_, _, hk.2, ?_, .v _⟩
      have h1 : ¬ ((a.size + b.size : Nat) : Int) > IntKind.i64.max := by
        have := hk.1
        simp [IntKind.max, IntKind.signed, IntKind.bits]; omega
      have h2 := hk.1
      simp [hg, binOp, Op.stringOp]
      omega
    | eql => exact ⟨_, _, hk, by rw [← hb]; simp [hg, binOp, Op.stringOp], .v _⟩
    | neq => exact ⟨_, _, hk, by rw [← hb]; simp [hg, binOp, Op.stringOp], .v _⟩
    | _ => exact absurd hk (by simp [binS])
  · exact hk.elim
end
end Go.AF
