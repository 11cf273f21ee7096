import Derived.Test.YtmpopmdimofnbaaDoorAF18
import Derived.Test.YtmpopmdimofnbaaDoorShelf
import Derived.Test.YtmpopmdimofnbaaDoorChecked
import Derived.Lib.ItoaLen
import Derived.Lib.AppendIntMem
namespace Go.AF
open Go Go.Proofs
set_option linter.unusedVariables false
set_option linter.unusedSimpArgs false
theorem ti2 : tiOf Tryd.prog 2 = some ⟨1, 8, [.v (.int .i64 0)], .int .i64⟩ := by kernel_rfl
theorem ti5 : tiOf Tryd.prog 5 = some ⟨1, 1, [.v (.int .u8 0)], .int .u8⟩ := by kernel_rfl
theorem ti9 : tiOf Tryd.prog 9 = some ⟨1, 16, [.v (.string ⟨#[]⟩)], .str⟩ := by kernel_rfl
theorem ti23 : tiOf Tryd.prog 23 = some ⟨2, 16, [.v (.int .i64 0), .v (.int .i64 0)], .struct [(0, 2, 1), (1, 2, 1)]⟩ := by kernel_rfl
theorem ti25 : tiOf Tryd.prog 25 = some ⟨2, 16, [.v (.int .i64 0), .v (.int .i64 0)], .struct [(0, 2, 1), (1, 2, 1)]⟩ := by kernel_rfl
theorem ti28 : tiOf Tryd.prog 28 = some ⟨1, 24, [.nil], .slice 5⟩ := by kernel_rfl
theorem size_lit (a : Array UInt8) : (ByteArray.mk a).size = a.size := rfl
attribute [local go_sem] ti2 ti5 ti9 ti23 ti25 ti28 gA gS getL putL yieldL constAV binK binI binS unK cvK newK stK lenK avLen iaK idxK exK fieldK buildK biK one_int one_bool one_string Bool.and_true Bool.and_self loadK faK AV.cells AV.cell TK.agg splice Heap.upd_self Heap.upd_ne upd_ne' upd_upd Option.getD_some List.set_cons_zero List.set_cons_succ List.getElem?_cons_zero List.getElem?_cons_succ Option.some.injEq exists_eq_left' true_and List.drop_zero List.drop_succ_cons List.take_zero List.take_succ_cons List.length_cons List.length_nil List.all_cons List.all_nil size_lit List.size_toArray List.nil_append List.cons_append List.drop_nil List.take_nil exists_and_left TK.slice.injEq bsK fillA chunk List.replicate_zero List.replicate_succ List.map_cons List.map_nil List.range_succ List.range_zero mkK
theorem k17 : callable Tryd.prog 17 = true := by kernel_rfl
theorem k18 : callable Tryd.prog 18 = true := by kernel_rfl
theorem k19 : callable Tryd.prog 19 = true := by kernel_rfl
theorem k22 : callable Tryd.prog 22 = true := by kernel_rfl
theorem k23 : callable Tryd.prog 23 = true := by kernel_rfl
theorem k9 : callable Tryd.prog 9 = true := by kernel_rfl
theorem k10 : callable Tryd.prog 10 = true := by kernel_rfl
theorem k11 : callable Tryd.prog 11 = true := by kernel_rfl
theorem k12 : callable Tryd.prog 12 = true := by kernel_rfl

def rightV (k n : Int) : Bool := if k = 0 then n == 0 else if k = 1 then decide (0 ≤ n ∧ n < 22) else k == 2

theorem c17 (n : Int) : CallsA Tryd.prog 17 [.v (.int .i64 n)] noHeap (fun r H => r = .v (.bool (decide (0 ≤ n ∧ n < 22)))) := by
  refine CallsA.of (rl := [.tmp 2]) (n := 9) Tryd.func17 rfl rfl rfl rfl fun c N hN => ?_
  simp only [List.length_cons, List.length_nil, List.replicate, List.cons_append, List.nil_append]
  repeat' (first
    | (with_reducible refine gReg ?_; (first | (refine oN fun K' hK' => ?_; (first | (with_reducible refine gPick ?_; refine oPick rfl (fun h => ?_) (fun h => ?_) <;> refine hK' _ _ ?_ <;> clear hK' K' <;> (try simp only [decide_eq_true_eq, decide_eq_false_iff_not, Bool.not_eq_true', Bool.not_eq_false', Bool.not_eq_true, Bool.not_eq_false, bne_iff_ne, ne_eq, beq_iff_eq, Bool.not_not, Bool.not_true, Bool.not_false, reduceCtorEq] at h) <;> (try (exfalso; first | omega | contradiction))) | (simp (disch := assumption) only [go_sem, Nat.reduceAdd, Nat.reduceMul, Nat.reduceSub, Nat.reduceLeDiff, Nat.reduceLT, Nat.reduceEqDiff, ↓reduceIte, Bool.false_eq_true, true_implies, reduceCtorEq, false_implies, and_self, and_true, Nat.lt_add_one, Nat.zero_lt_succ, Nat.zero_add, Nat.add_zero, Nat.mul_one, Nat.zero_mul, Nat.le_refl]; (first | refine hK' _ _ ?_ | (intro b hb hNb; refine hK' _ _ ?_; repeat (replace hb := upd_none hb; obtain ⟨hne, hb⟩ := hb)) | (refine ⟨by omega, ?_⟩; refine hK' _ _ ?_) | refine And.intro ?_ (hK' _ _ ?_)) <;> clear hK' K'))) | (refine oG rfl (fun h => ?_) (fun h => ?_) <;> (try simp only [decide_eq_true_eq, decide_eq_false_iff_not, Bool.not_eq_true', Bool.not_eq_false', Bool.not_eq_true, Bool.not_eq_false, bne_iff_ne, ne_eq, beq_iff_eq, Bool.not_not, Bool.not_true, Bool.not_false, reduceCtorEq] at h) <;> (try (exfalso; first | omega | contradiction))) | (refine oG0 rfl ?_) | (refine oEnd ?_; try simp only [putL, List.set_cons_succ, List.set_cons_zero]; refine hr _ _ ?_; clear hr Kr)))
    | with_reducible refine thenN ?_
    | with_reducible refine thenR ?_
    | with_reducible refine blkR ?_
    | with_reducible refine blkZ ?_
    | with_reducible refine thenX ?_
    | with_reducible refine blkX ?_
    | with_reducible refine blkN rfl ?_
    | refine WP.seq (WP.reg rfl fun Kr hr => ?_)
    | refine WP.reg rfl fun Kr hr => ?_
    | refine WP.seq ?_
    | refine WP.skip ?_
    | (refine WP.condB rfl (fun h => ?_) (fun h => ?_) <;> (try simp only [decide_eq_true_eq, decide_eq_false_iff_not, Bool.not_eq_true', Bool.not_eq_false', Bool.not_eq_true, Bool.not_eq_false, bne_iff_ne, ne_eq, beq_iff_eq, Bool.not_not, Bool.not_true, Bool.not_false, reduceCtorEq] at h) <;> (try (exfalso; first | omega | contradiction)))
    | refine WP.block ?_
    | refine WP.ret ?_
    | (refine retQ.tmp ?_; try simp only [go_sem])
    | refine WP.exit ?_)
  all_goals simp [*]

theorem c9 (k n : Int) : CallsA Tryd.prog 9 [.agg [.v (.int .i64 k), .v (.int .i64 n)]] noHeap (fun r H => r = .v (.bool (rightV k n))) := by
  refine CallsA.of (rl := [.tmp 2]) (n := 18) Tryd.func9 rfl rfl rfl rfl fun c N hN => ?_
  simp only [List.length_cons, List.length_nil, List.replicate, List.cons_append, List.nil_append]
  repeat' (first
    | (with_reducible refine gReg ?_; (first | (refine oN fun K' hK' => ?_; (first | (with_reducible refine gPick ?_; refine oPick rfl (fun h => ?_) (fun h => ?_) <;> refine hK' _ _ ?_ <;> clear hK' K' <;> (try simp only [decide_eq_true_eq, decide_eq_false_iff_not, Bool.not_eq_true', Bool.not_eq_false', Bool.not_eq_true, Bool.not_eq_false, bne_iff_ne, ne_eq, beq_iff_eq, Bool.not_not, Bool.not_true, Bool.not_false, reduceCtorEq] at h) <;> (try (exfalso; first | omega | contradiction))) | (with_reducible refine gCall ?_; (first | refine cN k17 (c17 ..) rfl rfl (hK' _ _ ?_)); clear hK' K') | (simp (disch := assumption) only [go_sem, Nat.reduceAdd, Nat.reduceMul, Nat.reduceSub, Nat.reduceLeDiff, Nat.reduceLT, Nat.reduceEqDiff, ↓reduceIte, Bool.false_eq_true, true_implies, reduceCtorEq, false_implies, and_self, and_true, Nat.lt_add_one, Nat.zero_lt_succ, Nat.zero_add, Nat.add_zero, Nat.mul_one, Nat.zero_mul, Nat.le_refl]; (first | refine hK' _ _ ?_ | (intro b hb hNb; refine hK' _ _ ?_; repeat (replace hb := upd_none hb; obtain ⟨hne, hb⟩ := hb)) | (refine ⟨by omega, ?_⟩; refine hK' _ _ ?_) | refine And.intro ?_ (hK' _ _ ?_)) <;> clear hK' K'))) | (refine oG rfl (fun h => ?_) (fun h => ?_) <;> (try simp only [decide_eq_true_eq, decide_eq_false_iff_not, Bool.not_eq_true', Bool.not_eq_false', Bool.not_eq_true, Bool.not_eq_false, bne_iff_ne, ne_eq, beq_iff_eq, Bool.not_not, Bool.not_true, Bool.not_false, reduceCtorEq] at h) <;> (try (exfalso; first | omega | contradiction))) | (refine oG0 rfl ?_) | (refine oEnd ?_; try simp only [putL, List.set_cons_succ, List.set_cons_zero]; refine hr _ _ ?_; clear hr Kr)))
    | with_reducible refine thenN ?_
    | with_reducible refine thenR ?_
    | with_reducible refine blkR ?_
    | with_reducible refine blkZ ?_
    | with_reducible refine thenX ?_
    | with_reducible refine blkX ?_
    | with_reducible refine blkN rfl ?_
    | refine WP.seq (WP.reg rfl fun Kr hr => ?_)
    | refine WP.reg rfl fun Kr hr => ?_
    | refine WP.seq ?_
    | refine WP.skip ?_
    | (refine WP.condB rfl (fun h => ?_) (fun h => ?_) <;> (try simp only [decide_eq_true_eq, decide_eq_false_iff_not, Bool.not_eq_true', Bool.not_eq_false', Bool.not_eq_true, Bool.not_eq_false, bne_iff_ne, ne_eq, beq_iff_eq, Bool.not_not, Bool.not_true, Bool.not_false, reduceCtorEq] at h) <;> (try (exfalso; first | omega | contradiction)))
    | refine WP.block ?_
    | refine WP.ret ?_
    | (refine retQ.tmp ?_; try simp only [go_sem])
    | refine WP.exit ?_)
  all_goals simp [*, rightV] <;> rfl

theorem c22 (n l h : Int) : CallsA Tryd.prog 22 [.v (.int .i64 n), .v (.int .i64 l), .v (.int .i64 h)] noHeap (fun r H => r = .v (.bool (decide (l ≤ n ∧ n ≤ h)))) := by
  refine CallsA.of (rl := [.tmp 6]) (n := 15) Tryd.func22 rfl rfl rfl rfl fun c N hN => ?_
  simp only [List.length_cons, List.length_nil, List.replicate, List.cons_append, List.nil_append]
  repeat' (first
    | (with_reducible refine gReg ?_; (first | (refine oN fun K' hK' => ?_; (first | (with_reducible refine gPick ?_; refine oPick rfl (fun h => ?_) (fun h => ?_) <;> refine hK' _ _ ?_ <;> clear hK' K' <;> (try simp only [decide_eq_true_eq, decide_eq_false_iff_not, Bool.not_eq_true', Bool.not_eq_false', Bool.not_eq_true, Bool.not_eq_false, bne_iff_ne, ne_eq, beq_iff_eq, Bool.not_not, Bool.not_true, Bool.not_false, reduceCtorEq] at h) <;> (try (exfalso; first | omega | contradiction))) | (simp (disch := assumption) only [go_sem, Nat.reduceAdd, Nat.reduceMul, Nat.reduceSub, Nat.reduceLeDiff, Nat.reduceLT, Nat.reduceEqDiff, ↓reduceIte, Bool.false_eq_true, true_implies, reduceCtorEq, false_implies, and_self, and_true, Nat.lt_add_one, Nat.zero_lt_succ, Nat.zero_add, Nat.add_zero, Nat.mul_one, Nat.zero_mul, Nat.le_refl]; (first | refine hK' _ _ ?_ | (intro b hb hNb; refine hK' _ _ ?_; repeat (replace hb := upd_none hb; obtain ⟨hne, hb⟩ := hb)) | (refine ⟨by omega, ?_⟩; refine hK' _ _ ?_) | refine And.intro ?_ (hK' _ _ ?_)) <;> clear hK' K'))) | (refine oG rfl (fun h => ?_) (fun h => ?_) <;> (try simp only [decide_eq_true_eq, decide_eq_false_iff_not, Bool.not_eq_true', Bool.not_eq_false', Bool.not_eq_true, Bool.not_eq_false, bne_iff_ne, ne_eq, beq_iff_eq, Bool.not_not, Bool.not_true, Bool.not_false, reduceCtorEq] at h) <;> (try (exfalso; first | omega | contradiction))) | (refine oG0 rfl ?_) | (refine oEnd ?_; try simp only [putL, List.set_cons_succ, List.set_cons_zero]; refine hr _ _ ?_; clear hr Kr)))
    | with_reducible refine thenN ?_
    | with_reducible refine thenR ?_
    | with_reducible refine blkR ?_
    | with_reducible refine blkZ ?_
    | with_reducible refine thenX ?_
    | with_reducible refine blkX ?_
    | with_reducible refine blkN rfl ?_
    | refine WP.seq (WP.reg rfl fun Kr hr => ?_)
    | refine WP.reg rfl fun Kr hr => ?_
    | refine WP.seq ?_
    | refine WP.skip ?_
    | (refine WP.condB rfl (fun h => ?_) (fun h => ?_) <;> (try simp only [decide_eq_true_eq, decide_eq_false_iff_not, Bool.not_eq_true', Bool.not_eq_false', Bool.not_eq_true, Bool.not_eq_false, bne_iff_ne, ne_eq, beq_iff_eq, Bool.not_not, Bool.not_true, Bool.not_false, reduceCtorEq] at h) <;> (try (exfalso; first | omega | contradiction)))
    | refine WP.block ?_
    | refine WP.ret ?_
    | (refine retQ.tmp ?_; try simp only [go_sem])
    | refine WP.exit ?_)
  all_goals simp [*]

theorem c18 (n : Int) : CallsA Tryd.prog 18 [.v (.int .i64 n)] noHeap (fun r H => r = .v (.bool (decide (0 ≤ n ∧ n < 22)))) := by
  refine CallsA.of (rl := [.tmp 2]) (n := 5) Tryd.func18 rfl rfl rfl rfl fun c N hN => ?_
  simp only [List.length_cons, List.length_nil, List.replicate, List.cons_append, List.nil_append]
  repeat' (first
    | (with_reducible refine gReg ?_; (first | (refine oN fun K' hK' => ?_; (first | (with_reducible refine gPick ?_; refine oPick rfl (fun h => ?_) (fun h => ?_) <;> refine hK' _ _ ?_ <;> clear hK' K' <;> (try simp only [decide_eq_true_eq, decide_eq_false_iff_not, Bool.not_eq_true', Bool.not_eq_false', Bool.not_eq_true, Bool.not_eq_false, bne_iff_ne, ne_eq, beq_iff_eq, Bool.not_not, Bool.not_true, Bool.not_false, reduceCtorEq] at h) <;> (try (exfalso; first | omega | contradiction))) | (with_reducible refine gCall ?_; (first | refine cN k22 (c22 ..) rfl rfl (hK' _ _ ?_)); clear hK' K') | (simp (disch := assumption) only [go_sem, Nat.reduceAdd, Nat.reduceMul, Nat.reduceSub, Nat.reduceLeDiff, Nat.reduceLT, Nat.reduceEqDiff, ↓reduceIte, Bool.false_eq_true, true_implies, reduceCtorEq, false_implies, and_self, and_true, Nat.lt_add_one, Nat.zero_lt_succ, Nat.zero_add, Nat.add_zero, Nat.mul_one, Nat.zero_mul, Nat.le_refl]; (first | refine hK' _ _ ?_ | (intro b hb hNb; refine hK' _ _ ?_; repeat (replace hb := upd_none hb; obtain ⟨hne, hb⟩ := hb)) | (refine ⟨by omega, ?_⟩; refine hK' _ _ ?_) | refine And.intro ?_ (hK' _ _ ?_)) <;> clear hK' K'))) | (refine oG rfl (fun h => ?_) (fun h => ?_) <;> (try simp only [decide_eq_true_eq, decide_eq_false_iff_not, Bool.not_eq_true', Bool.not_eq_false', Bool.not_eq_true, Bool.not_eq_false, bne_iff_ne, ne_eq, beq_iff_eq, Bool.not_not, Bool.not_true, Bool.not_false, reduceCtorEq] at h) <;> (try (exfalso; first | omega | contradiction))) | (refine oG0 rfl ?_) | (refine oEnd ?_; try simp only [putL, List.set_cons_succ, List.set_cons_zero]; refine hr _ _ ?_; clear hr Kr)))
    | with_reducible refine thenN ?_
    | with_reducible refine thenR ?_
    | with_reducible refine blkR ?_
    | with_reducible refine blkZ ?_
    | with_reducible refine thenX ?_
    | with_reducible refine blkX ?_
    | with_reducible refine blkN rfl ?_
    | refine WP.seq (WP.reg rfl fun Kr hr => ?_)
    | refine WP.reg rfl fun Kr hr => ?_
    | refine WP.seq ?_
    | refine WP.skip ?_
    | (refine WP.condB rfl (fun h => ?_) (fun h => ?_) <;> (try simp only [decide_eq_true_eq, decide_eq_false_iff_not, Bool.not_eq_true', Bool.not_eq_false', Bool.not_eq_true, Bool.not_eq_false, bne_iff_ne, ne_eq, beq_iff_eq, Bool.not_not, Bool.not_true, Bool.not_false, reduceCtorEq] at h) <;> (try (exfalso; first | omega | contradiction)))
    | refine WP.block ?_
    | refine WP.ret ?_
    | (refine retQ.tmp ?_; try simp only [go_sem])
    | refine WP.exit ?_)
  exact congrArg (fun b => AV.v (Value.bool b)) (decide_eq_decide.2 (by omega))

theorem c11 (k n : Int) : CallsA Tryd.prog 11 [.agg [.v (.int .i64 k), .v (.int .i64 n)]] noHeap (fun r H => r = .v (.bool (rightV k n))) := by
  refine CallsA.of (rl := [.tmp 2]) (n := 18) Tryd.func11 rfl rfl rfl rfl fun c N hN => ?_
  simp only [List.length_cons, List.length_nil, List.replicate, List.cons_append, List.nil_append]
  repeat' (first
    | (with_reducible refine gReg ?_; (first | (refine oN fun K' hK' => ?_; (first | (with_reducible refine gPick ?_; refine oPick rfl (fun h => ?_) (fun h => ?_) <;> refine hK' _ _ ?_ <;> clear hK' K' <;> (try simp only [decide_eq_true_eq, decide_eq_false_iff_not, Bool.not_eq_true', Bool.not_eq_false', Bool.not_eq_true, Bool.not_eq_false, bne_iff_ne, ne_eq, beq_iff_eq, Bool.not_not, Bool.not_true, Bool.not_false, reduceCtorEq] at h) <;> (try (exfalso; first | omega | contradiction))) | (with_reducible refine gCall ?_; (first | refine cN k18 (c18 ..) rfl rfl (hK' _ _ ?_)); clear hK' K') | (simp (disch := assumption) only [go_sem, Nat.reduceAdd, Nat.reduceMul, Nat.reduceSub, Nat.reduceLeDiff, Nat.reduceLT, Nat.reduceEqDiff, ↓reduceIte, Bool.false_eq_true, true_implies, reduceCtorEq, false_implies, and_self, and_true, Nat.lt_add_one, Nat.zero_lt_succ, Nat.zero_add, Nat.add_zero, Nat.mul_one, Nat.zero_mul, Nat.le_refl]; (first | refine hK' _ _ ?_ | (intro b hb hNb; refine hK' _ _ ?_; repeat (replace hb := upd_none hb; obtain ⟨hne, hb⟩ := hb)) | (refine ⟨by omega, ?_⟩; refine hK' _ _ ?_) | refine And.intro ?_ (hK' _ _ ?_)) <;> clear hK' K'))) | (refine oG rfl (fun h => ?_) (fun h => ?_) <;> (try simp only [decide_eq_true_eq, decide_eq_false_iff_not, Bool.not_eq_true', Bool.not_eq_false', Bool.not_eq_true, Bool.not_eq_false, bne_iff_ne, ne_eq, beq_iff_eq, Bool.not_not, Bool.not_true, Bool.not_false, reduceCtorEq] at h) <;> (try (exfalso; first | omega | contradiction))) | (refine oG0 rfl ?_) | (refine oEnd ?_; try simp only [putL, List.set_cons_succ, List.set_cons_zero]; refine hr _ _ ?_; clear hr Kr)))
    | with_reducible refine thenN ?_
    | with_reducible refine thenR ?_
    | with_reducible refine blkR ?_
    | with_reducible refine blkZ ?_
    | with_reducible refine thenX ?_
    | with_reducible refine blkX ?_
    | with_reducible refine blkN rfl ?_
    | refine WP.seq (WP.reg rfl fun Kr hr => ?_)
    | refine WP.reg rfl fun Kr hr => ?_
    | refine WP.seq ?_
    | refine WP.skip ?_
    | (refine WP.condB rfl (fun h => ?_) (fun h => ?_) <;> (try simp only [decide_eq_true_eq, decide_eq_false_iff_not, Bool.not_eq_true', Bool.not_eq_false', Bool.not_eq_true, Bool.not_eq_false, bne_iff_ne, ne_eq, beq_iff_eq, Bool.not_not, Bool.not_true, Bool.not_false, reduceCtorEq] at h) <;> (try (exfalso; first | omega | contradiction)))
    | refine WP.block ?_
    | refine WP.ret ?_
    | (refine retQ.tmp ?_; try simp only [go_sem])
    | refine WP.exit ?_)
  all_goals simp [*, rightV] <;> rfl

def dgs (n : Int) : ByteArray := ⟨(Lib.itoa n).toArray⟩
def I64 (n : Int) : Prop := -9223372036854775808 ≤ n ∧ n ≤ 9223372036854775807
theorem i64_eq (n : Int) : IntKind.i64.wrap n = if n % 18446744073709551616 ≥ 9223372036854775808 then n % 18446744073709551616 - 18446744073709551616 else n % 18446744073709551616 := by
  simp [IntKind.wrap, IntKind.bits, IntKind.signed]
theorem i64_wrap (n : Int) : I64 (IntKind.i64.wrap n) := by
  rw [i64_eq]
  unfold I64
  split <;> omega
theorem i64_id {n : Int} (h : I64 n) : IntKind.i64.wrap n = n := by
  rw [i64_eq]
  unfold I64 at h
  split <;> omega
theorem u8_eq (n : Int) : IntKind.u8.wrap n = n % 256 := by simp [IntKind.wrap, IntKind.bits, IntKind.signed]
theorem tmod10 (z : Int) : z.tmod 10 = if z < 0 then -((z.natAbs % 10 : Nat) : Int) else ((z.natAbs % 10 : Nat) : Int) := by
  split
  · rename_i h
    have e : z = -(z.natAbs : Int) := by omega
    rw [e, Int.neg_tmod, Int.tmod_eq_emod_of_nonneg (by omega), Int.natAbs_neg]
    omega
  · rw [Int.tmod_eq_emod_of_nonneg (by omega)]
    omega
theorem tdiv10 (z : Int) : (z.tdiv 10).natAbs = z.natAbs / 10 := by
  rw [Int.natAbs_tdiv]
  rfl
theorem tdiv10_le (z : Int) (h : I64 z) : I64 (z.tdiv 10) := by
  have := tdiv10 z
  unfold I64 at h ⊢
  omega
theorem digit (z d : Int) (h : d = z.tmod 10 ∧ 0 ≤ z.tmod 10 ∨ d = IntKind.i64.wrap (0 - z.tmod 10) ∧ z.tmod 10 < 0) : IntKind.u8.wrap (IntKind.i64.wrap (48 + d)) = (((UInt8.ofNat (48 + z.natAbs % 10)).toNat : Nat) : Int) := by
  have ht := tmod10 z
  have hd : d = ((z.natAbs % 10 : Nat) : Int) := by
    rcases h with ⟨rfl, h⟩ | ⟨rfl, h⟩
    · split at ht <;> omega
    · rw [i64_id (by unfold I64; split at ht <;> omega)]
      split at ht <;> omega
  rw [hd, i64_id (by unfold I64; omega), u8_eq]
  simp [UInt8.toNat_ofNat']
theorem c23 (n : Int) (hI : I64 n) : CallsA Tryd.prog 23 [.v (.int .i64 n), .v (.int .i64 10)] noHeap (fun r H => r = .v (.string (dgs n))) := by
  intro W S us hv hok htab
  obtain ⟨u, v, rfl⟩ : ∃ u v, us = [u, v] := by
    match us, hv.1 with
    | [u, v], _ => exact ⟨u, v, rfl⟩
  obtain rfl := rep_v (hv.2 0 _ _ rfl rfl)
  obtain rfl := rep_v (hv.2 1 _ _ rfl rfl)
  obtain ⟨g, hg⟩ : ∃ g, Tryd.prog.globalNamed "internal/strconv.uint64pow10" = some g := Option.isSome_iff_exists.1 (by kernel_rfl)
  refine Calls.mono (Any.strconv_FormatInt_10 Tryd.lays173 n hI.1 hI.2 W (htab g hg).2) ?_
  rintro e W' ⟨rfl, k, os, rfl⟩
  have hsz := Lib.size_grow W k os
  have hold := Lib.heap_grow_old W k os
  refine ⟨_, _, noHeap, S, rfl, rfl, .v _, heap_none fun b hb => Nat.lt_of_lt_of_le (hok.low b hb) hsz, fun _ h => h, fun _ h => .inl h, ⟨hsz, fun b hb _ => hold b hb, fun b k hk => by (cases hk), ⟨hsz, fun b arr ty fz hb => ⟨arr, by rw [hold b (Array.getElem?_eq_some_iff.1 hb).1]; exact hb, rfl⟩, ⟨rfl, rfl, rfl⟩⟩⟩⟩
theorem c19 (n : Int) (hI : I64 n) : CallsA Tryd.prog 19 [.v (.int .i64 n)] noHeap (fun r H => r = .v (.string (dgs n))) := by
  refine CallsA.of (rl := [.tmp 2]) (n := 5) Tryd.func19 rfl rfl rfl rfl fun c N hN => ?_
  simp only [List.length_cons, List.length_nil, List.replicate, List.cons_append, List.nil_append]
  repeat' (first
    | (with_reducible refine gReg ?_; (first | (refine oN fun K' hK' => ?_; (first | (with_reducible refine gPick ?_; refine oPick rfl (fun h => ?_) (fun h => ?_) <;> refine hK' _ _ ?_ <;> clear hK' K' <;> (try simp only [decide_eq_true_eq, decide_eq_false_iff_not, Bool.not_eq_true', Bool.not_eq_false', Bool.not_eq_true, Bool.not_eq_false, bne_iff_ne, ne_eq, beq_iff_eq, Bool.not_not, Bool.not_true, Bool.not_false, reduceCtorEq] at h) <;> (try (exfalso; first | omega | contradiction))) | (with_reducible refine gCall ?_; (first | refine cN k23 (c23 _ hI) rfl rfl (hK' _ _ ?_)); clear hK' K') | (simp (disch := assumption) only [go_sem, Nat.reduceAdd, Nat.reduceMul, Nat.reduceSub, Nat.reduceLeDiff, Nat.reduceLT, Nat.reduceEqDiff, ↓reduceIte, Bool.false_eq_true, true_implies, reduceCtorEq, false_implies, and_self, and_true, Nat.lt_add_one, Nat.zero_lt_succ, Nat.zero_add, Nat.add_zero, Nat.mul_one, Nat.zero_mul, Nat.le_refl]; (first | refine hK' _ _ ?_ | (intro b hb hNb; refine hK' _ _ ?_; repeat (replace hb := upd_none hb; obtain ⟨hne, hb⟩ := hb)) | (refine ⟨by omega, ?_⟩; refine hK' _ _ ?_) | refine And.intro ?_ (hK' _ _ ?_)) <;> clear hK' K'))) | (refine oG rfl (fun h => ?_) (fun h => ?_) <;> (try simp only [decide_eq_true_eq, decide_eq_false_iff_not, Bool.not_eq_true', Bool.not_eq_false', Bool.not_eq_true, Bool.not_eq_false, bne_iff_ne, ne_eq, beq_iff_eq, Bool.not_not, Bool.not_true, Bool.not_false, reduceCtorEq] at h) <;> (try (exfalso; first | omega | contradiction))) | (refine oG0 rfl ?_) | (refine oEnd ?_; try simp only [putL, List.set_cons_succ, List.set_cons_zero]; refine hr _ _ ?_; clear hr Kr)))
    | with_reducible refine thenN ?_
    | with_reducible refine thenR ?_
    | with_reducible refine blkR ?_
    | with_reducible refine blkZ ?_
    | with_reducible refine thenX ?_
    | with_reducible refine blkX ?_
    | with_reducible refine blkN rfl ?_
    | refine WP.seq (WP.reg rfl fun Kr hr => ?_)
    | refine WP.reg rfl fun Kr hr => ?_
    | refine WP.seq ?_
    | refine WP.skip ?_
    | (refine WP.condB rfl (fun h => ?_) (fun h => ?_) <;> (try simp only [decide_eq_true_eq, decide_eq_false_iff_not, Bool.not_eq_true', Bool.not_eq_false', Bool.not_eq_true, Bool.not_eq_false, bne_iff_ne, ne_eq, beq_iff_eq, Bool.not_not, Bool.not_true, Bool.not_false, reduceCtorEq] at h) <;> (try (exfalso; first | omega | contradiction)))
    | refine WP.block ?_
    | refine WP.ret ?_
    | (refine retQ.tmp ?_; try simp only [go_sem])
    | refine WP.exit ?_)

theorem dgs_size {n : Int} (h : I64 n) : (dgs n).size ≤ 21 := by
  show (Lib.itoa n).toArray.size ≤ 21
  have := Lib.itoa_length_le n h.1 h.2
  simpa using this
def sub6 (n : Int) : Int := IntKind.i64.wrap (n - 6)
def valS (k n : Int) : ByteArray := if k = 0 then ⟨#[45]⟩ else if k = 2 then ⟨#[35]⟩ ++ dgs n else if n < 6 then ⟨#[114]⟩ ++ dgs n else ⟨#[109]⟩ ++ dgs (IntKind.i64.wrap (n - 6))

theorem c12 (k n : Int) (hI : I64 n) : CallsA Tryd.prog 12 [.agg [.v (.int .i64 k), .v (.int .i64 n)]] noHeap (fun r H => r = .v (.string (valS k n))) := by
  have hs := dgs_size hI
  have hs2 := dgs_size (i64_wrap (n - 6))
  refine CallsA.of (rl := [.tmp 2]) (n := 25) Tryd.func12 rfl rfl rfl rfl fun c N hN => ?_
  simp only [List.length_cons, List.length_nil, List.replicate, List.cons_append, List.nil_append]
  repeat' (first
    | (with_reducible refine gReg ?_; (first | (refine oN fun K' hK' => ?_; (first | (with_reducible refine gPick ?_; refine oPick rfl (fun h => ?_) (fun h => ?_) <;> refine hK' _ _ ?_ <;> clear hK' K' <;> (try simp only [decide_eq_true_eq, decide_eq_false_iff_not, Bool.not_eq_true', Bool.not_eq_false', Bool.not_eq_true, Bool.not_eq_false, bne_iff_ne, ne_eq, beq_iff_eq, Bool.not_not, Bool.not_true, Bool.not_false, reduceCtorEq] at h) <;> (try (exfalso; first | omega | contradiction))) | (with_reducible refine gCall ?_; (first | refine cN k19 (c19 _ hI) rfl rfl (hK' _ _ ?_) | refine cN k19 (c19 _ (i64_wrap _)) rfl rfl (hK' _ _ ?_)); clear hK' K') | (simp (disch := assumption) only [go_sem, Nat.reduceAdd, Nat.reduceMul, Nat.reduceSub, Nat.reduceLeDiff, Nat.reduceLT, Nat.reduceEqDiff, ↓reduceIte, Bool.false_eq_true, true_implies, reduceCtorEq, false_implies, and_self, and_true, Nat.lt_add_one, Nat.zero_lt_succ, Nat.zero_add, Nat.add_zero, Nat.mul_one, Nat.zero_mul, Nat.le_refl]; (first | refine hK' _ _ ?_ | (intro b hb hNb; refine hK' _ _ ?_; repeat (replace hb := upd_none hb; obtain ⟨hne, hb⟩ := hb)) | (refine ⟨by omega, ?_⟩; refine hK' _ _ ?_) | refine And.intro ?_ (hK' _ _ ?_)) <;> clear hK' K'))) | (refine oG rfl (fun h => ?_) (fun h => ?_) <;> (try simp only [decide_eq_true_eq, decide_eq_false_iff_not, Bool.not_eq_true', Bool.not_eq_false', Bool.not_eq_true, Bool.not_eq_false, bne_iff_ne, ne_eq, beq_iff_eq, Bool.not_not, Bool.not_true, Bool.not_false, reduceCtorEq] at h) <;> (try (exfalso; first | omega | contradiction))) | (refine oG0 rfl ?_) | (refine oEnd ?_; try simp only [putL, List.set_cons_succ, List.set_cons_zero]; refine hr _ _ ?_; clear hr Kr)))
    | with_reducible refine thenN ?_
    | with_reducible refine thenR ?_
    | with_reducible refine blkR ?_
    | with_reducible refine blkZ ?_
    | with_reducible refine thenX ?_
    | with_reducible refine blkX ?_
    | with_reducible refine blkN rfl ?_
    | refine WP.seq (WP.reg rfl fun Kr hr => ?_)
    | refine WP.reg rfl fun Kr hr => ?_
    | refine WP.seq ?_
    | refine WP.skip ?_
    | (refine WP.condB rfl (fun h => ?_) (fun h => ?_) <;> (try simp only [decide_eq_true_eq, decide_eq_false_iff_not, Bool.not_eq_true', Bool.not_eq_false', Bool.not_eq_true, Bool.not_eq_false, bne_iff_ne, ne_eq, beq_iff_eq, Bool.not_not, Bool.not_true, Bool.not_false, reduceCtorEq] at h) <;> (try (exfalso; first | omega | contradiction)))
    | refine WP.block ?_
    | refine WP.ret ?_
    | (refine retQ.tmp ?_; try simp only [go_sem])
    | refine WP.exit ?_)
  all_goals simp [*, valS]

def valT (k n : Int) : ByteArray := if rightV k n then valS k n else ⟨#[]⟩
theorem c7 (k n : Int) (hI : I64 n) : CallsA Tryd.prog 7 [.agg [.v (.int .i64 k), .v (.int .i64 n)]] noHeap (fun r H => r = .v (.string (valT k n))) := by
  refine CallsA.of (rl := [.tmp 2]) (n := 8) Tryd.func7 rfl rfl rfl rfl fun c N hN => ?_
  simp only [List.length_cons, List.length_nil, List.replicate, List.cons_append, List.nil_append]
  repeat' (first
    | (with_reducible refine gReg ?_; (first | (refine oN fun K' hK' => ?_; (first | (with_reducible refine gPick ?_; refine oPick rfl (fun h => ?_) (fun h => ?_) <;> refine hK' _ _ ?_ <;> clear hK' K' <;> (try simp only [decide_eq_true_eq, decide_eq_false_iff_not, Bool.not_eq_true', Bool.not_eq_false', Bool.not_eq_true, Bool.not_eq_false, bne_iff_ne, ne_eq, beq_iff_eq, Bool.not_not, Bool.not_true, Bool.not_false, reduceCtorEq] at h) <;> (try (exfalso; first | omega | contradiction))) | (with_reducible refine gCall ?_; (first | refine cN k11 (c11 ..) rfl rfl (hK' _ _ ?_) | refine cN k12 (c12 _ _ hI) rfl rfl (hK' _ _ ?_)); clear hK' K') | (simp (disch := assumption) only [go_sem, Nat.reduceAdd, Nat.reduceMul, Nat.reduceSub, Nat.reduceLeDiff, Nat.reduceLT, Nat.reduceEqDiff, ↓reduceIte, Bool.false_eq_true, true_implies, reduceCtorEq, false_implies, and_self, and_true, Nat.lt_add_one, Nat.zero_lt_succ, Nat.zero_add, Nat.add_zero, Nat.mul_one, Nat.zero_mul, Nat.le_refl]; (first | refine hK' _ _ ?_ | (intro b hb hNb; refine hK' _ _ ?_; repeat (replace hb := upd_none hb; obtain ⟨hne, hb⟩ := hb)) | (refine ⟨by omega, ?_⟩; refine hK' _ _ ?_) | refine And.intro ?_ (hK' _ _ ?_)) <;> clear hK' K'))) | (refine oG rfl (fun h => ?_) (fun h => ?_) <;> (try simp only [decide_eq_true_eq, decide_eq_false_iff_not, Bool.not_eq_true', Bool.not_eq_false', Bool.not_eq_true, Bool.not_eq_false, bne_iff_ne, ne_eq, beq_iff_eq, Bool.not_not, Bool.not_true, Bool.not_false, reduceCtorEq] at h) <;> (try (exfalso; first | omega | contradiction))) | (refine oG0 rfl ?_) | (refine oEnd ?_; try simp only [putL, List.set_cons_succ, List.set_cons_zero]; refine hr _ _ ?_; clear hr Kr)))
    | with_reducible refine thenN ?_
    | with_reducible refine thenR ?_
    | with_reducible refine blkR ?_
    | with_reducible refine blkZ ?_
    | with_reducible refine thenX ?_
    | with_reducible refine blkX ?_
    | with_reducible refine blkN rfl ?_
    | refine WP.seq (WP.reg rfl fun Kr hr => ?_)
    | refine WP.reg rfl fun Kr hr => ?_
    | refine WP.seq ?_
    | refine WP.skip ?_
    | (refine WP.condB rfl (fun h => ?_) (fun h => ?_) <;> (try simp only [decide_eq_true_eq, decide_eq_false_iff_not, Bool.not_eq_true', Bool.not_eq_false', Bool.not_eq_true, Bool.not_eq_false, bne_iff_ne, ne_eq, beq_iff_eq, Bool.not_not, Bool.not_true, Bool.not_false, reduceCtorEq] at h) <;> (try (exfalso; first | omega | contradiction)))
    | refine WP.block ?_
    | refine WP.ret ?_
    | (refine retQ.tmp ?_; try simp only [go_sem])
    | refine WP.exit ?_)
  all_goals simp [*, valT]

theorem c6 (k n : Int) : CallsA Tryd.prog 6 [.agg [.v (.int .i64 k), .v (.int .i64 n)]] noHeap (fun r H => r = .agg [.v (.int .i64 k), .v (.int .i64 n)]) := by
  refine CallsA.of (rl := [.cell 2 25]) (n := 11) Tryd.func6 rfl rfl rfl rfl fun c N hN => ?_
  simp only [List.length_cons, List.length_nil, List.replicate, List.cons_append, List.nil_append]
  repeat' (first
    | (with_reducible refine gReg ?_; (first | (refine oN fun K' hK' => ?_; (first | (with_reducible refine gPick ?_; refine oPick rfl (fun h => ?_) (fun h => ?_) <;> refine hK' _ _ ?_ <;> clear hK' K' <;> (try simp only [decide_eq_true_eq, decide_eq_false_iff_not, Bool.not_eq_true', Bool.not_eq_false', Bool.not_eq_true, Bool.not_eq_false, bne_iff_ne, ne_eq, beq_iff_eq, Bool.not_not, Bool.not_true, Bool.not_false, reduceCtorEq] at h) <;> (try (exfalso; first | omega | contradiction))) | (simp (disch := assumption) only [go_sem, Nat.reduceAdd, Nat.reduceMul, Nat.reduceSub, Nat.reduceLeDiff, Nat.reduceLT, Nat.reduceEqDiff, ↓reduceIte, Bool.false_eq_true, true_implies, reduceCtorEq, false_implies, and_self, and_true, Nat.lt_add_one, Nat.zero_lt_succ, Nat.zero_add, Nat.add_zero, Nat.mul_one, Nat.zero_mul, Nat.le_refl]; (first | refine hK' _ _ ?_ | (intro b hb hNb; refine hK' _ _ ?_; repeat (replace hb := upd_none hb; obtain ⟨hne, hb⟩ := hb)) | (refine ⟨by omega, ?_⟩; refine hK' _ _ ?_) | refine And.intro ?_ (hK' _ _ ?_)) <;> clear hK' K'))) | (refine oG rfl (fun h => ?_) (fun h => ?_) <;> (try simp only [decide_eq_true_eq, decide_eq_false_iff_not, Bool.not_eq_true', Bool.not_eq_false', Bool.not_eq_true, Bool.not_eq_false, bne_iff_ne, ne_eq, beq_iff_eq, Bool.not_not, Bool.not_true, Bool.not_false, reduceCtorEq] at h) <;> (try (exfalso; first | omega | contradiction))) | (refine oG0 rfl ?_) | (refine oEnd ?_; try simp only [putL, List.set_cons_succ, List.set_cons_zero]; refine hr _ _ ?_; clear hr Kr)))
    | with_reducible refine thenN ?_
    | with_reducible refine thenR ?_
    | with_reducible refine blkR ?_
    | with_reducible refine blkZ ?_
    | with_reducible refine thenX ?_
    | with_reducible refine blkX ?_
    | with_reducible refine blkN rfl ?_
    | refine WP.seq (WP.reg rfl fun Kr hr => ?_)
    | refine WP.reg rfl fun Kr hr => ?_
    | refine WP.seq ?_
    | refine WP.skip ?_
    | (refine WP.condB rfl (fun h => ?_) (fun h => ?_) <;> (try simp only [decide_eq_true_eq, decide_eq_false_iff_not, Bool.not_eq_true', Bool.not_eq_false', Bool.not_eq_true, Bool.not_eq_false, bne_iff_ne, ne_eq, beq_iff_eq, Bool.not_not, Bool.not_true, Bool.not_false, reduceCtorEq] at h) <;> (try (exfalso; first | omega | contradiction)))
    | refine WP.block ?_
    | refine WP.ret ?_
    | (refine retQ.tmp ?_; try simp only [go_sem])
    | refine WP.exit ?_
    | (refine retQ.cell ti25 (fun h => by cases h) ?_; try simp (disch := assumption) only [go_sem, Nat.reduceAdd, Nat.reduceMul, Nat.reduceSub, Nat.reduceLeDiff, Nat.reduceLT, Nat.reduceEqDiff, ↓reduceIte, Bool.false_eq_true, true_implies, reduceCtorEq, false_implies, and_self, and_true, Nat.lt_add_one, Nat.zero_lt_succ, Nat.zero_add, Nat.add_zero, Nat.mul_one, Nat.zero_mul, Nat.le_refl]))

def decOut (u : Nat) (acc : List UInt8) : List UInt8 := if h : u = 0 then acc else decOut (u / 10) (UInt8.ofNat (48 + u % 10) :: acc)
  termination_by u
  decreasing_by omega
theorem decOut_eq (u : Nat) : ∀ acc, 0 < u → decOut u acc = Lib.decDigits u ++ acc := by
  induction u using Nat.strongRecOn with
  | _ u ih =>
    intro acc hu
    rw [decOut, dif_neg (by omega), Lib.decDigits]
    by_cases h : u < 10
    · rw [dif_pos h, show u / 10 = 0 by omega, decOut, dif_pos rfl, show u % 10 = u by omega]
      rfl
    · rw [dif_neg h, ih (u / 10) (by omega) _ (by omega)]
      simp
theorem app1 (x : UInt8) (acc : List UInt8) : ByteArray.mk #[x] ++ ByteArray.mk acc.toArray = ByteArray.mk (x :: acc).toArray := by
  apply ByteArray.ext
  simp
theorem cvB {P : Program} {src dst e : Nat} {x : Operand} {rs : List AV} {H : Heap} {N : Nat} {K : AV → Heap → Prop} {tis ti tie : TI} (bs : List UInt8) (h1 : tiOf P src = some tis) (h2 : tiOf P dst = some ti) (h3 : tis.kind = .slice e) (h4 : ti.kind = .str) (h5 : tiOf P e = some tie) (h6 : tie.kind = .int .u8)
    (h7 : ∀ q, getL rs x ≠ .v (.string q)) (h8 : srcRows H 1 (getL rs x) = some (bs.map u8row)) (hk : K (.v (.string ⟨bs.toArray⟩)) H) : gA P (.convert src dst x) (getL rs) H N K := by
  refine ⟨tis, ti, h1, h2, ?_⟩
  rw [h3, h4]
  exact ⟨tie, h5, h6, h7, bs, h8, hk⟩

theorem c10 (n : Int) (hI : I64 n) : CallsA Tryd.prog 10 [.v (.int .i64 n)] noHeap (fun r H => r = .v (.string (dgs n))) := by
  refine CallsA.of (rl := [.tmp 2]) (n := 31) Tryd.func10 rfl rfl rfl rfl fun c N hN => ?_
  simp only [List.length_cons, List.length_nil, List.replicate, List.cons_append, List.nil_append]
  repeat' (first
    | (with_reducible refine gReg ?_; (first | (refine oN fun K' hK' => ?_; (first | (with_reducible refine gPick ?_; refine oPick rfl (fun h => ?_) (fun h => ?_) <;> refine hK' _ _ ?_ <;> clear hK' K' <;> (try simp only [decide_eq_true_eq, decide_eq_false_iff_not, Bool.not_eq_true', Bool.not_eq_false', Bool.not_eq_true, Bool.not_eq_false, bne_iff_ne, ne_eq, beq_iff_eq, Bool.not_not, Bool.not_true, Bool.not_false, reduceCtorEq] at h) <;> (try (exfalso; first | omega | contradiction))) | (simp (disch := assumption) only [go_sem, Nat.reduceAdd, Nat.reduceMul, Nat.reduceSub, Nat.reduceLeDiff, Nat.reduceLT, Nat.reduceEqDiff, ↓reduceIte, Bool.false_eq_true, true_implies, reduceCtorEq, false_implies, and_self, and_true, Nat.lt_add_one, Nat.zero_lt_succ, Nat.zero_add, Nat.add_zero, Nat.mul_one, Nat.zero_mul, Nat.le_refl]; (first | refine hK' _ _ ?_ | (intro b hb hNb; refine hK' _ _ ?_; repeat (replace hb := upd_none hb; obtain ⟨hne, hb⟩ := hb)) | (refine ⟨by omega, ?_⟩; refine hK' _ _ ?_) | refine And.intro ?_ (hK' _ _ ?_)) <;> clear hK' K'))) | (refine oG rfl (fun h => ?_) (fun h => ?_) <;> (try simp only [decide_eq_true_eq, decide_eq_false_iff_not, Bool.not_eq_true', Bool.not_eq_false', Bool.not_eq_true, Bool.not_eq_false, bne_iff_ne, ne_eq, beq_iff_eq, Bool.not_not, Bool.not_true, Bool.not_false, reduceCtorEq] at h) <;> (try (exfalso; first | omega | contradiction))) | (refine oG0 rfl ?_) | (refine oEnd ?_; try simp only [putL, List.set_cons_succ, List.set_cons_zero]; refine hr _ _ ?_; clear hr Kr)))
    | with_reducible refine thenN ?_
    | with_reducible refine thenR ?_
    | with_reducible refine blkR ?_
    | with_reducible refine blkZ ?_
    | with_reducible refine thenX ?_
    | with_reducible refine blkX ?_
    | with_reducible refine blkN rfl ?_
    | refine WP.seq (WP.reg rfl fun Kr hr => ?_)
    | refine WP.reg rfl fun Kr hr => ?_
    | refine WP.seq ?_
    | refine WP.skip ?_
    | (refine WP.condB rfl (fun h => ?_) (fun h => ?_) <;> (try simp only [decide_eq_true_eq, decide_eq_false_iff_not, Bool.not_eq_true', Bool.not_eq_false', Bool.not_eq_true, Bool.not_eq_false, bne_iff_ne, ne_eq, beq_iff_eq, Bool.not_not, Bool.not_true, Bool.not_false, reduceCtorEq] at h) <;> (try (exfalso; first | omega | contradiction)))
    | refine WP.block ?_
    | refine WP.ret ?_
    | (refine retQ.tmp ?_; try simp only [go_sem])
    | refine WP.exit ?_)
  · subst h
    simp [dgs, Lib.itoa, Lib.decDigits_one]
  · refine WP.loopL ([true, false, true, true, true] ++ List.replicate 26 false) (fun m rs H => ∃ (z : Int) (acc : List UInt8), rs = [.v (.int .i64 z), .any, .v (.string ⟨#[]⟩), .v (.bool (decide (n < 0))), .v (.string ⟨acc.toArray⟩)] ++ List.replicate 26 .any ∧ H = noHeap ∧ z.natAbs = m ∧ I64 z ∧ decOut z.natAbs acc = Lib.decDigits n.natAbs ∧ (acc.length = 0 ∨ acc.length + z.natAbs ≤ 4611686018427387904))
      (n := n.natAbs) (H0 := noHeap) (Sub.refl _) ⟨n, [], rfl, rfl, rfl, hI, ?_, ?_⟩ ?_
    · rw [decOut_eq _ _ (by omega), List.append_nil]
    · exact .inl rfl
    · rintro m rs H ⟨z, acc, rfl, rfl, hm, hz, hd, hl⟩
      simp only [List.replicate, List.cons_append, List.nil_append]
      repeat' (first
        | (with_reducible refine gReg ?_; (first | (refine oN fun K' hK' => ?_; (first | (with_reducible refine gPick ?_; refine oPick rfl (fun h => ?_) (fun h => ?_) <;> refine hK' _ _ ?_ <;> clear hK' K' <;> (try simp only [decide_eq_true_eq, decide_eq_false_iff_not, Bool.not_eq_true', Bool.not_eq_false', Bool.not_eq_true, Bool.not_eq_false, bne_iff_ne, ne_eq, beq_iff_eq, Bool.not_not, Bool.not_true, Bool.not_false, reduceCtorEq] at h) <;> (try (exfalso; first | omega | contradiction))) | (simp (disch := assumption) only [go_sem, Nat.reduceAdd, Nat.reduceMul, Nat.reduceSub, Nat.reduceLeDiff, Nat.reduceLT, Nat.reduceEqDiff, ↓reduceIte, Bool.false_eq_true, true_implies, reduceCtorEq, false_implies, and_self, and_true, Nat.lt_add_one, Nat.zero_lt_succ, Nat.zero_add, Nat.add_zero, Nat.mul_one, Nat.zero_mul, Nat.le_refl]; (first | refine hK' _ _ ?_ | (intro b hb hNb; refine hK' _ _ ?_; repeat (replace hb := upd_none hb; obtain ⟨hne, hb⟩ := hb)) | (refine ⟨by omega, ?_⟩; refine hK' _ _ ?_) | refine And.intro ?_ (hK' _ _ ?_)) <;> clear hK' K'))) | (refine oG rfl (fun h => ?_) (fun h => ?_) <;> (try simp only [decide_eq_true_eq, decide_eq_false_iff_not, Bool.not_eq_true', Bool.not_eq_false', Bool.not_eq_true, Bool.not_eq_false, bne_iff_ne, ne_eq, beq_iff_eq, Bool.not_not, Bool.not_true, Bool.not_false, reduceCtorEq] at h) <;> (try (exfalso; first | omega | contradiction))) | (refine oG0 rfl ?_) | (refine oEnd ?_; try simp only [putL, List.set_cons_succ, List.set_cons_zero]; refine hr _ _ ?_; clear hr Kr)))
        | with_reducible refine thenN ?_
        | with_reducible refine thenR ?_
        | with_reducible refine blkR ?_
        | with_reducible refine blkZ ?_
        | with_reducible refine thenX ?_
        | with_reducible refine blkX ?_
        | with_reducible refine blkN rfl ?_
        | refine WP.seq (WP.reg rfl fun Kr hr => ?_)
        | refine WP.reg rfl fun Kr hr => ?_
        | refine WP.seq ?_
        | refine WP.skip ?_
        | (refine WP.condB rfl (fun h => ?_) (fun h => ?_) <;> (try simp only [decide_eq_true_eq, decide_eq_false_iff_not, Bool.not_eq_true', Bool.not_eq_false', Bool.not_eq_true, Bool.not_eq_false, bne_iff_ne, ne_eq, beq_iff_eq, Bool.not_not, Bool.not_true, Bool.not_false, reduceCtorEq] at h) <;> (try (exfalso; first | omega | contradiction)))
        | refine WP.block ?_
        | refine WP.ret ?_
        | (refine retQ.tmp ?_; try simp only [go_sem])
        | refine WP.exit ?_)
      · have hdig := digit z _ (.inr ⟨rfl, h⟩)
        refine oN fun K' hK' => ?_
        refine cvB [UInt8.ofNat (48 + z.natAbs % 10)] ti28 ti9 rfl rfl ti5 rfl (by simp [getL, putL]) (by simp only [go_sem, srcRows, Nat.zero_add, Nat.le_refl, and_self, if_true, hdig]; rfl) (hK' _ _ ?_)
        clear hK' K'
        repeat' (first
          | (with_reducible refine gReg ?_; (first | (refine oN fun K' hK' => ?_; (first | (with_reducible refine gPick ?_; refine oPick rfl (fun h => ?_) (fun h => ?_) <;> refine hK' _ _ ?_ <;> clear hK' K' <;> (try simp only [decide_eq_true_eq, decide_eq_false_iff_not, Bool.not_eq_true', Bool.not_eq_false', Bool.not_eq_true, Bool.not_eq_false, bne_iff_ne, ne_eq, beq_iff_eq, Bool.not_not, Bool.not_true, Bool.not_false, reduceCtorEq] at h) <;> (try (exfalso; first | omega | contradiction))) | (simp (disch := assumption) only [go_sem, Nat.reduceAdd, Nat.reduceMul, Nat.reduceSub, Nat.reduceLeDiff, Nat.reduceLT, Nat.reduceEqDiff, ↓reduceIte, Bool.false_eq_true, true_implies, reduceCtorEq, false_implies, and_self, and_true, Nat.lt_add_one, Nat.zero_lt_succ, Nat.zero_add, Nat.add_zero, Nat.mul_one, Nat.zero_mul, Nat.le_refl]; (first | refine hK' _ _ ?_ | (intro b hb hNb; refine hK' _ _ ?_; repeat (replace hb := upd_none hb; obtain ⟨hne, hb⟩ := hb)) | (refine ⟨by omega, ?_⟩; refine hK' _ _ ?_) | refine And.intro ?_ (hK' _ _ ?_)) <;> clear hK' K'))) | (refine oG rfl (fun h => ?_) (fun h => ?_) <;> (try simp only [decide_eq_true_eq, decide_eq_false_iff_not, Bool.not_eq_true', Bool.not_eq_false', Bool.not_eq_true, Bool.not_eq_false, bne_iff_ne, ne_eq, beq_iff_eq, Bool.not_not, Bool.not_true, Bool.not_false, reduceCtorEq] at h) <;> (try (exfalso; first | omega | contradiction))) | (refine oG0 rfl ?_) | (refine oEnd ?_; try simp only [putL, List.set_cons_succ, List.set_cons_zero]; refine hr _ _ ?_; clear hr Kr)))
          | with_reducible refine thenN ?_
          | with_reducible refine thenR ?_
          | with_reducible refine blkR ?_
          | with_reducible refine blkZ ?_
          | with_reducible refine thenX ?_
          | with_reducible refine blkX ?_
          | with_reducible refine blkN rfl ?_
          | refine WP.seq (WP.reg rfl fun Kr hr => ?_)
          | refine WP.reg rfl fun Kr hr => ?_
          | refine WP.seq ?_
          | refine WP.skip ?_
          | (refine WP.condB rfl (fun h => ?_) (fun h => ?_) <;> (try simp only [decide_eq_true_eq, decide_eq_false_iff_not, Bool.not_eq_true', Bool.not_eq_false', Bool.not_eq_true, Bool.not_eq_false, bne_iff_ne, ne_eq, beq_iff_eq, Bool.not_not, Bool.not_true, Bool.not_false, reduceCtorEq] at h) <;> (try (exfalso; first | omega | contradiction)))
          | refine WP.block ?_
          | refine WP.ret ?_
          | (refine retQ.tmp ?_; try simp only [go_sem])
          | refine WP.exit ?_)
        refine ⟨_, _, noHeap, (z.tdiv 10).natAbs, rfl, Sub.none _, ?_, z.tdiv 10, UInt8.ofNat (48 + z.natAbs % 10) :: acc, ?_, rfl, rfl, tdiv10_le z hz, ?_, ?_⟩
        · rw [tdiv10]; omega
        · rw [i64_id (tdiv10_le z hz), app1]; rfl
        · rw [decOut, dif_neg (by omega)] at hd
          rw [tdiv10, hd]
        · rw [tdiv10, List.length_cons]; unfold I64 at hz; omega
      · have hdig := digit z _ (.inl ⟨rfl, by omega⟩)
        refine oN fun K' hK' => ?_
        refine cvB [UInt8.ofNat (48 + z.natAbs % 10)] ti28 ti9 rfl rfl ti5 rfl (by simp [getL, putL]) (by simp only [go_sem, srcRows, Nat.zero_add, Nat.le_refl, and_self, if_true, hdig]; rfl) (hK' _ _ ?_)
        clear hK' K'
        repeat' (first
          | (with_reducible refine gReg ?_; (first | (refine oN fun K' hK' => ?_; (first | (with_reducible refine gPick ?_; refine oPick rfl (fun h => ?_) (fun h => ?_) <;> refine hK' _ _ ?_ <;> clear hK' K' <;> (try simp only [decide_eq_true_eq, decide_eq_false_iff_not, Bool.not_eq_true', Bool.not_eq_false', Bool.not_eq_true, Bool.not_eq_false, bne_iff_ne, ne_eq, beq_iff_eq, Bool.not_not, Bool.not_true, Bool.not_false, reduceCtorEq] at h) <;> (try (exfalso; first | omega | contradiction))) | (simp (disch := assumption) only [go_sem, Nat.reduceAdd, Nat.reduceMul, Nat.reduceSub, Nat.reduceLeDiff, Nat.reduceLT, Nat.reduceEqDiff, ↓reduceIte, Bool.false_eq_true, true_implies, reduceCtorEq, false_implies, and_self, and_true, Nat.lt_add_one, Nat.zero_lt_succ, Nat.zero_add, Nat.add_zero, Nat.mul_one, Nat.zero_mul, Nat.le_refl]; (first | refine hK' _ _ ?_ | (intro b hb hNb; refine hK' _ _ ?_; repeat (replace hb := upd_none hb; obtain ⟨hne, hb⟩ := hb)) | (refine ⟨by omega, ?_⟩; refine hK' _ _ ?_) | refine And.intro ?_ (hK' _ _ ?_)) <;> clear hK' K'))) | (refine oG rfl (fun h => ?_) (fun h => ?_) <;> (try simp only [decide_eq_true_eq, decide_eq_false_iff_not, Bool.not_eq_true', Bool.not_eq_false', Bool.not_eq_true, Bool.not_eq_false, bne_iff_ne, ne_eq, beq_iff_eq, Bool.not_not, Bool.not_true, Bool.not_false, reduceCtorEq] at h) <;> (try (exfalso; first | omega | contradiction))) | (refine oG0 rfl ?_) | (refine oEnd ?_; try simp only [putL, List.set_cons_succ, List.set_cons_zero]; refine hr _ _ ?_; clear hr Kr)))
          | with_reducible refine thenN ?_
          | with_reducible refine thenR ?_
          | with_reducible refine blkR ?_
          | with_reducible refine blkZ ?_
          | with_reducible refine thenX ?_
          | with_reducible refine blkX ?_
          | with_reducible refine blkN rfl ?_
          | refine WP.seq (WP.reg rfl fun Kr hr => ?_)
          | refine WP.reg rfl fun Kr hr => ?_
          | refine WP.seq ?_
          | refine WP.skip ?_
          | (refine WP.condB rfl (fun h => ?_) (fun h => ?_) <;> (try simp only [decide_eq_true_eq, decide_eq_false_iff_not, Bool.not_eq_true', Bool.not_eq_false', Bool.not_eq_true, Bool.not_eq_false, bne_iff_ne, ne_eq, beq_iff_eq, Bool.not_not, Bool.not_true, Bool.not_false, reduceCtorEq] at h) <;> (try (exfalso; first | omega | contradiction)))
          | refine WP.block ?_
          | refine WP.ret ?_
          | (refine retQ.tmp ?_; try simp only [go_sem])
          | refine WP.exit ?_)
        refine ⟨_, _, noHeap, (z.tdiv 10).natAbs, rfl, Sub.none _, ?_, z.tdiv 10, UInt8.ofNat (48 + z.natAbs % 10) :: acc, ?_, rfl, rfl, tdiv10_le z hz, ?_, ?_⟩
        · rw [tdiv10]; omega
        · rw [i64_id (tdiv10_le z hz), app1]; rfl
        · rw [decOut, dif_neg (by omega)] at hd
          rw [tdiv10, hd]
        · rw [tdiv10, List.length_cons]; unfold I64 at hz; omega
      · subst z
        rw [decOut, dif_pos (show Int.natAbs 0 = 0 from rfl)] at hd
        rw [app1, hd, dgs, Lib.itoa, if_pos h]
      · subst z
        rw [decOut, dif_pos (show Int.natAbs 0 = 0 from rfl)] at hd
        rw [hd, dgs, Lib.itoa, if_neg h, show n.toNat = n.natAbs by omega]

theorem c5 (k n : Int) (hI : I64 n) : CallsA Tryd.prog 5 [.agg [.v (.int .i64 k), .v (.int .i64 n)]] noHeap (fun r H => r = .v (.string (valT k n))) := by
  have hs := dgs_size hI
  have hs2 := dgs_size (i64_wrap (n - 6))
  refine CallsA.of (rl := [.tmp 2]) (n := 32) Tryd.func5 rfl rfl rfl rfl fun c N hN => ?_
  simp only [List.length_cons, List.length_nil, List.replicate, List.cons_append, List.nil_append]
  repeat' (first
    | (with_reducible refine gReg ?_; (first | (refine oN fun K' hK' => ?_; (first | (with_reducible refine gPick ?_; refine oPick rfl (fun h => ?_) (fun h => ?_) <;> refine hK' _ _ ?_ <;> clear hK' K' <;> (try simp only [decide_eq_true_eq, decide_eq_false_iff_not, Bool.not_eq_true', Bool.not_eq_false', Bool.not_eq_true, Bool.not_eq_false, bne_iff_ne, ne_eq, beq_iff_eq, Bool.not_not, Bool.not_true, Bool.not_false, reduceCtorEq] at h) <;> (try (exfalso; first | omega | contradiction))) | (with_reducible refine gCall ?_; (first | refine cN k9 (c9 ..) rfl rfl (hK' _ _ ?_) | refine cN k10 (c10 _ hI) rfl rfl (hK' _ _ ?_) | refine cN k10 (c10 _ (i64_wrap _)) rfl rfl (hK' _ _ ?_)); clear hK' K') | (simp (disch := assumption) only [go_sem, Nat.reduceAdd, Nat.reduceMul, Nat.reduceSub, Nat.reduceLeDiff, Nat.reduceLT, Nat.reduceEqDiff, ↓reduceIte, Bool.false_eq_true, true_implies, reduceCtorEq, false_implies, and_self, and_true, Nat.lt_add_one, Nat.zero_lt_succ, Nat.zero_add, Nat.add_zero, Nat.mul_one, Nat.zero_mul, Nat.le_refl]; (first | refine hK' _ _ ?_ | (intro b hb hNb; refine hK' _ _ ?_; repeat (replace hb := upd_none hb; obtain ⟨hne, hb⟩ := hb)) | (refine ⟨by omega, ?_⟩; refine hK' _ _ ?_) | refine And.intro ?_ (hK' _ _ ?_)) <;> clear hK' K'))) | (refine oG rfl (fun h => ?_) (fun h => ?_) <;> (try simp only [decide_eq_true_eq, decide_eq_false_iff_not, Bool.not_eq_true', Bool.not_eq_false', Bool.not_eq_true, Bool.not_eq_false, bne_iff_ne, ne_eq, beq_iff_eq, Bool.not_not, Bool.not_true, Bool.not_false, reduceCtorEq] at h) <;> (try (exfalso; first | omega | contradiction))) | (refine oG0 rfl ?_) | (refine oEnd ?_; try simp only [putL, List.set_cons_succ, List.set_cons_zero]; refine hr _ _ ?_; clear hr Kr)))
    | with_reducible refine thenN ?_
    | with_reducible refine thenR ?_
    | with_reducible refine blkR ?_
    | with_reducible refine blkZ ?_
    | with_reducible refine thenX ?_
    | with_reducible refine blkX ?_
    | with_reducible refine blkN rfl ?_
    | refine WP.seq (WP.reg rfl fun Kr hr => ?_)
    | refine WP.reg rfl fun Kr hr => ?_
    | refine WP.seq ?_
    | refine WP.skip ?_
    | (refine WP.condB rfl (fun h => ?_) (fun h => ?_) <;> (try simp only [decide_eq_true_eq, decide_eq_false_iff_not, Bool.not_eq_true', Bool.not_eq_false', Bool.not_eq_true, Bool.not_eq_false, bne_iff_ne, ne_eq, beq_iff_eq, Bool.not_not, Bool.not_true, Bool.not_false, reduceCtorEq] at h) <;> (try (exfalso; first | omega | contradiction)))
    | refine WP.block ?_
    | refine WP.ret ?_
    | (refine retQ.tmp ?_; try simp only [go_sem])
    | refine WP.exit ?_)
  all_goals first
    | (simp [*, valT, valS]; done)
    | (subst_vars; simp_all [valT, valS]; done)

theorem k5 : callable Tryd.prog 5 = true := by kernel_rfl
theorem k6 : callable Tryd.prog 6 = true := by kernel_rfl
theorem k7 : callable Tryd.prog 7 = true := by kernel_rfl
theorem c3 (k n : Int) (hI : I64 n) : CallsA Tryd.prog 3 [.agg [.v (.int .i64 k), .v (.int .i64 n)]] noHeap (fun r H => r = .v (.bool true)) := by
  refine CallsA.of (rl := [.tmp 2]) (n := 14) Tryd.func3 rfl rfl rfl rfl fun c N hN => ?_
  simp only [List.length_cons, List.length_nil, List.replicate, List.cons_append, List.nil_append]
  repeat' (first
    | (with_reducible refine gReg ?_; (first | (refine oN fun K' hK' => ?_; (first | (with_reducible refine gPick ?_; refine oPick rfl (fun h => ?_) (fun h => ?_) <;> refine hK' _ _ ?_ <;> clear hK' K' <;> (try simp only [decide_eq_true_eq, decide_eq_false_iff_not, Bool.not_eq_true', Bool.not_eq_false', Bool.not_eq_true, Bool.not_eq_false, bne_iff_ne, ne_eq, beq_iff_eq, Bool.not_not, Bool.not_true, Bool.not_false, reduceCtorEq] at h) <;> (try (exfalso; first | omega | contradiction))) | (with_reducible refine gCall ?_; (first | refine cN k6 (c6 ..) rfl rfl (hK' _ _ ?_) | refine cN k5 (c5 _ _ hI) rfl rfl (hK' _ _ ?_) | refine cN k7 (c7 _ _ hI) rfl rfl (hK' _ _ ?_)); clear hK' K') | (simp (disch := assumption) only [go_sem, Nat.reduceAdd, Nat.reduceMul, Nat.reduceSub, Nat.reduceLeDiff, Nat.reduceLT, Nat.reduceEqDiff, ↓reduceIte, Bool.false_eq_true, true_implies, reduceCtorEq, false_implies, and_self, and_true, Nat.lt_add_one, Nat.zero_lt_succ, Nat.zero_add, Nat.add_zero, Nat.mul_one, Nat.zero_mul, Nat.le_refl]; (first | refine hK' _ _ ?_ | (intro b hb hNb; refine hK' _ _ ?_; repeat (replace hb := upd_none hb; obtain ⟨hne, hb⟩ := hb)) | (refine ⟨by omega, ?_⟩; refine hK' _ _ ?_) | refine And.intro ?_ (hK' _ _ ?_)) <;> clear hK' K'))) | (refine oG rfl (fun h => ?_) (fun h => ?_) <;> (try simp only [decide_eq_true_eq, decide_eq_false_iff_not, Bool.not_eq_true', Bool.not_eq_false', Bool.not_eq_true, Bool.not_eq_false, bne_iff_ne, ne_eq, beq_iff_eq, Bool.not_not, Bool.not_true, Bool.not_false, reduceCtorEq] at h) <;> (try (exfalso; first | omega | contradiction))) | (refine oG0 rfl ?_) | (refine oEnd ?_; try simp only [putL, List.set_cons_succ, List.set_cons_zero]; refine hr _ _ ?_; clear hr Kr)))
    | with_reducible refine thenN ?_
    | with_reducible refine thenR ?_
    | with_reducible refine blkR ?_
    | with_reducible refine blkZ ?_
    | with_reducible refine thenX ?_
    | with_reducible refine blkX ?_
    | with_reducible refine blkN rfl ?_
    | refine WP.seq (WP.reg rfl fun Kr hr => ?_)
    | refine WP.reg rfl fun Kr hr => ?_
    | refine WP.seq ?_
    | refine WP.skip ?_
    | (refine WP.condB rfl (fun h => ?_) (fun h => ?_) <;> (try simp only [decide_eq_true_eq, decide_eq_false_iff_not, Bool.not_eq_true', Bool.not_eq_false', Bool.not_eq_true, Bool.not_eq_false, bne_iff_ne, ne_eq, beq_iff_eq, Bool.not_not, Bool.not_true, Bool.not_false, reduceCtorEq] at h) <;> (try (exfalso; first | omega | contradiction)))
    | refine WP.block ?_
    | refine WP.ret ?_
    | (refine retQ.tmp ?_; try simp only [go_sem])
    | refine WP.exit ?_)
end Go.AF
