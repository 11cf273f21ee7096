import Derived.Test.YtmpopmdimofnbaaDoorAG2
import Derived.Test.YtmpopmdimofnbaaDoorV
/-! Draws of FnVals. -/
namespace Go.AF.V2
open Go Go.Proofs
set_option linter.unusedVariables false
set_option linter.unusedSimpArgs false
set_option maxRecDepth 100000
set_option maxHeartbeats 4000000
abbrev I (n : Int) : AV := .v (.int .i64 n)
abbrev Bo (b : Bool) : AV := .v (.bool b)
theorem mixed : Tryd.prog.follows .mixedOrders = true := by kernel_rfl
theorem ti2 : tiOf Tryd.prog 2 = some ⟨1, 8, [.v (.int .i64 0)], .int .i64⟩ := by kernel_rfl
theorem ti3 : tiOf Tryd.prog 3 = some ⟨1, 8, [.v (.int .i64 0)], .int .i64⟩ := by kernel_rfl
theorem ti4 : tiOf Tryd.prog 4 = some ⟨1, 1, [.v (.bool false)], .bool⟩ := by kernel_rfl
theorem ti5 : tiOf Tryd.prog 5 = some ⟨1, 1, [.v (.int .u8 0)], .int .u8⟩ := by kernel_rfl
theorem ti25 : tiOf Tryd.prog 25 = some ⟨2, 16, [.v (.int .i64 0), .v (.int .i64 0)], .struct [(0, 2, 1), (1, 2, 1)]⟩ := by kernel_rfl
theorem ti28 : tiOf Tryd.prog 28 = some ⟨1, 24, [.nil], .slice 5⟩ := by kernel_rfl
theorem ti39 : tiOf Tryd.prog 39 = some ⟨1, 8, [.v (.int .u64 0)], .int .u64⟩ := by kernel_rfl
theorem ti41 : tiOf Tryd.prog 41 = some ⟨4, 48, [.nil, .v (.int .i64 0), .v (.int .u64 0), .v (.int .i64 0)], .struct [(0, 28, 1), (1, 3, 1), (2, 39, 1), (3, 2, 1)]⟩ := by kernel_rfl
theorem ti43 : tiOf Tryd.prog 43 = some ⟨1, 24, [.nil], .slice 2⟩ := by kernel_rfl
theorem k5 : callable Tryd.prog 5 = true := by kernel_rfl
theorem k7 : callable Tryd.prog 7 = true := by kernel_rfl
theorem k8 : callable Tryd.prog 8 = true := by kernel_rfl
theorem k13 : callable Tryd.prog 13 = true := by kernel_rfl
theorem k14 : callable Tryd.prog 14 = true := by kernel_rfl
theorem k15 : callable Tryd.prog 15 = true := by kernel_rfl
theorem k16 : callable Tryd.prog 16 = true := by kernel_rfl
theorem k20 : callable Tryd.prog 20 = true := by kernel_rfl
theorem k21 : callable Tryd.prog 21 = true := by kernel_rfl
attribute [local go_sem] ti2 ti3 ti4 ti5 ti25 ti28 ti39 ti41 ti43 gA gS getL putL yieldL constAV binK binI binS unK cvK newK stK lenK avLen iaK idxK exK fieldK buildK biK one_int one_bool one_string Bool.and_true Bool.and_self loadK faK AV.cells AV.cell TK.agg splice Heap.upd_self Heap.upd_ne upd_ne' upd_upd Option.getD_some List.set_cons_zero List.set_cons_succ List.getElem?_cons_zero List.getElem?_cons_succ Option.some.injEq exists_eq_left' true_and List.drop_zero List.drop_succ_cons List.take_zero List.take_succ_cons List.length_cons List.length_nil List.all_cons List.all_nil size_lit List.size_toArray List.nil_append List.cons_append List.drop_nil List.take_nil exists_and_left TK.slice.injEq bsK fillA chunk List.replicate_zero List.replicate_succ List.map_cons List.map_nil List.range_succ List.range_zero mkK slK bndI Option.map_some Option.map_none leT leF ltT ltF eqF nleT nltT neqF wI64 wU64 wU8 gt_get map_get List.length_map Bool.false_eq_true true_implies false_implies and_self and_true Nat.lt_add_one Nat.zero_lt_succ Nat.zero_add Nat.add_zero Nat.mul_one Nat.zero_mul Nat.le_refl List.length_append Int.toNat_natCast TK.int.injEq IntKind.signed ne_eq not_false_eq_true if_true if_false eq_self decide_eq_true_eq decide_eq_false_iff_not Bool.not_eq_true' Bool.not_eq_false' Bool.not_eq_true Bool.not_eq_false bne_iff_ne beq_iff_eq Bool.not_not Bool.true_eq_false n11 n12 n21 n13 n31 n22 n23 n32 n14 n41 decide_true decide_false Bool.not_true Bool.not_false and_false false_and or_true true_or or_false false_or cellsInt cellsBool List.map_map Function.comp_apply take_map set_ri set_rb rep_ri rep_rb resF resL resA one stL_get Bool.and_eq_true Bool.and_eq_false_iff Bool.or_eq_true Bool.or_eq_false_iff
attribute [local go_sem] src u8row ri
theorem u64_eq (n : Int) : IntKind.u64.wrap n = n % 18446744073709551616 := by simp [IntKind.wrap, IntKind.bits, IntKind.signed]
theorem rem_bound (A most : Int) (h1 : 1 < most) (hm : I64 most) : 0 ≤ IntKind.i64.wrap ((IntKind.u64.wrap A).tmod most) ∧ (IntKind.i64.wrap ((IntKind.u64.wrap A).tmod most) < most ∨ IntKind.i64.wrap ((IntKind.u64.wrap A).tmod most) = 0) := by
  unfold I64 at hm
  have h0 : 0 ≤ IntKind.u64.wrap A := by rw [u64_eq]; omega
  rw [Int.tmod_eq_emod_of_nonneg h0]
  have h2 := Int.emod_nonneg (IntKind.u64.wrap A) (show most ≠ 0 by omega)
  have h3 := Int.emod_lt_of_pos (IntKind.u64.wrap A) (show 0 < most by omega)
  rw [wI64 (by omega) (by omega)]
  exact ⟨h2, .inl h3⟩

theorem c_n (b : Nat) (bs : List UInt8) (sz most : Int) (k : Blk) (hk : IsSrc 41 bs sz k) (hl : bs.length ≤ 1048576) (hm : I64 most) : CallsM Tryd.prog 20 [.pt b 4 0 0, I most] b k (fun r k' => ∃ x, r = I x ∧ (0 ≤ x ∧ (x < most ∨ x = 0)) ∧ IsSrc 41 bs sz k') := by
 obtain ⟨a, m, ha, rfl⟩ := hk
 refine CallsA.of (rl := [.tmp 4]) (n := 87) Tryd.func20 rfl rfl rfl rfl fun c N hN => ?_
 simp only [List.length_cons, List.length_nil, List.replicate, List.cons_append, List.nil_append]
 unfold only
 unfold I64 at hm
 refine WP.seq ?_
 refine WP.reg rfl fun Kr hr => ?_
 iterate 1 (refine pN fun K' hK' => ?_; simp (disch := omega) only [go_sem]; refine hK' _ _ _ (by simp only [go_sem]; exact rfl) ?_; clear hK' K')
 refine oEnd ?_
 refine hr _ _ ?_
 clear hr Kr
 with_reducible refine thenN ?_
 refine WP.seq ?_
 refine WP.seq ?_
 refine WP.reg rfl fun Kr hr => ?_
 iterate 2 (refine pN fun K' hK' => ?_; simp (disch := omega) only [go_sem]; refine hK' _ _ _ (by simp only [go_sem]; exact rfl) ?_; clear hK' K')
 refine oEnd ?_
 refine hr _ _ ?_
 clear hr Kr
 with_reducible refine thenN ?_
 refine WP.condB rfl (fun hr1 => ?_) (fun hr1 => ?_)
 · have hc1 := hr1
   (try simp only [go_sem] at hc1) <;> (try (exfalso; first | contradiction | omega))
   all_goals
    refine WP.seq ?_
    refine WP.reg rfl fun Kr hr => ?_
    iterate 1 (refine pN fun K' hK' => ?_; simp (disch := omega) only [go_sem]; refine hK' _ _ _ (by simp only [go_sem]; exact rfl) ?_; clear hK' K')
    refine oEnd ?_
    refine hr _ _ ?_
    clear hr Kr
    with_reducible refine thenN ?_
    refine WP.ret ?_
    with_reducible refine thenR ?_
    refine retM.tmp _ (by first | exact Heap.upd_self .. | (simp (disch := omega) only [Heap.upd_self, Heap.upd_ne]; done) | assumption) ?_
    try simp (disch := omega) only [go_sem]
    all_goals
     exact ⟨0, rfl, ⟨by omega, .inr rfl⟩, a, m, ha, rfl⟩
 · have hc1 := hr1
   (try simp only [go_sem] at hc1) <;> (try (exfalso; first | contradiction | omega))
   all_goals
    refine WP.skip ?_
    with_reducible refine thenN ?_
    refine WP.seq ?_
    refine WP.reg rfl fun Kr hr => ?_
    iterate 1 (refine pN fun K' hK' => ?_; simp (disch := omega) only [go_sem]; refine hK' _ _ _ (by simp only [go_sem]; exact rfl) ?_; clear hK' K')
    refine oEnd ?_
    refine hr _ _ ?_
    clear hr Kr
    with_reducible refine thenN ?_
    refine WP.seq ?_
    refine WP.seq ?_
    refine WP.regD mixed [] rfl (by kernel_rfl) fun Kr hr => ?_
    iterate 8 (refine pS rfl fun K' hK' => ?_; simp (disch := omega) only [go_sem]; refine hK' _ _ _ (by simp only [go_sem]; exact rfl) ?_; clear hK' K')
    refine pS rfl fun K' hK' => ?_
    refine bLenSS ti28 rfl rfl (fun q hq => by cases hq) (hK' _ _ _ (by simp only [go_sem]; exact rfl) ?_)
    clear hK' K'
    iterate 1 (refine pS rfl fun K' hK' => ?_; simp (disch := omega) only [go_sem]; refine hK' _ _ _ (by simp only [go_sem]; exact rfl) ?_; clear hK' K')
    refine oEnd ?_
    refine hr _ _ ?_
    clear hr Kr
    with_reducible refine thenN ?_
    refine WP.condB rfl (fun hr2 => ?_) (fun hr2 => ?_)
    · have hc2 := hr2
      (try simp only [go_sem] at hc2) <;> (try (exfalso; first | contradiction | omega))
      all_goals
       refine WP.seq ?_
       refine WP.regD mixed [] rfl (by kernel_rfl) fun Kr hr => ?_
       iterate 12 (refine pS rfl fun K' hK' => ?_; simp (disch := omega) only [go_sem]; refine hK' _ _ _ (by simp only [go_sem]; exact rfl) ?_; clear hK' K')
       refine oEnd ?_
       refine hr _ _ ?_
       clear hr Kr
       with_reducible refine thenN ?_
       refine WP.reg rfl fun Kr hr => ?_
       iterate 9 (refine pN fun K' hK' => ?_; simp (disch := omega) only [go_sem]; refine hK' _ _ _ (by simp only [go_sem]; exact rfl) ?_; clear hK' K')
       refine oEnd ?_
       refine hr _ _ ?_
       clear hr Kr
       with_reducible refine thenN ?_
       refine WP.seq ?_
       refine WP.regD mixed [13] rfl (by kernel_rfl) fun Kr hr => ?_
       iterate 13 (refine pS rfl fun K' hK' => ?_; simp (disch := omega) only [go_sem]; refine hK' _ _ _ (by simp only [go_sem]; exact rfl) ?_; clear hK' K')
       iterate 1 (refine pE rfl fun K' hK' => ?_; simp (disch := omega) only [go_sem]; refine hK' _ _ _ (by simp only [go_sem]; exact rfl) ?_; clear hK' K')
       refine oEnd ?_
       refine hr _ _ ?_
       clear hr Kr
       with_reducible refine thenN ?_
       refine WP.seq ?_
       refine WP.regD mixed [13] rfl (by kernel_rfl) fun Kr hr => ?_
       iterate 13 (refine pS rfl fun K' hK' => ?_; simp (disch := omega) only [go_sem]; refine hK' _ _ _ (by simp only [go_sem]; exact rfl) ?_; clear hK' K')
       iterate 1 (refine pE rfl fun K' hK' => ?_; simp (disch := omega) only [go_sem]; refine hK' _ _ _ (by simp only [go_sem]; exact rfl) ?_; clear hK' K')
       refine oEnd ?_
       refine hr _ _ ?_
       clear hr Kr
       with_reducible refine thenN ?_
       refine WP.seq ?_
       refine WP.regD mixed [13] rfl (by kernel_rfl) fun Kr hr => ?_
       iterate 13 (refine pS rfl fun K' hK' => ?_; simp (disch := omega) only [go_sem]; refine hK' _ _ _ (by simp only [go_sem]; exact rfl) ?_; clear hK' K')
       iterate 1 (refine pE rfl fun K' hK' => ?_; simp (disch := omega) only [go_sem]; refine hK' _ _ _ (by simp only [go_sem]; exact rfl) ?_; clear hK' K')
       refine oEnd ?_
       refine hr _ _ ?_
       clear hr Kr
       with_reducible refine thenN ?_
       refine WP.seq ?_
       refine WP.reg rfl fun Kr hr => ?_
       iterate 12 (refine pN fun K' hK' => ?_; simp (disch := omega) only [go_sem]; refine hK' _ _ _ (by simp only [go_sem]; exact rfl) ?_; clear hK' K')
       refine oEnd ?_
       refine hr _ _ ?_
       clear hr Kr
       with_reducible refine thenN ?_
       refine WP.ret ?_
       refine retM.tmp _ (by first | exact Heap.upd_self .. | (simp (disch := omega) only [Heap.upd_self, Heap.upd_ne]; done) | assumption) ?_
       try simp (disch := omega) only [go_sem]
       all_goals
        exact ⟨_, rfl, rem_bound _ _ (by omega) hm, _, _, by omega, rfl⟩
    · have hc2 := hr2
      (try simp only [go_sem] at hc2) <;> (try (exfalso; first | contradiction | omega))
      all_goals
       refine WP.skip ?_
       with_reducible refine thenN ?_
       refine WP.seq ?_
       refine WP.regD mixed [13] rfl (by kernel_rfl) fun Kr hr => ?_
       iterate 13 (refine pS rfl fun K' hK' => ?_; simp (disch := omega) only [go_sem]; refine hK' _ _ _ (by simp only [go_sem]; exact rfl) ?_; clear hK' K')
       iterate 1 (refine pE rfl fun K' hK' => ?_; simp (disch := omega) only [go_sem]; refine hK' _ _ _ (by simp only [go_sem]; exact rfl) ?_; clear hK' K')
       refine oEnd ?_
       refine hr _ _ ?_
       clear hr Kr
       with_reducible refine thenN ?_
       refine WP.seq ?_
       refine WP.regD mixed [13] rfl (by kernel_rfl) fun Kr hr => ?_
       iterate 13 (refine pS rfl fun K' hK' => ?_; simp (disch := omega) only [go_sem]; refine hK' _ _ _ (by simp only [go_sem]; exact rfl) ?_; clear hK' K')
       iterate 1 (refine pE rfl fun K' hK' => ?_; simp (disch := omega) only [go_sem]; refine hK' _ _ _ (by simp only [go_sem]; exact rfl) ?_; clear hK' K')
       refine oEnd ?_
       refine hr _ _ ?_
       clear hr Kr
       with_reducible refine thenN ?_
       refine WP.seq ?_
       refine WP.regD mixed [13] rfl (by kernel_rfl) fun Kr hr => ?_
       iterate 13 (refine pS rfl fun K' hK' => ?_; simp (disch := omega) only [go_sem]; refine hK' _ _ _ (by simp only [go_sem]; exact rfl) ?_; clear hK' K')
       iterate 1 (refine pE rfl fun K' hK' => ?_; simp (disch := omega) only [go_sem]; refine hK' _ _ _ (by simp only [go_sem]; exact rfl) ?_; clear hK' K')
       refine oEnd ?_
       refine hr _ _ ?_
       clear hr Kr
       with_reducible refine thenN ?_
       refine WP.seq ?_
       refine WP.reg rfl fun Kr hr => ?_
       iterate 12 (refine pN fun K' hK' => ?_; simp (disch := omega) only [go_sem]; refine hK' _ _ _ (by simp only [go_sem]; exact rfl) ?_; clear hK' K')
       refine oEnd ?_
       refine hr _ _ ?_
       clear hr Kr
       with_reducible refine thenN ?_
       refine WP.ret ?_
       refine retM.tmp _ (by first | exact Heap.upd_self .. | (simp (disch := omega) only [Heap.upd_self, Heap.upd_ne]; done) | assumption) ?_
       try simp (disch := omega) only [go_sem]
       all_goals
        exact ⟨_, rfl, rem_bound _ _ (by omega) hm, _, _, by omega, rfl⟩

theorem c_one (b : Nat) (bs : List UInt8) (sz most : Int) (k : Blk) (hk : IsSrc 41 bs sz k) (hl : bs.length ≤ 1048576) (hm : I64 most) : CallsM Tryd.prog 14 [.pt b 4 0 0, I most] b k (fun r k' => (∃ v, r = Bo v) ∧ IsSrc 41 bs sz k') := by
 refine CallsA.of (rl := [.tmp 4]) (n := 9) Tryd.func14 rfl rfl rfl rfl fun c N hN => ?_
 simp only [List.length_cons, List.length_nil, List.replicate, List.cons_append, List.nil_append]
 unfold only
 refine WP.seq ?_
 refine WP.reg rfl fun Kr hr => ?_
 iterate 1 (refine pN fun K' hK' => ?_; simp (disch := omega) only [go_sem]; refine hK' _ _ _ (by simp only [go_sem]; exact rfl) ?_; clear hK' K')
 refine oEnd ?_
 refine hr _ _ ?_
 clear hr Kr
 with_reducible refine thenN ?_
 refine WP.seq ?_
 refine WP.reg rfl fun Kr hr => ?_
 iterate 2 (refine pN fun K' hK' => ?_; simp (disch := omega) only [go_sem]; refine hK' _ _ _ (by simp only [go_sem]; exact rfl) ?_; clear hK' K')
 refine pN fun K' hK' => ?_
 refine cM k20 (c_n b bs sz most k hk hl hm) rfl (by first | exact Heap.upd_self .. | (simp (disch := omega) only [Heap.upd_self, Heap.upd_ne]; done) | assumption) fun r k' hR => ?_
 obtain ⟨x, rfl, hx, hk0⟩ := hR
 refine hK' _ _ _ (by simp only [go_sem]; exact rfl) ?_
 clear hK' K'
 iterate 2 (refine pN fun K' hK' => ?_; simp (disch := omega) only [go_sem]; refine hK' _ _ _ (by simp only [go_sem]; exact rfl) ?_; clear hK' K')
 refine oEnd ?_
 refine hr _ _ ?_
 clear hr Kr
 with_reducible refine thenN ?_
 refine WP.ret ?_
 refine retM.tmp _ (by first | exact Heap.upd_self .. | (simp (disch := omega) only [Heap.upd_self, Heap.upd_ne]; done) | assumption) ?_
 try simp (disch := omega) only [go_sem]
 all_goals
  exact ⟨⟨_, rfl⟩, by assumption⟩

def edges : List Int := [0, 1, -1, 2, 1000, 1001, 2147483648, 2147483647, -2147483648, 4611686018427387904, 9223372036854775807, -9223372036854775808, 1000000, 1000001]
theorem edges_ok : ∀ v ∈ edges, I64 v := by
  intro v hv
  unfold I64
  simp only [edges, List.mem_cons, List.not_mem_nil, or_false] at hv
  omega
def nums : List Int := [127, 128, -128, -129, 32767, 32768, 65535, 4294967295, 4294967296, -2147483649]
theorem nums_ok : ∀ v ∈ nums, I64 v := by
  intro v hv
  unfold I64
  simp only [nums, List.mem_cons, List.not_mem_nil, or_false] at hv
  omega

theorem c_edge (b : Nat) (bs : List UInt8) (sz : Int) (k : Blk) (hk : IsSrc 41 bs sz k) (hl : bs.length ≤ 1048576) : CallsM Tryd.prog 21 [.pt b 4 0 0] b k (fun r k' => (∃ v, r = I v ∧ I64 v) ∧ IsSrc 41 bs sz k') := by
 refine CallsA.of (rl := [.tmp 2]) (n := 8) Tryd.func21 rfl rfl rfl rfl fun c N hN => ?_
 simp only [List.length_cons, List.length_nil, List.replicate, List.cons_append, List.nil_append]
 unfold only
 have hle : edges.length = 14 := rfl
 refine WP.seq ?_
 refine WP.reg rfl fun Kr hr => ?_
 iterate 1 (refine pN fun K' hK' => ?_; simp (disch := omega) only [go_sem]; refine hK' _ _ _ (by simp only [go_sem]; exact rfl) ?_; clear hK' K')
 refine oEnd ?_
 refine hr _ _ ?_
 clear hr Kr
 with_reducible refine thenN ?_
 refine WP.seq ?_
 refine WP.reg rfl fun Kr hr => ?_
 refine pN fun K' hK' => ?_
 refine oBSs (edges.map fun v => .v (.int .i64 v)) ti43 rfl ti2 rfl (by decide) rfl (by simp [AV.cells, AV.cell, one_int, one_string, one_bool]) fun b3 hb3 hn3 => hK' _ _ _ (by simp only [go_sem]; exact rfl) ?_
 clear hK' K'
 have hq3 := hb3
 repeat (replace hb3 := upd_none hb3; obtain ⟨_, hb3⟩ := hb3)
 iterate 1 (refine pN fun K' hK' => ?_; simp (disch := omega) only [go_sem]; refine hK' _ _ _ (by simp only [go_sem]; exact rfl) ?_; clear hK' K')
 refine pN fun K' hK' => ?_
 refine cM k20 (c_n b bs sz 14 k hk hl ⟨by decide, by decide⟩) rfl (by first | exact Heap.upd_self .. | (simp (disch := omega) only [Heap.upd_self, Heap.upd_ne]; done) | assumption) fun r k' hR => ?_
 obtain ⟨x, rfl, hx, hk0⟩ := hR
 refine hK' _ _ _ (by simp only [go_sem]; exact rfl) ?_
 clear hK' K'
 iterate 3 (refine pN fun K' hK' => ?_; simp (disch := omega) only [go_sem]; refine hK' _ _ _ (by simp only [go_sem]; exact rfl) ?_; clear hK' K')
 refine oEnd ?_
 refine hr _ _ ?_
 clear hr Kr
 with_reducible refine thenN ?_
 refine WP.ret ?_
 refine retM.tmp _ (by first | exact Heap.upd_self .. | (simp (disch := omega) only [Heap.upd_self, Heap.upd_ne]; done) | assumption) ?_
 try simp (disch := omega) only [go_sem]
 all_goals
  exact ⟨⟨_, rfl, edges_ok _ (gt_mem (by omega))⟩, by assumption⟩

theorem c_l02Num (b : Nat) (bs : List UInt8) (sz : Int) (k : Blk) (hk : IsSrc 41 bs sz k) (hl : bs.length ≤ 1048576) : CallsM Tryd.prog 15 [.pt b 4 0 0] b k (fun r k' => (∃ v, r = I v ∧ I64 v) ∧ IsSrc 41 bs sz k') := by
 refine CallsA.of (rl := [.tmp 2]) (n := 24) Tryd.func15 rfl rfl rfl rfl fun c N hN => ?_
 simp only [List.length_cons, List.length_nil, List.replicate, List.cons_append, List.nil_append]
 unfold only
 have hle : nums.length = 10 := rfl
 refine WP.seq ?_
 refine WP.reg rfl fun Kr hr => ?_
 iterate 1 (refine pN fun K' hK' => ?_; simp (disch := omega) only [go_sem]; refine hK' _ _ _ (by simp only [go_sem]; exact rfl) ?_; clear hK' K')
 refine oEnd ?_
 refine hr _ _ ?_
 clear hr Kr
 with_reducible refine thenN ?_
 refine WP.seq ?_
 refine WP.seq ?_
 refine WP.reg rfl fun Kr hr => ?_
 iterate 1 (refine pN fun K' hK' => ?_; simp (disch := omega) only [go_sem]; refine hK' _ _ _ (by simp only [go_sem]; exact rfl) ?_; clear hK' K')
 refine pN fun K' hK' => ?_
 refine cM k20 (c_n b bs sz _ _ (by assumption) hl ⟨by decide, by decide⟩) rfl (by first | exact Heap.upd_self .. | (simp (disch := omega) only [Heap.upd_self, Heap.upd_ne]; done) | assumption) fun r k' hR => ?_
 obtain ⟨x0, rfl, hx0, hk0⟩ := hR
 refine hK' _ _ _ (by simp only [go_sem]; exact rfl) ?_
 clear hK' K'
 refine oEnd ?_
 refine hr _ _ ?_
 clear hr Kr
 with_reducible refine thenN ?_
 refine WP.block ?_
 refine WP.seq ?_
 refine WP.reg rfl fun Kr hr => ?_
 iterate 2 (refine pN fun K' hK' => ?_; simp (disch := omega) only [go_sem]; refine hK' _ _ _ (by simp only [go_sem]; exact rfl) ?_; clear hK' K')
 refine oEnd ?_
 refine hr _ _ ?_
 clear hr Kr
 with_reducible refine thenN ?_
 refine WP.condB rfl (fun hr1 => ?_) (fun hr1 => ?_)
 · have hc1 := hr1
   (try simp only [go_sem] at hc1) <;> (try (exfalso; first | contradiction | omega))
   all_goals
    refine WP.seq ?_
    refine WP.reg rfl fun Kr hr => ?_
    iterate 1 (refine pN fun K' hK' => ?_; simp (disch := omega) only [go_sem]; refine hK' _ _ _ (by simp only [go_sem]; exact rfl) ?_; clear hK' K')
    refine pN fun K' hK' => ?_
    refine cM k21 (c_edge b bs sz _ (by assumption) hl) rfl (by first | exact Heap.upd_self .. | (simp (disch := omega) only [Heap.upd_self, Heap.upd_ne]; done) | assumption) fun r k' hR => ?_
    obtain ⟨⟨v1, rfl, hv1⟩, hk1⟩ := hR
    refine hK' _ _ _ (by simp only [go_sem]; exact rfl) ?_
    clear hK' K'
    iterate 1 (refine pN fun K' hK' => ?_; simp (disch := omega) only [go_sem]; refine hK' _ _ _ (by simp only [go_sem]; exact rfl) ?_; clear hK' K')
    refine oEnd ?_
    refine hr _ _ ?_
    clear hr Kr
    with_reducible refine thenN ?_
    refine WP.ret ?_
    with_reducible refine blkR ?_
    with_reducible refine thenR ?_
    refine retM.tmp _ (by first | exact Heap.upd_self .. | (simp (disch := omega) only [Heap.upd_self, Heap.upd_ne]; done) | assumption) ?_
    try simp (disch := omega) only [go_sem]
    all_goals
     first | exact ⟨⟨_, rfl, by assumption⟩, by assumption⟩ | exact ⟨⟨_, rfl, nums_ok _ (gt_mem (by omega))⟩, by assumption⟩ | exact ⟨⟨_, rfl, i64_wrap _⟩, by assumption⟩ | exact ⟨⟨_, rfl, by unfold I64; omega⟩, by assumption⟩
 · have hc1 := hr1
   (try simp only [go_sem] at hc1) <;> (try (exfalso; first | contradiction | omega))
   all_goals
    refine WP.seq ?_
    refine WP.reg rfl fun Kr hr => ?_
    iterate 2 (refine pN fun K' hK' => ?_; simp (disch := omega) only [go_sem]; refine hK' _ _ _ (by simp only [go_sem]; exact rfl) ?_; clear hK' K')
    refine oEnd ?_
    refine hr _ _ ?_
    clear hr Kr
    with_reducible refine thenN ?_
    refine WP.condB rfl (fun hr2 => ?_) (fun hr2 => ?_)
    · have hc2 := hr2
      (try simp only [go_sem] at hc2) <;> (try (exfalso; first | contradiction | omega))
      all_goals
       refine WP.seq ?_
       refine WP.reg rfl fun Kr hr => ?_
       iterate 1 (refine pN fun K' hK' => ?_; simp (disch := omega) only [go_sem]; refine hK' _ _ _ (by simp only [go_sem]; exact rfl) ?_; clear hK' K')
       refine pN fun K' hK' => ?_
       refine cM k20 (c_n b bs sz _ _ (by assumption) hl ⟨by decide, by decide⟩) rfl (by first | exact Heap.upd_self .. | (simp (disch := omega) only [Heap.upd_self, Heap.upd_ne]; done) | assumption) fun r k' hR => ?_
       obtain ⟨x2, rfl, hx2, hk2⟩ := hR
       refine hK' _ _ _ (by simp only [go_sem]; exact rfl) ?_
       clear hK' K'
       iterate 2 (refine pN fun K' hK' => ?_; simp (disch := omega) only [go_sem]; refine hK' _ _ _ (by simp only [go_sem]; exact rfl) ?_; clear hK' K')
       refine oEnd ?_
       refine hr _ _ ?_
       clear hr Kr
       with_reducible refine thenN ?_
       refine WP.ret ?_
       with_reducible refine blkR ?_
       with_reducible refine thenR ?_
       refine retM.tmp _ (by first | exact Heap.upd_self .. | (simp (disch := omega) only [Heap.upd_self, Heap.upd_ne]; done) | assumption) ?_
       try simp (disch := omega) only [go_sem]
       all_goals
        first | exact ⟨⟨_, rfl, by assumption⟩, by assumption⟩ | exact ⟨⟨_, rfl, nums_ok _ (gt_mem (by omega))⟩, by assumption⟩ | exact ⟨⟨_, rfl, i64_wrap _⟩, by assumption⟩ | exact ⟨⟨_, rfl, by unfold I64; omega⟩, by assumption⟩
    · have hc2 := hr2
      (try simp only [go_sem] at hc2) <;> (try (exfalso; first | contradiction | omega))
      all_goals
       refine WP.seq ?_
       refine WP.reg rfl fun Kr hr => ?_
       iterate 2 (refine pN fun K' hK' => ?_; simp (disch := omega) only [go_sem]; refine hK' _ _ _ (by simp only [go_sem]; exact rfl) ?_; clear hK' K')
       refine oEnd ?_
       refine hr _ _ ?_
       clear hr Kr
       with_reducible refine thenN ?_
       refine WP.condB rfl (fun hr3 => ?_) (fun hr3 => ?_)
       · have hc3 := hr3
         (try simp only [go_sem] at hc3) <;> (try (exfalso; first | contradiction | omega))
         all_goals
          refine WP.seq ?_
          refine WP.reg rfl fun Kr hr => ?_
          refine pN fun K' hK' => ?_
          refine oBSs (nums.map fun v => .v (.int .i64 v)) ti43 rfl ti2 rfl (by decide) rfl (by simp [AV.cells, AV.cell, one_int, one_string, one_bool]) fun b16 hb16 hn16 => hK' _ _ _ (by simp only [go_sem]; exact rfl) ?_
          clear hK' K'
          have hq16 := hb16
          repeat (replace hb16 := upd_none hb16; obtain ⟨_, hb16⟩ := hb16)
          iterate 1 (refine pN fun K' hK' => ?_; simp (disch := omega) only [go_sem]; refine hK' _ _ _ (by simp only [go_sem]; exact rfl) ?_; clear hK' K')
          refine pN fun K' hK' => ?_
          refine cM k20 (c_n b bs sz _ _ (by assumption) hl ⟨by decide, by decide⟩) rfl (by first | exact Heap.upd_self .. | (simp (disch := omega) only [Heap.upd_self, Heap.upd_ne]; done) | assumption) fun r k' hR => ?_
          obtain ⟨x3, rfl, hx3, hk3⟩ := hR
          refine hK' _ _ _ (by simp only [go_sem]; exact rfl) ?_
          clear hK' K'
          iterate 3 (refine pN fun K' hK' => ?_; simp (disch := omega) only [go_sem]; refine hK' _ _ _ (by simp only [go_sem]; exact rfl) ?_; clear hK' K')
          refine oEnd ?_
          refine hr _ _ ?_
          clear hr Kr
          with_reducible refine thenN ?_
          refine WP.ret ?_
          with_reducible refine blkR ?_
          with_reducible refine thenR ?_
          refine retM.tmp _ (by first | exact Heap.upd_self .. | (simp (disch := omega) only [Heap.upd_self, Heap.upd_ne]; done) | assumption) ?_
          try simp (disch := omega) only [go_sem]
          all_goals
           first | exact ⟨⟨_, rfl, by assumption⟩, by assumption⟩ | exact ⟨⟨_, rfl, nums_ok _ (gt_mem (by omega))⟩, by assumption⟩ | exact ⟨⟨_, rfl, i64_wrap _⟩, by assumption⟩ | exact ⟨⟨_, rfl, by unfold I64; omega⟩, by assumption⟩
       · have hc3 := hr3
         (try simp only [go_sem] at hc3) <;> (try (exfalso; first | contradiction | omega))
         all_goals
          refine WP.skip ?_
          with_reducible refine blkZ ?_
          with_reducible refine thenN ?_
          refine WP.seq ?_
          refine WP.reg rfl fun Kr hr => ?_
          iterate 1 (refine pN fun K' hK' => ?_; simp (disch := omega) only [go_sem]; refine hK' _ _ _ (by simp only [go_sem]; exact rfl) ?_; clear hK' K')
          refine pN fun K' hK' => ?_
          refine cM k20 (c_n b bs sz _ _ (by assumption) hl ⟨by decide, by decide⟩) rfl (by first | exact Heap.upd_self .. | (simp (disch := omega) only [Heap.upd_self, Heap.upd_ne]; done) | assumption) fun r k' hR => ?_
          obtain ⟨x4, rfl, hx4, hk4⟩ := hR
          refine hK' _ _ _ (by simp only [go_sem]; exact rfl) ?_
          clear hK' K'
          iterate 2 (refine pN fun K' hK' => ?_; simp (disch := omega) only [go_sem]; refine hK' _ _ _ (by simp only [go_sem]; exact rfl) ?_; clear hK' K')
          refine oEnd ?_
          refine hr _ _ ?_
          clear hr Kr
          with_reducible refine thenN ?_
          refine WP.ret ?_
          refine retM.tmp _ (by first | exact Heap.upd_self .. | (simp (disch := omega) only [Heap.upd_self, Heap.upd_ne]; done) | assumption) ?_
          try simp (disch := omega) only [go_sem]
          all_goals
           first | exact ⟨⟨_, rfl, by assumption⟩, by assumption⟩ | exact ⟨⟨_, rfl, nums_ok _ (gt_mem (by omega))⟩, by assumption⟩ | exact ⟨⟨_, rfl, i64_wrap _⟩, by assumption⟩ | exact ⟨⟨_, rfl, by unfold I64; omega⟩, by assumption⟩

theorem tdivN {a b : Int} (h : 0 ≤ a) : a.tdiv b = a / b := Int.tdiv_eq_ediv_of_nonneg h
attribute [local go_sem] tdivN

theorem c_l01Source (bs : List UInt8) (hl : bs.length ≤ 1048576) : CallsA Tryd.prog 13 [.ro (bs.map u8row)] noHeap (fun r H' => ∃ b k, H' = only b k ∧ r = .pt b 4 0 0 ∧ ∃ sz, (0 ≤ sz ∧ sz ≤ 12) ∧ IsSrc 41 bs sz k) := by
 refine CallsA.of (rl := [.tmp 2]) (n := 47) Tryd.func13 rfl rfl rfl rfl fun c N hN => ?_
 simp only [List.length_cons, List.length_nil, List.replicate, List.cons_append, List.nil_append]
 refine WP.seq ?_
 refine WP.reg rfl fun Kr hr => ?_
 iterate 1 (refine pN fun K' hK' => ?_; simp (disch := omega) only [go_sem]; refine hK' _ _ _ (by simp only [go_sem]; exact rfl) ?_; clear hK' K')
 refine oEnd ?_
 refine hr _ _ ?_
 clear hr Kr
 with_reducible refine thenN ?_
 refine WP.seq ?_
 refine WP.reg rfl fun Kr hr => ?_
 iterate 1 (refine pN fun K' hK' => ?_; simp (disch := omega) only [go_sem]; refine hK' _ _ _ (by simp only [go_sem]; exact rfl) ?_; clear hK' K')
 refine pN fun K' hK' => ?_
 with_unfolding_all refine oBuild (T := 41) ti41 rfl rfl rfl (hK' _ _ _ (by simp only [go_sem]; exact rfl) ?_)
 clear hK' K'
 refine pN fun K' hK' => ?_
 simp (disch := omega) only [go_sem]
 intro b7 hb7 hn7
 refine hK' _ _ _ (by simp only [go_sem]; exact rfl) ?_
 clear hK' K'
 have hq7 := hb7
 repeat (replace hb7 := upd_none hb7; obtain ⟨_, hb7⟩ := hb7)
 iterate 1 (refine pN fun K' hK' => ?_; simp (disch := omega) only [go_sem]; refine hK' _ _ _ (by simp only [go_sem]; exact rfl) ?_; clear hK' K')
 refine oEnd ?_
 refine hr _ _ ?_
 clear hr Kr
 with_reducible refine thenN ?_
 refine WP.seq ?_
 refine WP.seq ?_
 refine WP.reg rfl fun Kr hr => ?_
 iterate 1 (refine pN fun K' hK' => ?_; simp (disch := omega) only [go_sem]; refine hK' _ _ _ (by simp only [go_sem]; exact rfl) ?_; clear hK' K')
 refine oEnd ?_
 refine hr _ _ ?_
 clear hr Kr
 with_reducible refine thenN ?_
 refine WP.block ?_
 -- live 0(code) 3(s) 4(i)
 refine WP.loopL [true, false, false, true, true, false, false, false, false, false, false, false, false, false, false, false, false, false, false, false, false, false, false, false, false, false, false, false, false, false, false, false, false, false, false, false, false, false, false, false, false, false, false, false, false, false, false] (fun m rs H => ∃ (i mix : Int), rs = [.ro (bs.map u8row), .any, .any, .pt b7 4 0 0, I i, .any, .any, .any, .any, .any, .any, .any, .any, .any, .any, .any, .any, .any, .any, .any, .any, .any, .any, .any, .any, .any, .any, .any, .any, .any, .any, .any, .any, .any, .any, .any, .any, .any, .any, .any, .any, .any, .any, .any, .any, .any, .any] ∧ H = noHeap.upd b7 (some (src 41 bs 0 mix 0)) ∧ 0 ≤ i ∧ i ≤ bs.length ∧ m = (bs.length - i).toNat) (n := _) (H0 := _) (Sub.refl _) ⟨0, 88172645463325252, rfl, rfl, by omega, by omega, rfl⟩ ?_
 rintro m rs H ⟨i, mix, rfl, rfl, i0, i1, rfl⟩
 refine WP.seq ?_
 refine WP.seq ?_
 refine WP.reg rfl fun Kr hr => ?_
 iterate 2 (refine pN fun K' hK' => ?_; simp (disch := omega) only [go_sem]; refine hK' _ _ _ (by simp only [go_sem]; exact rfl) ?_; clear hK' K')
 refine pN fun K' hK' => ?_
 refine bLenS ti28 rfl rfl (fun q hq => by cases hq) (hK' _ _ _ (by simp only [go_sem]; exact rfl) ?_)
 clear hK' K'
 iterate 2 (refine pN fun K' hK' => ?_; simp (disch := omega) only [go_sem]; refine hK' _ _ _ (by simp only [go_sem]; exact rfl) ?_; clear hK' K')
 refine pG rfl (fun hr1 => ?_) (by simp only [go_sem]; exact rfl) (fun hr1 => ?_)
 · replace hr1 := eqOf hr1
   have hc1 := hr1
   (try simp only [go_sem] at hc1) <;> (try (exfalso; first | contradiction | omega))
   all_goals
    iterate 1 (refine pN fun K' hK' => ?_; simp (disch := omega) only [go_sem]; refine hK' _ _ _ (by simp only [go_sem]; exact rfl) ?_; clear hK' K')
    refine oGt (by exact rfl) hr1 ?_
    iterate 1 (refine pN fun K' hK' => ?_; simp (disch := omega) only [go_sem]; refine hK' _ _ _ (by simp only [go_sem]; exact rfl) ?_; clear hK' K')
    refine pN fun K' hK' => ?_
    refine oPickT (by exact rfl) hr1 ?_
    refine hK' _ _ _ (by simp only [go_sem]; exact rfl) ?_
    clear hK' K'
    refine oEnd ?_
    refine hr _ _ ?_
    clear hr Kr
    with_reducible refine thenN ?_
    refine WP.condB rfl (fun hr2 => ?_) (fun hr2 => ?_)
    · have hc2 := hr2
      (try simp only [go_sem] at hc2) <;> (try (exfalso; first | contradiction | omega))
      all_goals
       refine WP.skip ?_
       with_reducible refine thenN ?_
       refine WP.seq ?_
       refine WP.block ?_
       refine WP.regD mixed [14] rfl (by kernel_rfl) fun Kr hr => ?_
       iterate 14 (refine pS rfl fun K' hK' => ?_; simp (disch := omega) only [go_sem]; refine hK' _ _ _ (by simp only [go_sem]; exact rfl) ?_; clear hK' K')
       iterate 1 (refine pE rfl fun K' hK' => ?_; simp (disch := omega) only [go_sem]; refine hK' _ _ _ (by simp only [go_sem]; exact rfl) ?_; clear hK' K')
       refine oEnd ?_
       refine hr _ _ ?_
       clear hr Kr
       with_reducible refine blkZ ?_
       with_reducible refine thenN ?_
       refine WP.reg rfl fun Kr hr => ?_
       iterate 3 (refine pN fun K' hK' => ?_; simp (disch := omega) only [go_sem]; refine hK' _ _ _ (by simp only [go_sem]; exact rfl) ?_; clear hK' K')
       refine oEnd ?_
       refine hr _ _ ?_
       clear hr Kr
       with_reducible refine thenN ?_
       exact ⟨_, _, _, (bs.length - (i + 1)).toNat, rfl, Sub.refl _, by omega, i + 1, _, rfl, rfl, by omega, by omega, rfl⟩
    · have hc2 := hr2
      (try simp only [go_sem] at hc2) <;> (try (exfalso; first | contradiction | omega))
      all_goals
       refine WP.exit ?_
       with_reducible refine thenX ?_
       with_reducible refine thenX ?_
       with_reducible refine blkX ?_
       with_reducible refine thenN ?_
       refine WP.seq ?_
       refine WP.reg rfl fun Kr hr => ?_
       iterate 2 (refine pN fun K' hK' => ?_; simp (disch := omega) only [go_sem]; refine hK' _ _ _ (by simp only [go_sem]; exact rfl) ?_; clear hK' K')
       refine pN fun K' hK' => ?_
       refine bLenS ti28 rfl rfl (fun q hq => by cases hq) (hK' _ _ _ (by simp only [go_sem]; exact rfl) ?_)
       clear hK' K'
       iterate 4 (refine pN fun K' hK' => ?_; simp (disch := omega) only [go_sem]; refine hK' _ _ _ (by simp only [go_sem]; exact rfl) ?_; clear hK' K')
       refine oEnd ?_
       refine hr _ _ ?_
       clear hr Kr
       with_reducible refine thenN ?_
       refine WP.seq ?_
       refine WP.seq ?_
       refine WP.reg rfl fun Kr hr => ?_
       iterate 5 (refine pN fun K' hK' => ?_; simp (disch := omega) only [go_sem]; refine hK' _ _ _ (by simp only [go_sem]; exact rfl) ?_; clear hK' K')
       refine oEnd ?_
       refine hr _ _ ?_
       clear hr Kr
       with_reducible refine thenN ?_
       refine WP.condB rfl (fun hr3 => ?_) (fun hr3 => ?_)
       · have hc3 := hr3
         (try simp only [go_sem] at hc3) <;> (try (exfalso; first | contradiction | omega))
         all_goals
          refine WP.reg rfl fun Kr hr => ?_
          iterate 4 (refine pN fun K' hK' => ?_; simp (disch := omega) only [go_sem]; refine hK' _ _ _ (by simp only [go_sem]; exact rfl) ?_; clear hK' K')
          refine oEnd ?_
          refine hr _ _ ?_
          clear hr Kr
          with_reducible refine thenN ?_
          refine WP.seq ?_
          refine WP.reg rfl fun Kr hr => ?_
          iterate 2 (refine pN fun K' hK' => ?_; simp (disch := omega) only [go_sem]; refine hK' _ _ _ (by simp only [go_sem]; exact rfl) ?_; clear hK' K')
          refine oEnd ?_
          refine hr _ _ ?_
          clear hr Kr
          with_reducible refine thenN ?_
          refine WP.ret ?_
          refine retNew b7 _ (Heap.upd_self ..) ?_
          all_goals
           exact ⟨rfl, _, ⟨by omega, by omega⟩, _, _, by omega, rfl⟩
       · have hc3 := hr3
         (try simp only [go_sem] at hc3) <;> (try (exfalso; first | contradiction | omega))
         all_goals
          refine WP.skip ?_
          with_reducible refine thenN ?_
          refine WP.seq ?_
          refine WP.reg rfl fun Kr hr => ?_
          iterate 2 (refine pN fun K' hK' => ?_; simp (disch := omega) only [go_sem]; refine hK' _ _ _ (by simp only [go_sem]; exact rfl) ?_; clear hK' K')
          refine oEnd ?_
          refine hr _ _ ?_
          clear hr Kr
          with_reducible refine thenN ?_
          refine WP.ret ?_
          refine retNew b7 _ (Heap.upd_self ..) ?_
          all_goals
           exact ⟨rfl, _, ⟨by omega, by omega⟩, _, _, by omega, rfl⟩
 · replace hr1 := neOfT hr1
   have hc1 := hr1
   (try simp only [go_sem] at hc1) <;> (try (exfalso; first | contradiction | omega))
   all_goals
    refine pGf (by exact rfl) hr1 (by simp only [go_sem]; exact rfl) ?_
    refine pN fun K' hK' => ?_
    refine oPickF (by exact rfl) hr1 ?_
    refine hK' _ _ _ (by simp only [go_sem]; exact rfl) ?_
    clear hK' K'
    refine oEnd ?_
    refine hr _ _ ?_
    clear hr Kr
    with_reducible refine thenN ?_
    refine WP.condF (by exact rfl) rfl ?_
    refine WP.exit ?_
    with_reducible refine thenX ?_
    with_reducible refine thenX ?_
    with_reducible refine blkX ?_
    with_reducible refine thenN ?_
    refine WP.seq ?_
    refine WP.reg rfl fun Kr hr => ?_
    iterate 2 (refine pN fun K' hK' => ?_; simp (disch := omega) only [go_sem]; refine hK' _ _ _ (by simp only [go_sem]; exact rfl) ?_; clear hK' K')
    refine pN fun K' hK' => ?_
    refine bLenS ti28 rfl rfl (fun q hq => by cases hq) (hK' _ _ _ (by simp only [go_sem]; exact rfl) ?_)
    clear hK' K'
    iterate 4 (refine pN fun K' hK' => ?_; simp (disch := omega) only [go_sem]; refine hK' _ _ _ (by simp only [go_sem]; exact rfl) ?_; clear hK' K')
    refine oEnd ?_
    refine hr _ _ ?_
    clear hr Kr
    with_reducible refine thenN ?_
    refine WP.seq ?_
    refine WP.seq ?_
    refine WP.reg rfl fun Kr hr => ?_
    iterate 5 (refine pN fun K' hK' => ?_; simp (disch := omega) only [go_sem]; refine hK' _ _ _ (by simp only [go_sem]; exact rfl) ?_; clear hK' K')
    refine oEnd ?_
    refine hr _ _ ?_
    clear hr Kr
    with_reducible refine thenN ?_
    refine WP.condB rfl (fun hr4 => ?_) (fun hr4 => ?_)
    · have hc4 := hr4
      (try simp only [go_sem] at hc4) <;> (try (exfalso; first | contradiction | omega))
      all_goals
       refine WP.reg rfl fun Kr hr => ?_
       iterate 4 (refine pN fun K' hK' => ?_; simp (disch := omega) only [go_sem]; refine hK' _ _ _ (by simp only [go_sem]; exact rfl) ?_; clear hK' K')
       refine oEnd ?_
       refine hr _ _ ?_
       clear hr Kr
       with_reducible refine thenN ?_
       refine WP.seq ?_
       refine WP.reg rfl fun Kr hr => ?_
       iterate 2 (refine pN fun K' hK' => ?_; simp (disch := omega) only [go_sem]; refine hK' _ _ _ (by simp only [go_sem]; exact rfl) ?_; clear hK' K')
       refine oEnd ?_
       refine hr _ _ ?_
       clear hr Kr
       with_reducible refine thenN ?_
       refine WP.ret ?_
       refine retNew b7 _ (Heap.upd_self ..) ?_
       all_goals
        exact ⟨rfl, _, ⟨by omega, by omega⟩, _, _, by omega, rfl⟩
    · have hc4 := hr4
      (try simp only [go_sem] at hc4) <;> (try (exfalso; first | contradiction | omega))
      all_goals
       refine WP.skip ?_
       with_reducible refine thenN ?_
       refine WP.seq ?_
       refine WP.reg rfl fun Kr hr => ?_
       iterate 2 (refine pN fun K' hK' => ?_; simp (disch := omega) only [go_sem]; refine hK' _ _ _ (by simp only [go_sem]; exact rfl) ?_; clear hK' K')
       refine oEnd ?_
       refine hr _ _ ?_
       clear hr Kr
       with_reducible refine thenN ?_
       refine WP.ret ?_
       refine retNew b7 _ (Heap.upd_self ..) ?_
       all_goals
        exact ⟨rfl, _, ⟨by omega, by omega⟩, _, _, by omega, rfl⟩

theorem c_l10AnyVal (b : Nat) (bs : List UInt8) (sz : Int) (k : Blk) (hk : IsSrc 41 bs sz k) (hl : bs.length ≤ 1048576) : CallsM Tryd.prog 16 [.pt b 4 0 0] b k (fun r k' => (∃ v n, r = .agg [I v, I n] ∧ I64 n) ∧ IsSrc 41 bs sz k') := by
 refine CallsA.of (rl := [.cell 2 25]) (n := 25) Tryd.func16 rfl rfl rfl rfl fun c N hN => ?_
 simp only [List.length_cons, List.length_nil, List.replicate, List.cons_append, List.nil_append]
 unfold only
 refine WP.seq ?_
 refine WP.reg rfl fun Kr hr => ?_
 refine pN fun K' hK' => ?_
 simp (disch := omega) only [go_sem]
 intro b2 hb2 hn2
 refine hK' _ _ _ (by simp only [go_sem]; exact rfl) ?_
 clear hK' K'
 have hq2 := hb2
 repeat (replace hb2 := upd_none hb2; obtain ⟨_, hb2⟩ := hb2)
 refine oEnd ?_
 refine hr _ _ ?_
 clear hr Kr
 with_reducible refine thenN ?_
 refine WP.seq ?_
 refine WP.seq ?_
 refine WP.reg rfl fun Kr hr => ?_
 iterate 1 (refine pN fun K' hK' => ?_; simp (disch := omega) only [go_sem]; refine hK' _ _ _ (by simp only [go_sem]; exact rfl) ?_; clear hK' K')
 refine pN fun K' hK' => ?_
 refine cM k20 (c_n b bs sz _ _ (by assumption) hl ⟨by omega, by omega⟩) rfl (by first | exact Heap.upd_self .. | (simp (disch := omega) only [Heap.upd_self, Heap.upd_ne]; done) | assumption) fun r k' hR => ?_
 obtain ⟨x0, rfl, hx0, hk0⟩ := hR
 refine hK' _ _ _ (by simp only [go_sem]; exact rfl) ?_
 clear hK' K'
 refine oEnd ?_
 refine hr _ _ ?_
 clear hr Kr
 with_reducible refine thenN ?_
 refine WP.block ?_
 refine WP.seq ?_
 refine WP.reg rfl fun Kr hr => ?_
 iterate 2 (refine pN fun K' hK' => ?_; simp (disch := omega) only [go_sem]; refine hK' _ _ _ (by simp only [go_sem]; exact rfl) ?_; clear hK' K')
 refine oEnd ?_
 refine hr _ _ ?_
 clear hr Kr
 with_reducible refine thenN ?_
 refine WP.condB rfl (fun hr1 => ?_) (fun hr1 => ?_)
 · have hc1 := hr1
   (try simp only [go_sem] at hc1) <;> (try (exfalso; first | contradiction | omega))
   all_goals
    refine WP.seq ?_
    refine WP.reg rfl fun Kr hr => ?_
    iterate 1 (refine pN fun K' hK' => ?_; simp (disch := omega) only [go_sem]; refine hK' _ _ _ (by simp only [go_sem]; exact rfl) ?_; clear hK' K')
    refine pN fun K' hK' => ?_
    refine cM k20 (c_n b bs sz _ _ (by assumption) hl ⟨by omega, by omega⟩) rfl (by first | exact Heap.upd_self .. | (simp (disch := omega) only [Heap.upd_self, Heap.upd_ne]; done) | assumption) fun r k' hR => ?_
    obtain ⟨x1, rfl, hx1, hk1⟩ := hR
    refine hK' _ _ _ (by simp only [go_sem]; exact rfl) ?_
    clear hK' K'
    iterate 1 (refine pN fun K' hK' => ?_; simp (disch := omega) only [go_sem]; refine hK' _ _ _ (by simp only [go_sem]; exact rfl) ?_; clear hK' K')
    refine pN fun K' hK' => ?_
    with_unfolding_all refine oBuild (T := 25) ti25 rfl rfl rfl (hK' _ _ _ (by simp only [go_sem]; exact rfl) ?_)
    clear hK' K'
    iterate 1 (refine pN fun K' hK' => ?_; simp (disch := omega) only [go_sem]; refine hK' _ _ _ (by simp only [go_sem]; exact rfl) ?_; clear hK' K')
    refine oEnd ?_
    refine hr _ _ ?_
    clear hr Kr
    with_reducible refine thenN ?_
    refine WP.ret ?_
    with_reducible refine blkR ?_
    with_reducible refine thenR ?_
    refine retM.cell _ (by first | exact Heap.upd_self .. | exact (Heap.upd_ne _ _ (by first | assumption | exact Ne.symm (by assumption) | omega)).trans (Heap.upd_self ..) | (simp (disch := omega) only [Heap.upd_self, Heap.upd_ne]; done) | assumption) ti25 (fun h => by cases h) ?_
    try simp (disch := omega) only [go_sem]
    all_goals
     exact ⟨⟨_, _, rfl, by unfold I64; omega⟩, by assumption⟩
 · have hc1 := hr1
   (try simp only [go_sem] at hc1) <;> (try (exfalso; first | contradiction | omega))
   all_goals
    refine WP.seq ?_
    refine WP.reg rfl fun Kr hr => ?_
    iterate 2 (refine pN fun K' hK' => ?_; simp (disch := omega) only [go_sem]; refine hK' _ _ _ (by simp only [go_sem]; exact rfl) ?_; clear hK' K')
    refine oEnd ?_
    refine hr _ _ ?_
    clear hr Kr
    with_reducible refine thenN ?_
    refine WP.condB rfl (fun hr2 => ?_) (fun hr2 => ?_)
    · have hc2 := hr2
      (try simp only [go_sem] at hc2) <;> (try (exfalso; first | contradiction | omega))
      all_goals
       refine WP.seq ?_
       refine WP.reg rfl fun Kr hr => ?_
       iterate 1 (refine pN fun K' hK' => ?_; simp (disch := omega) only [go_sem]; refine hK' _ _ _ (by simp only [go_sem]; exact rfl) ?_; clear hK' K')
       refine pN fun K' hK' => ?_
       refine cM k20 (c_n b bs sz _ _ (by assumption) hl ⟨by omega, by omega⟩) rfl (by first | exact Heap.upd_self .. | (simp (disch := omega) only [Heap.upd_self, Heap.upd_ne]; done) | assumption) fun r k' hR => ?_
       obtain ⟨x2, rfl, hx2, hk2⟩ := hR
       refine hK' _ _ _ (by simp only [go_sem]; exact rfl) ?_
       clear hK' K'
       iterate 2 (refine pN fun K' hK' => ?_; simp (disch := omega) only [go_sem]; refine hK' _ _ _ (by simp only [go_sem]; exact rfl) ?_; clear hK' K')
       refine pN fun K' hK' => ?_
       refine cM k20 (c_n b bs sz _ _ (by assumption) hl ⟨by omega, by omega⟩) rfl (by first | exact Heap.upd_self .. | (simp (disch := omega) only [Heap.upd_self, Heap.upd_ne]; done) | assumption) fun r k' hR => ?_
       obtain ⟨x3, rfl, hx3, hk3⟩ := hR
       refine hK' _ _ _ (by simp only [go_sem]; exact rfl) ?_
       clear hK' K'
       iterate 2 (refine pN fun K' hK' => ?_; simp (disch := omega) only [go_sem]; refine hK' _ _ _ (by simp only [go_sem]; exact rfl) ?_; clear hK' K')
       refine pN fun K' hK' => ?_
       refine cM k20 (c_n b bs sz _ _ (by assumption) hl ⟨by omega, by omega⟩) rfl (by first | exact Heap.upd_self .. | (simp (disch := omega) only [Heap.upd_self, Heap.upd_ne]; done) | assumption) fun r k' hR => ?_
       obtain ⟨x4, rfl, hx4, hk4⟩ := hR
       refine hK' _ _ _ (by simp only [go_sem]; exact rfl) ?_
       clear hK' K'
       refine pN fun K' hK' => ?_
       with_unfolding_all refine oBuild (T := 25) ti25 rfl rfl rfl (hK' _ _ _ (by simp only [go_sem]; exact rfl) ?_)
       clear hK' K'
       iterate 1 (refine pN fun K' hK' => ?_; simp (disch := omega) only [go_sem]; refine hK' _ _ _ (by simp only [go_sem]; exact rfl) ?_; clear hK' K')
       refine oEnd ?_
       refine hr _ _ ?_
       clear hr Kr
       with_reducible refine thenN ?_
       refine WP.ret ?_
       with_reducible refine blkR ?_
       with_reducible refine thenR ?_
       refine retM.cell _ (by first | exact Heap.upd_self .. | exact (Heap.upd_ne _ _ (by first | assumption | exact Ne.symm (by assumption) | omega)).trans (Heap.upd_self ..) | (simp (disch := omega) only [Heap.upd_self, Heap.upd_ne]; done) | assumption) ti25 (fun h => by cases h) ?_
       try simp (disch := omega) only [go_sem]
       all_goals
        exact ⟨⟨_, _, rfl, by unfold I64; omega⟩, by assumption⟩
    · have hc2 := hr2
      (try simp only [go_sem] at hc2) <;> (try (exfalso; first | contradiction | omega))
      all_goals
       refine WP.skip ?_
       with_reducible refine blkZ ?_
       with_reducible refine thenN ?_
       refine WP.seq ?_
       refine WP.reg rfl fun Kr hr => ?_
       iterate 1 (refine pN fun K' hK' => ?_; simp (disch := omega) only [go_sem]; refine hK' _ _ _ (by simp only [go_sem]; exact rfl) ?_; clear hK' K')
       refine pN fun K' hK' => ?_
       refine cM k20 (c_n b bs sz _ _ (by assumption) hl ⟨by omega, by omega⟩) rfl (by first | exact Heap.upd_self .. | (simp (disch := omega) only [Heap.upd_self, Heap.upd_ne]; done) | assumption) fun r k' hR => ?_
       obtain ⟨x5, rfl, hx5, hk5⟩ := hR
       refine hK' _ _ _ (by simp only [go_sem]; exact rfl) ?_
       clear hK' K'
       refine pN fun K' hK' => ?_
       with_unfolding_all refine oBuild (T := 25) ti25 rfl rfl rfl (hK' _ _ _ (by simp only [go_sem]; exact rfl) ?_)
       clear hK' K'
       iterate 1 (refine pN fun K' hK' => ?_; simp (disch := omega) only [go_sem]; refine hK' _ _ _ (by simp only [go_sem]; exact rfl) ?_; clear hK' K')
       refine oEnd ?_
       refine hr _ _ ?_
       clear hr Kr
       with_reducible refine thenN ?_
       refine WP.ret ?_
       refine retM.cell _ (by first | exact Heap.upd_self .. | exact (Heap.upd_ne _ _ (by first | assumption | exact Ne.symm (by assumption) | omega)).trans (Heap.upd_self ..) | (simp (disch := omega) only [Heap.upd_self, Heap.upd_ne]; done) | assumption) ti25 (fun h => by cases h) ?_
       try simp (disch := omega) only [go_sem]
       all_goals
        exact ⟨⟨_, _, rfl, by unfold I64; omega⟩, by assumption⟩

theorem c_DrawValText (bs : List UInt8) (hl : bs.length ≤ 1048576) : CallsA Tryd.prog 8 [.ro (bs.map u8row)] noHeap (fun r _ => ∃ v n, r = .agg [I v, I n] ∧ I64 n) := by
 refine CallsA.of (rl := [.cell 2 25]) (n := 13) Tryd.func8 rfl rfl rfl rfl fun c N hN => ?_
 simp only [List.length_cons, List.length_nil, List.replicate, List.cons_append, List.nil_append]
 refine WP.seq ?_
 refine WP.reg rfl fun Kr hr => ?_
 refine pN fun K' hK' => ?_
 simp (disch := omega) only [go_sem]
 intro b2 hb2 hn2
 refine hK' _ _ _ (by simp only [go_sem]; exact rfl) ?_
 clear hK' K'
 have hq2 := hb2
 repeat (replace hb2 := upd_none hb2; obtain ⟨_, hb2⟩ := hb2)
 refine oEnd ?_
 refine hr _ _ ?_
 clear hr Kr
 with_reducible refine thenN ?_
 refine WP.seq ?_
 refine WP.reg rfl fun Kr hr => ?_
 iterate 1 (refine pN fun K' hK' => ?_; simp (disch := omega) only [go_sem]; refine hK' _ _ _ (by simp only [go_sem]; exact rfl) ?_; clear hK' K')
 refine pN fun K' hK' => ?_
 refine cNew k13 (c_l01Source bs hl) rfl fun r b1000 k' hR hb1000 hn1000 => ?_
 obtain ⟨rfl, sz, hsz, hkS⟩ := hR
 refine hK' _ _ _ (by simp only [go_sem]; exact rfl) ?_
 clear hK' K'
 iterate 1 (refine pN fun K' hK' => ?_; simp (disch := omega) only [go_sem]; refine hK' _ _ _ (by simp only [go_sem]; exact rfl) ?_; clear hK' K')
 refine oEnd ?_
 refine hr _ _ ?_
 clear hr Kr
 with_reducible refine thenN ?_
 obtain ⟨hne1, hb1000⟩ := upd_none hb1000
 refine WP.seq ?_
 refine WP.seq ?_
 refine WP.reg rfl fun Kr hr => ?_
 iterate 1 (refine pN fun K' hK' => ?_; simp (disch := omega) only [go_sem]; refine hK' _ _ _ (by simp only [go_sem]; exact rfl) ?_; clear hK' K')
 refine pN fun K' hK' => ?_
 refine cM k14 (c_one _ bs sz 3 _ (by assumption) hl ⟨by decide, by decide⟩) rfl (by first | exact Heap.upd_self .. | (simp (disch := omega) only [Heap.upd_self, Heap.upd_ne]; done) | assumption) fun r k' hR => ?_
 obtain ⟨⟨v1, rfl⟩, hk1⟩ := hR
 refine hK' _ _ _ (by simp only [go_sem]; exact rfl) ?_
 clear hK' K'
 refine oEnd ?_
 refine hr _ _ ?_
 clear hr Kr
 with_reducible refine thenN ?_
 refine WP.condB rfl (fun hr1 => ?_) (fun hr1 => ?_)
 · have hc1 := hr1
   (try simp only [go_sem] at hc1) <;> (try (exfalso; first | contradiction | omega))
   all_goals
    refine WP.seq ?_
    refine WP.reg rfl fun Kr hr => ?_
    iterate 1 (refine pN fun K' hK' => ?_; simp (disch := omega) only [go_sem]; refine hK' _ _ _ (by simp only [go_sem]; exact rfl) ?_; clear hK' K')
    refine pN fun K' hK' => ?_
    refine cM k15 (c_l02Num _ bs sz _ (by assumption) hl) rfl (by first | exact Heap.upd_self .. | (simp (disch := omega) only [Heap.upd_self, Heap.upd_ne]; done) | assumption) fun r k' hR => ?_
    obtain ⟨⟨v2, rfl, hv2⟩, hk2⟩ := hR
    refine hK' _ _ _ (by simp only [go_sem]; exact rfl) ?_
    clear hK' K'
    refine pN fun K' hK' => ?_
    with_unfolding_all refine oBuild (T := 25) ti25 rfl rfl rfl (hK' _ _ _ (by simp only [go_sem]; exact rfl) ?_)
    clear hK' K'
    iterate 1 (refine pN fun K' hK' => ?_; simp (disch := omega) only [go_sem]; refine hK' _ _ _ (by simp only [go_sem]; exact rfl) ?_; clear hK' K')
    refine oEnd ?_
    refine hr _ _ ?_
    clear hr Kr
    with_reducible refine thenN ?_
    refine WP.ret ?_
    with_reducible refine thenR ?_
    refine retQ.cell ti25 (fun h => by cases h) ?_
    try simp (disch := omega) only [go_sem]
    all_goals
     exact ⟨_, _, rfl, by assumption⟩
 · have hc1 := hr1
   (try simp only [go_sem] at hc1) <;> (try (exfalso; first | contradiction | omega))
   all_goals
    refine WP.skip ?_
    with_reducible refine thenN ?_
    refine WP.seq ?_
    refine WP.reg rfl fun Kr hr => ?_
    iterate 1 (refine pN fun K' hK' => ?_; simp (disch := omega) only [go_sem]; refine hK' _ _ _ (by simp only [go_sem]; exact rfl) ?_; clear hK' K')
    refine pN fun K' hK' => ?_
    refine cM k16 (c_l10AnyVal _ bs sz _ (by assumption) hl) rfl (by first | exact Heap.upd_self .. | (simp (disch := omega) only [Heap.upd_self, Heap.upd_ne]; done) | assumption) fun r k' hR => ?_
    obtain ⟨⟨v3, n3, rfl, hv3⟩, hk3⟩ := hR
    refine hK' _ _ _ (by simp only [go_sem]; exact rfl) ?_
    clear hK' K'
    iterate 1 (refine pN fun K' hK' => ?_; simp (disch := omega) only [go_sem]; refine hK' _ _ _ (by simp only [go_sem]; exact rfl) ?_; clear hK' K')
    refine oEnd ?_
    refine hr _ _ ?_
    clear hr Kr
    with_reducible refine thenN ?_
    refine WP.ret ?_
    refine retQ.cell ti25 (fun h => by cases h) ?_
    try simp (disch := omega) only [go_sem]
    all_goals
     exact ⟨_, _, rfl, by assumption⟩


theorem digs_ne (u : Nat) : ∀ c ∈ Lib.decDigits u, c ≠ 45 := by
  induction u using Nat.strongRecOn with
  | _ u ih =>
    intro c hc
    rw [Lib.decDigits] at hc
    have hd : ∀ k : Nat, k < 10 → UInt8.ofNat (48 + k) ≠ 45 := by
      intro k hk e
      have := congrArg UInt8.toNat e
      simp [UInt8.toNat_ofNat'] at this
      omega
    split at hc
    · rw [List.mem_singleton] at hc
      exact hc ▸ hd _ (by omega)
    · rw [List.mem_append, List.mem_singleton] at hc
      rcases hc with hc | hc
      · exact ih _ (by omega) _ hc
      · exact hc ▸ hd _ (by omega)
def dvl (l : List UInt8) : Nat := l.foldl (fun a c => a * 10 + (c.toNat - 48)) 0
theorem dvl_dec (u : Nat) : dvl (Lib.decDigits u) = u := by
  induction u using Nat.strongRecOn with
  | _ u ih =>
    rw [Lib.decDigits]
    split
    · simp [dvl, UInt8.toNat_ofNat']
      omega
    · have := ih (u / 10) (by omega)
      unfold dvl at this ⊢
      rw [List.foldl_append, this]
      simp [UInt8.toNat_ofNat']
      omega
theorem dec_inj {u v : Nat} (h : Lib.decDigits u = Lib.decDigits v) : u = v := by rw [← dvl_dec u, h, dvl_dec]
theorem itoa_inj {n m : Int} (h : Lib.itoa n = Lib.itoa m) : n = m := by
  unfold Lib.itoa at h
  split at h <;> split at h
  · have := dec_inj (List.cons.inj h).2
    omega
  · exact absurd rfl (digs_ne _ 45 (h ▸ List.mem_cons_self))
  · exact absurd rfl (digs_ne _ 45 (h ▸ List.mem_cons_self))
  · have := dec_inj h
    omega
theorem dgs_list (n : Int) : (dgs n).data.toList = Lib.itoa n := rfl
theorem cat_list (a b : ByteArray) : (a ++ b).data.toList = a.data.toList ++ b.data.toList := by simp
theorem ba_inj {a b : ByteArray} (h : a = b) : a.data.toList = b.data.toList := by rw [h]
def valL (k n : Int) : List UInt8 := if k = 0 then [45] else if k = 2 then 35 :: Lib.itoa n else if n < 6 then 114 :: Lib.itoa n else 109 :: Lib.itoa (n - 6)
theorem valS_list {k n : Int} (hr : rightV k n = true) (hn : I64 n) : (valS k n).data.toList = valL k n := by
  unfold valS valL rightV at *
  split
  · rfl
  · split
    · rw [cat_list, dgs_list]; rfl
    · split
      · rw [cat_list, dgs_list]; rfl
      · rw [if_neg ‹_›] at hr
        rw [cat_list, dgs_list, i64_id (by unfold I64 at *; split at hr <;> simp at hr <;> omega)]; rfl
theorem valL_inj {k n k' n' : Int} (hr : rightV k n = true) (hr' : rightV k' n' = true) (h : valL k n = valL k' n') : k = k' ∧ n = n' := by
  unfold valL rightV at *
  split at h <;> split at h <;> (try split at h) <;> (try split at h) <;> (try split at h) <;> (try split at h) <;> simp_all <;> (try have := itoa_inj h) <;> (try omega)
theorem said {k n k' n' : Int} (hn : I64 n) (hn' : I64 n') (h : ¬ valT k n = ⟨#[]⟩) : decide (valT k n = valT k' n') = decide ([k, n] = [k', n']) := by
  rw [decide_eq_decide]
  constructor
  · intro e
    have h' : ¬ valT k' n' = ⟨#[]⟩ := fun e' => h (e.trans e')
    have r1 : rightV k n = true := by
      cases hr : rightV k n with
      | true => rfl
      | false => exact absurd (by simp [valT, hr]) h
    have r2 : rightV k' n' = true := by
      cases hr : rightV k' n' with
      | true => rfl
      | false => exact absurd (by simp [valT, hr]) h'
    rw [valT, if_pos r1, valT, if_pos r2] at e
    obtain ⟨rfl, rfl⟩ := valL_inj r1 r2 (by rw [← valS_list r1 hn, ← valS_list r2 hn', e])
    rfl
  · intro e
    cases e
    rfl

theorem aggEq25 : AggEq Tryd.prog 25 2 := by
  refine ⟨by kernel_rfl, fun W a b ha hb => ?_⟩
  match a, ha, b, hb with
  | [a0, a1], _, [b0, b1], _ =>
    show (Op.equalIn 10000 25 (.agg #[.int .i64 a0, .int .i64 a1]) (.agg #[.int .i64 b0, .int .i64 b1])).run Tryd.prog W = _
    have u2 := Tryd.underlying2
    have s2 : ∀ w, (isAgg 2).run Tryd.prog w = .ok false w := Tryd.isAgg2
    have z2 := Tryd.sizeOf2
    rw [show (10000 : Nat) = 9999 + 1 from rfl, run_equalIn_agg W 9999 25 _ _ (by kernel_rfl) (by kernel_rfl)]
    simp only [Program.fieldsOf, Tryd.underlying25]
    go_simp
    by_cases h1 : a0 = b0 <;> by_cases h2 : a1 = b1 <;> simp [h1, h2]
attribute [local go_sem] aggEq25 boolK aggK numsOf

theorem c_FnVals (code more : List UInt8) : CallsA Tryd.prog 4 [.ro (code.map u8row), .ro (more.map u8row)] noHeap (fun r _ => r = Bo true) := by
 refine CallsA.of (rl := [.tmp 4]) (n := 48) Tryd.func4 rfl rfl rfl rfl fun c N hN => ?_
 simp only [List.length_cons, List.length_nil, List.replicate, List.cons_append, List.nil_append]
 refine WP.seq ?_
 refine WP.reg rfl fun Kr hr => ?_
 iterate 1 (refine pN fun K' hK' => ?_; simp (disch := omega) only [go_sem]; refine hK' _ _ _ (by simp only [go_sem]; exact rfl) ?_; clear hK' K')
 refine oEnd ?_
 refine hr _ _ ?_
 clear hr Kr
 with_reducible refine thenN ?_
 refine WP.seq ?_
 refine WP.seq ?_
 refine WP.reg rfl fun Kr hr => ?_
 iterate 1 (refine pN fun K' hK' => ?_; simp (disch := omega) only [go_sem]; refine hK' _ _ _ (by simp only [go_sem]; exact rfl) ?_; clear hK' K')
 refine pN fun K' hK' => ?_
 refine bLenS ti28 rfl rfl (fun q hq => by cases hq) (hK' _ _ _ (by simp only [go_sem]; exact rfl) ?_)
 clear hK' K'
 iterate 2 (refine pN fun K' hK' => ?_; simp (disch := omega) only [go_sem]; refine hK' _ _ _ (by simp only [go_sem]; exact rfl) ?_; clear hK' K')
 refine pG rfl (fun hr1 => ?_) (by simp only [go_sem]; exact rfl) (fun hr1 => ?_)
 · replace hr1 := eqOf hr1
   have hc1 := hr1
   (try simp only [go_sem] at hc1) <;> (try (exfalso; first | contradiction | omega))
   all_goals
    iterate 1 (refine pN fun K' hK' => ?_; simp (disch := omega) only [go_sem]; refine hK' _ _ _ (by simp only [go_sem]; exact rfl) ?_; clear hK' K')
    refine oGt (by exact rfl) hr1 ?_
    refine pN fun K' hK' => ?_
    refine bLenS ti28 rfl rfl (fun q hq => by cases hq) (hK' _ _ _ (by simp only [go_sem]; exact rfl) ?_)
    clear hK' K'
    refine oGt (by exact rfl) hr1 ?_
    iterate 1 (refine pN fun K' hK' => ?_; simp (disch := omega) only [go_sem]; refine hK' _ _ _ (by simp only [go_sem]; exact rfl) ?_; clear hK' K')
    refine pN fun K' hK' => ?_
    refine oPickF (by exact rfl) hr1 ?_
    refine hK' _ _ _ (by simp only [go_sem]; exact rfl) ?_
    clear hK' K'
    refine oEnd ?_
    refine hr _ _ ?_
    clear hr Kr
    with_reducible refine thenN ?_
    refine WP.condB rfl (fun hr2 => ?_) (fun hr2 => ?_)
    · have hc2 := hr2
      (try simp only [go_sem] at hc2) <;> (try (exfalso; first | contradiction | omega))
      all_goals
       refine WP.seq ?_
       refine WP.reg rfl fun Kr hr => ?_
       iterate 1 (refine pN fun K' hK' => ?_; simp (disch := omega) only [go_sem]; refine hK' _ _ _ (by simp only [go_sem]; exact rfl) ?_; clear hK' K')
       refine oEnd ?_
       refine hr _ _ ?_
       clear hr Kr
       with_reducible refine thenN ?_
       refine WP.ret ?_
       with_reducible refine thenR ?_
       refine retQ.tmp ?_
       try simp (disch := omega) only [go_sem]
       all_goals
        first | rfl | (rw [said (by assumption) (by assumption) (by assumption)]; simp; done)
    · have hc2 := hr2
      (try simp only [go_sem] at hc2) <;> (try (exfalso; first | contradiction | omega))
      all_goals
       refine WP.skip ?_
       with_reducible refine thenN ?_
       refine WP.seq ?_
       refine WP.reg rfl fun Kr hr => ?_
       iterate 1 (refine pN fun K' hK' => ?_; simp (disch := omega) only [go_sem]; refine hK' _ _ _ (by simp only [go_sem]; exact rfl) ?_; clear hK' K')
       refine pN fun K' hK' => ?_
       refine cR k8 (c_DrawValText _ (by omega)) rfl rfl ?_ fun r hR => ?_
       · exact ⟨_, 0, 0, rfl, by unfold I64; omega⟩
       obtain ⟨v0, n0, rfl, hv0⟩ := hR
       refine hK' _ _ _ (by simp only [go_sem]; exact rfl) ?_
       clear hK' K'
       refine pN fun K' hK' => ?_
       simp (disch := omega) only [go_sem]
       intro b5 hb5 hn5
       refine hK' _ _ _ (by simp only [go_sem]; exact rfl) ?_
       clear hK' K'
       have hq5 := hb5
       repeat (replace hb5 := upd_none hb5; obtain ⟨_, hb5⟩ := hb5)
       iterate 1 (refine pN fun K' hK' => ?_; simp (disch := omega) only [go_sem]; refine hK' _ _ _ (by simp only [go_sem]; exact rfl) ?_; clear hK' K')
       refine oEnd ?_
       refine hr _ _ ?_
       clear hr Kr
       with_reducible refine thenN ?_
       refine WP.roP' hq5 hn5 (by exact rfl) ?_
       simp (disch := omega) only [List.map_cons, List.map_nil, frP_pt, frP_any, frP_v, frP_nil, frP_ro, frP_rp, frP_agg, frP_tup, frP_fn, frP_sl, List.drop_zero, if_true, if_false, and_self, true_and, neqF, false_and, Nat.le_refl, List.take_zero, Nat.zero_add, List.length_cons, List.length_nil, n11, n21, List.take_succ_cons, List.take_nil, nleT, List.drop_succ_cons]
       refine WP.seq ?_
       refine WP.reg rfl fun Kr hr => ?_
       iterate 1 (refine pN fun K' hK' => ?_; simp (disch := omega) only [go_sem]; refine hK' _ _ _ (by simp only [go_sem]; exact rfl) ?_; clear hK' K')
       refine pN fun K' hK' => ?_
       refine cR k8 (c_DrawValText _ (by omega)) rfl rfl ?_ fun r hR => ?_
       · exact ⟨_, 0, 0, rfl, by unfold I64; omega⟩
       obtain ⟨v1, n1, rfl, hv1⟩ := hR
       refine hK' _ _ _ (by simp only [go_sem]; exact rfl) ?_
       clear hK' K'
       refine pN fun K' hK' => ?_
       simp (disch := omega) only [go_sem]
       intro b6 hb6 hn6
       refine hK' _ _ _ (by simp only [go_sem]; exact rfl) ?_
       clear hK' K'
       have hq6 := hb6
       repeat (replace hb6 := upd_none hb6; obtain ⟨_, hb6⟩ := hb6)
       iterate 1 (refine pN fun K' hK' => ?_; simp (disch := omega) only [go_sem]; refine hK' _ _ _ (by simp only [go_sem]; exact rfl) ?_; clear hK' K')
       refine oEnd ?_
       refine hr _ _ ?_
       clear hr Kr
       with_reducible refine thenN ?_
       refine WP.roP' hq6 hn6 (by exact rfl) ?_
       simp (disch := omega) only [List.map_cons, List.map_nil, frP_pt, frP_any, frP_v, frP_nil, frP_ro, frP_rp, frP_agg, frP_tup, frP_fn, frP_sl, List.drop_zero, if_true, if_false, and_self, true_and, neqF, false_and, Nat.le_refl, List.take_zero, Nat.zero_add, List.length_cons, List.length_nil, n11, n21, List.take_succ_cons, List.take_nil, nleT, List.drop_succ_cons]
       refine WP.seq ?_
       refine WP.reg rfl fun Kr hr => ?_
       iterate 1 (refine pN fun K' hK' => ?_; simp (disch := omega) only [go_sem]; refine hK' _ _ _ (by simp only [go_sem]; exact rfl) ?_; clear hK' K')
       refine pN fun K' hK' => ?_
       refine cN k7 (c7 _ _ (by assumption)) rfl rfl (hK' _ _ _ (by simp only [go_sem]; exact rfl) ?_)
       clear hK' K'
       iterate 1 (refine pN fun K' hK' => ?_; simp (disch := omega) only [go_sem]; refine hK' _ _ _ (by simp only [go_sem]; exact rfl) ?_; clear hK' K')
       refine oEnd ?_
       refine hr _ _ ?_
       clear hr Kr
       with_reducible refine thenN ?_
       refine WP.seq ?_
       refine WP.reg rfl fun Kr hr => ?_
       iterate 1 (refine pN fun K' hK' => ?_; simp (disch := omega) only [go_sem]; refine hK' _ _ _ (by simp only [go_sem]; exact rfl) ?_; clear hK' K')
       refine pN fun K' hK' => ?_
       refine cN k7 (c7 _ _ (by assumption)) rfl rfl (hK' _ _ _ (by simp only [go_sem]; exact rfl) ?_)
       clear hK' K'
       iterate 1 (refine pN fun K' hK' => ?_; simp (disch := omega) only [go_sem]; refine hK' _ _ _ (by simp only [go_sem]; exact rfl) ?_; clear hK' K')
       refine oEnd ?_
       refine hr _ _ ?_
       clear hr Kr
       with_reducible refine thenN ?_
       refine WP.seq ?_
       refine WP.reg rfl fun Kr hr => ?_
       iterate 2 (refine pN fun K' hK' => ?_; simp (disch := omega) only [go_sem]; refine hK' _ _ _ (by simp only [go_sem]; exact rfl) ?_; clear hK' K')
       refine pN fun K' hK' => ?_
       refine cN k5 (c5 _ _ (by assumption)) rfl rfl (hK' _ _ _ (by simp only [go_sem]; exact rfl) ?_)
       clear hK' K'
       iterate 2 (refine pN fun K' hK' => ?_; simp (disch := omega) only [go_sem]; refine hK' _ _ _ (by simp only [go_sem]; exact rfl) ?_; clear hK' K')
       refine pG rfl (fun hr3 => ?_) (by simp only [go_sem]; exact rfl) (fun hr3 => ?_)
       · replace hr3 := eqOf hr3
         have hc3 := hr3
         (try simp only [go_sem] at hc3) <;> (try (exfalso; first | contradiction | omega))
         all_goals
          iterate 1 (refine pN fun K' hK' => ?_; simp (disch := omega) only [go_sem]; refine hK' _ _ _ (by simp only [go_sem]; exact rfl) ?_; clear hK' K')
          refine oGt (by exact rfl) hr3 ?_
          iterate 1 (refine pN fun K' hK' => ?_; simp (disch := omega) only [go_sem]; refine hK' _ _ _ (by simp only [go_sem]; exact rfl) ?_; clear hK' K')
          refine oGt (by exact rfl) hr3 ?_
          refine pN fun K' hK' => ?_
          refine cN k5 (c5 _ _ (by assumption)) rfl rfl (hK' _ _ _ (by simp only [go_sem]; exact rfl) ?_)
          clear hK' K'
          refine oGt (by exact rfl) hr3 ?_
          iterate 1 (refine pN fun K' hK' => ?_; simp (disch := omega) only [go_sem]; refine hK' _ _ _ (by simp only [go_sem]; exact rfl) ?_; clear hK' K')
          refine pN fun K' hK' => ?_
          refine oPickT (by exact rfl) hr3 ?_
          refine hK' _ _ _ (by simp only [go_sem]; exact rfl) ?_
          clear hK' K'
          iterate 1 (refine pN fun K' hK' => ?_; simp (disch := omega) only [go_sem]; refine hK' _ _ _ (by simp only [go_sem]; exact rfl) ?_; clear hK' K')
          refine pG rfl (fun hr4 => ?_) (by simp only [go_sem]; exact rfl) (fun hr4 => ?_)
          · replace hr4 := eqOf hr4
            have hc4 := hr4
            (try simp only [go_sem] at hc4) <;> (try (exfalso; first | contradiction | omega))
            all_goals
             iterate 1 (refine pN fun K' hK' => ?_; simp (disch := omega) only [go_sem]; refine hK' _ _ _ (by simp only [go_sem]; exact rfl) ?_; clear hK' K')
             refine oGt (by exact rfl) hr4 ?_
             iterate 1 (refine pN fun K' hK' => ?_; simp (disch := omega) only [go_sem]; refine hK' _ _ _ (by simp only [go_sem]; exact rfl) ?_; clear hK' K')
             refine oGt (by exact rfl) hr4 ?_
             iterate 1 (refine pN fun K' hK' => ?_; simp (disch := omega) only [go_sem]; refine hK' _ _ _ (by simp only [go_sem]; exact rfl) ?_; clear hK' K')
             refine pG rfl (fun hr5 => ?_) (by simp only [go_sem]; exact rfl) (fun hr5 => ?_)
             · replace hr5 := eqOf hr5
               have hc5 := hr5
               (try simp only [go_sem] at hc5) <;> (try (exfalso; first | contradiction | omega))
               all_goals
                iterate 1 (refine pN fun K' hK' => ?_; simp (disch := omega) only [go_sem]; refine hK' _ _ _ (by simp only [go_sem]; exact rfl) ?_; clear hK' K')
                refine oGt (by exact rfl) hr5 ?_
                iterate 1 (refine pN fun K' hK' => ?_; simp (disch := omega) only [go_sem]; refine hK' _ _ _ (by simp only [go_sem]; exact rfl) ?_; clear hK' K')
                refine oGt (by exact rfl) hr5 ?_
                iterate 1 (refine pN fun K' hK' => ?_; simp (disch := omega) only [go_sem]; refine hK' _ _ _ (by simp only [go_sem]; exact rfl) ?_; clear hK' K')
                refine oGt (by exact rfl) hr5 ?_
                iterate 1 (refine pN fun K' hK' => ?_; simp (disch := omega) only [go_sem]; refine hK' _ _ _ (by simp only [go_sem]; exact rfl) ?_; clear hK' K')
                refine oGt (by exact rfl) hr5 ?_
                iterate 1 (refine pN fun K' hK' => ?_; simp (disch := omega) only [go_sem]; refine hK' _ _ _ (by simp only [go_sem]; exact rfl) ?_; clear hK' K')
                refine oGt (by exact rfl) hr5 ?_
                iterate 1 (refine pN fun K' hK' => ?_; simp (disch := omega) only [go_sem]; refine hK' _ _ _ (by simp only [go_sem]; exact rfl) ?_; clear hK' K')
                refine oGt (by exact rfl) hr5 ?_
                iterate 1 (refine pN fun K' hK' => ?_; simp (disch := omega) only [go_sem]; refine hK' _ _ _ (by simp only [go_sem]; exact rfl) ?_; clear hK' K')
                refine oGt (by exact rfl) hr4 ?_
                refine pN fun K' hK' => ?_
                refine oPickF (by exact rfl) hr5 ?_
                refine hK' _ _ _ (by simp only [go_sem]; exact rfl) ?_
                clear hK' K'
                refine pN fun K' hK' => ?_
                refine oPickT (by exact rfl) hr4 ?_
                refine hK' _ _ _ (by simp only [go_sem]; exact rfl) ?_
                clear hK' K'
                iterate 1 (refine pN fun K' hK' => ?_; simp (disch := omega) only [go_sem]; refine hK' _ _ _ (by simp only [go_sem]; exact rfl) ?_; clear hK' K')
                refine oEnd ?_
                refine hr _ _ ?_
                clear hr Kr
                with_reducible refine thenN ?_
                refine WP.ret ?_
                refine retQ.tmp ?_
                try simp (disch := omega) only [go_sem]
                all_goals
                 first | rfl | (rw [said (by assumption) (by assumption) (by assumption)]; simp; done)
             · replace hr5 := neOfF hr5
               have hc5 := hr5
               (try simp only [go_sem] at hc5) <;> (try (exfalso; first | contradiction | omega))
               all_goals
                refine pGf (by exact rfl) hr5 (by simp only [go_sem]; exact rfl) ?_
                refine pGf (by exact rfl) hr5 (by simp only [go_sem]; exact rfl) ?_
                refine pGf (by exact rfl) hr5 (by simp only [go_sem]; exact rfl) ?_
                refine pGf (by exact rfl) hr5 (by simp only [go_sem]; exact rfl) ?_
                refine pGf (by exact rfl) hr5 (by simp only [go_sem]; exact rfl) ?_
                refine pGf (by exact rfl) hr5 (by simp only [go_sem]; exact rfl) ?_
                refine oGt (by exact rfl) hr4 ?_
                refine pN fun K' hK' => ?_
                refine oPickT (by exact rfl) hr5 ?_
                refine hK' _ _ _ (by simp only [go_sem]; exact rfl) ?_
                clear hK' K'
                refine pN fun K' hK' => ?_
                refine oPickT (by exact rfl) hr4 ?_
                refine hK' _ _ _ (by simp only [go_sem]; exact rfl) ?_
                clear hK' K'
                iterate 1 (refine pN fun K' hK' => ?_; simp (disch := omega) only [go_sem]; refine hK' _ _ _ (by simp only [go_sem]; exact rfl) ?_; clear hK' K')
                refine oEnd ?_
                refine hr _ _ ?_
                clear hr Kr
                with_reducible refine thenN ?_
                refine WP.ret ?_
                refine retQ.tmp ?_
                try simp (disch := omega) only [go_sem]
                all_goals
                 first | rfl | (rw [said (by assumption) (by assumption) (by assumption)]; simp; done)
          · replace hr4 := neOfT hr4
            have hc4 := hr4
            (try simp only [go_sem] at hc4) <;> (try (exfalso; first | contradiction | omega))
            all_goals
             refine pGf (by exact rfl) hr4 (by simp only [go_sem]; exact rfl) ?_
             refine pGf (by exact rfl) hr4 (by simp only [go_sem]; exact rfl) ?_
             refine pG rfl (fun hr6 => ?_) (by simp only [go_sem]; exact rfl) (fun hr6 => ?_)
             · replace hr6 := eqOf hr6
               have hc6 := hr6
               (try simp only [go_sem] at hc6) <;> (try (exfalso; first | contradiction | omega))
               all_goals
                iterate 1 (refine pN fun K' hK' => ?_; simp (disch := omega) only [go_sem]; refine hK' _ _ _ (by simp only [go_sem]; exact rfl) ?_; clear hK' K')
                refine oGt (by exact rfl) hr6 ?_
                iterate 1 (refine pN fun K' hK' => ?_; simp (disch := omega) only [go_sem]; refine hK' _ _ _ (by simp only [go_sem]; exact rfl) ?_; clear hK' K')
                refine oGt (by exact rfl) hr6 ?_
                iterate 1 (refine pN fun K' hK' => ?_; simp (disch := omega) only [go_sem]; refine hK' _ _ _ (by simp only [go_sem]; exact rfl) ?_; clear hK' K')
                refine oGt (by exact rfl) hr6 ?_
                iterate 1 (refine pN fun K' hK' => ?_; simp (disch := omega) only [go_sem]; refine hK' _ _ _ (by simp only [go_sem]; exact rfl) ?_; clear hK' K')
                refine oGt (by exact rfl) hr6 ?_
                iterate 1 (refine pN fun K' hK' => ?_; simp (disch := omega) only [go_sem]; refine hK' _ _ _ (by simp only [go_sem]; exact rfl) ?_; clear hK' K')
                refine oGt (by exact rfl) hr6 ?_
                iterate 1 (refine pN fun K' hK' => ?_; simp (disch := omega) only [go_sem]; refine hK' _ _ _ (by simp only [go_sem]; exact rfl) ?_; clear hK' K')
                refine oGt (by exact rfl) hr6 ?_
                iterate 1 (refine pN fun K' hK' => ?_; simp (disch := omega) only [go_sem]; refine hK' _ _ _ (by simp only [go_sem]; exact rfl) ?_; clear hK' K')
                refine pGf (by exact rfl) hr4 (by simp only [go_sem]; exact rfl) ?_
                refine pN fun K' hK' => ?_
                refine oPickF (by exact rfl) hr4 ?_
                refine hK' _ _ _ (by simp only [go_sem]; exact rfl) ?_
                clear hK' K'
                iterate 1 (refine pN fun K' hK' => ?_; simp (disch := omega) only [go_sem]; refine hK' _ _ _ (by simp only [go_sem]; exact rfl) ?_; clear hK' K')
                refine oEnd ?_
                refine hr _ _ ?_
                clear hr Kr
                with_reducible refine thenN ?_
                refine WP.ret ?_
                refine retQ.tmp ?_
                try simp (disch := omega) only [go_sem]
                all_goals
                 first | rfl | (rw [said (by assumption) (by assumption) (by assumption)]; simp; done)
             · replace hr6 := neOfF hr6
               have hc6 := hr6
               (try simp only [go_sem] at hc6) <;> (try (exfalso; first | contradiction | omega))
               all_goals
                refine pGf (by exact rfl) hr6 (by simp only [go_sem]; exact rfl) ?_
                refine pGf (by exact rfl) hr6 (by simp only [go_sem]; exact rfl) ?_
                refine pGf (by exact rfl) hr6 (by simp only [go_sem]; exact rfl) ?_
                refine pGf (by exact rfl) hr6 (by simp only [go_sem]; exact rfl) ?_
                refine pGf (by exact rfl) hr6 (by simp only [go_sem]; exact rfl) ?_
                refine pGf (by exact rfl) hr6 (by simp only [go_sem]; exact rfl) ?_
                refine pGf (by exact rfl) hr4 (by simp only [go_sem]; exact rfl) ?_
                refine pN fun K' hK' => ?_
                refine oPickF (by exact rfl) hr4 ?_
                refine hK' _ _ _ (by simp only [go_sem]; exact rfl) ?_
                clear hK' K'
                iterate 1 (refine pN fun K' hK' => ?_; simp (disch := omega) only [go_sem]; refine hK' _ _ _ (by simp only [go_sem]; exact rfl) ?_; clear hK' K')
                refine oEnd ?_
                refine hr _ _ ?_
                clear hr Kr
                with_reducible refine thenN ?_
                refine WP.ret ?_
                refine retQ.tmp ?_
                try simp (disch := omega) only [go_sem]
                all_goals
                 first | rfl | (rw [said (by assumption) (by assumption) (by assumption)]; simp; done)
       · replace hr3 := neOfT hr3
         have hc3 := hr3
         (try simp only [go_sem] at hc3) <;> (try (exfalso; first | contradiction | omega))
         all_goals
          refine pGf (by exact rfl) hr3 (by simp only [go_sem]; exact rfl) ?_
          refine pGf (by exact rfl) hr3 (by simp only [go_sem]; exact rfl) ?_
          refine pGf (by exact rfl) hr3 (by simp only [go_sem]; exact rfl) ?_
          refine pN fun K' hK' => ?_
          refine oPickF (by exact rfl) hr3 ?_
          refine hK' _ _ _ (by simp only [go_sem]; exact rfl) ?_
          clear hK' K'
          iterate 1 (refine pN fun K' hK' => ?_; simp (disch := omega) only [go_sem]; refine hK' _ _ _ (by simp only [go_sem]; exact rfl) ?_; clear hK' K')
          refine pGf (by exact rfl) rfl (by simp only [go_sem]; exact rfl) ?_
          refine pGf (by exact rfl) rfl (by simp only [go_sem]; exact rfl) ?_
          refine pGf (by exact rfl) rfl (by simp only [go_sem]; exact rfl) ?_
          refine pG rfl (fun hr7 => ?_) (by simp only [go_sem]; exact rfl) (fun hr7 => ?_)
          · replace hr7 := eqOf hr7
            have hc7 := hr7
            (try simp only [go_sem] at hc7) <;> (try (exfalso; first | contradiction | omega))
            all_goals
             iterate 1 (refine pN fun K' hK' => ?_; simp (disch := omega) only [go_sem]; refine hK' _ _ _ (by simp only [go_sem]; exact rfl) ?_; clear hK' K')
             refine oGt (by exact rfl) hr7 ?_
             iterate 1 (refine pN fun K' hK' => ?_; simp (disch := omega) only [go_sem]; refine hK' _ _ _ (by simp only [go_sem]; exact rfl) ?_; clear hK' K')
             refine oGt (by exact rfl) hr7 ?_
             iterate 1 (refine pN fun K' hK' => ?_; simp (disch := omega) only [go_sem]; refine hK' _ _ _ (by simp only [go_sem]; exact rfl) ?_; clear hK' K')
             refine oGt (by exact rfl) hr7 ?_
             iterate 1 (refine pN fun K' hK' => ?_; simp (disch := omega) only [go_sem]; refine hK' _ _ _ (by simp only [go_sem]; exact rfl) ?_; clear hK' K')
             refine oGt (by exact rfl) hr7 ?_
             iterate 1 (refine pN fun K' hK' => ?_; simp (disch := omega) only [go_sem]; refine hK' _ _ _ (by simp only [go_sem]; exact rfl) ?_; clear hK' K')
             refine oGt (by exact rfl) hr7 ?_
             iterate 1 (refine pN fun K' hK' => ?_; simp (disch := omega) only [go_sem]; refine hK' _ _ _ (by simp only [go_sem]; exact rfl) ?_; clear hK' K')
             refine oGt (by exact rfl) hr7 ?_
             iterate 1 (refine pN fun K' hK' => ?_; simp (disch := omega) only [go_sem]; refine hK' _ _ _ (by simp only [go_sem]; exact rfl) ?_; clear hK' K')
             refine pGf (by exact rfl) rfl (by simp only [go_sem]; exact rfl) ?_
             refine pN fun K' hK' => ?_
             refine oPickF (by exact rfl) rfl ?_
             refine hK' _ _ _ (by simp only [go_sem]; exact rfl) ?_
             clear hK' K'
             iterate 1 (refine pN fun K' hK' => ?_; simp (disch := omega) only [go_sem]; refine hK' _ _ _ (by simp only [go_sem]; exact rfl) ?_; clear hK' K')
             refine oEnd ?_
             refine hr _ _ ?_
             clear hr Kr
             with_reducible refine thenN ?_
             refine WP.ret ?_
             refine retQ.tmp ?_
             try simp (disch := omega) only [go_sem]
             all_goals
              first | rfl | (rw [said (by assumption) (by assumption) (by assumption)]; simp; done)
          · replace hr7 := neOfF hr7
            have hc7 := hr7
            (try simp only [go_sem] at hc7) <;> (try (exfalso; first | contradiction | omega))
            all_goals
             refine pGf (by exact rfl) hr7 (by simp only [go_sem]; exact rfl) ?_
             refine pGf (by exact rfl) hr7 (by simp only [go_sem]; exact rfl) ?_
             refine pGf (by exact rfl) hr7 (by simp only [go_sem]; exact rfl) ?_
             refine pGf (by exact rfl) hr7 (by simp only [go_sem]; exact rfl) ?_
             refine pGf (by exact rfl) hr7 (by simp only [go_sem]; exact rfl) ?_
             refine pGf (by exact rfl) hr7 (by simp only [go_sem]; exact rfl) ?_
             refine pGf (by exact rfl) rfl (by simp only [go_sem]; exact rfl) ?_
             refine pN fun K' hK' => ?_
             refine oPickF (by exact rfl) rfl ?_
             refine hK' _ _ _ (by simp only [go_sem]; exact rfl) ?_
             clear hK' K'
             iterate 1 (refine pN fun K' hK' => ?_; simp (disch := omega) only [go_sem]; refine hK' _ _ _ (by simp only [go_sem]; exact rfl) ?_; clear hK' K')
             refine oEnd ?_
             refine hr _ _ ?_
             clear hr Kr
             with_reducible refine thenN ?_
             refine WP.ret ?_
             refine retQ.tmp ?_
             try simp (disch := omega) only [go_sem]
             all_goals
              first | rfl | (rw [said (by assumption) (by assumption) (by assumption)]; simp; done)
 · replace hr1 := neOfF hr1
   have hc1 := hr1
   (try simp only [go_sem] at hc1) <;> (try (exfalso; first | contradiction | omega))
   all_goals
    refine pGf (by exact rfl) hr1 (by simp only [go_sem]; exact rfl) ?_
    refine pGf (by exact rfl) hr1 (by simp only [go_sem]; exact rfl) ?_
    refine pN fun K' hK' => ?_
    refine oPickT (by exact rfl) hr1 ?_
    refine hK' _ _ _ (by simp only [go_sem]; exact rfl) ?_
    clear hK' K'
    refine oEnd ?_
    refine hr _ _ ?_
    clear hr Kr
    with_reducible refine thenN ?_
    refine WP.condT (by exact rfl) rfl ?_
    refine WP.seq ?_
    refine WP.reg rfl fun Kr hr => ?_
    iterate 1 (refine pN fun K' hK' => ?_; simp (disch := omega) only [go_sem]; refine hK' _ _ _ (by simp only [go_sem]; exact rfl) ?_; clear hK' K')
    refine oEnd ?_
    refine hr _ _ ?_
    clear hr Kr
    with_reducible refine thenN ?_
    refine WP.ret ?_
    with_reducible refine thenR ?_
    refine retQ.tmp ?_
    try simp (disch := omega) only [go_sem]
    all_goals
     first | rfl | (rw [said (by assumption) (by assumption) (by assumption)]; simp; done)
end Go.AF.V2
