import Derived.Test.YtmpopmdimofnbaaDoorRows
import Derived.Test.YtmpopmdimofnbaaDoorTie
import Derived.Test.YtmpopmdimofnbaaDoorCards
import Derived.Test.YtmpopmdimofnbaaDoorV
import Derived.ProofKit
import Derived.LaidMore
import Derived.OpenShut
import Derived.Stop.Joined
import Derived.Stop.LaidErr
import Derived.Lib.SmallJoins
import Derived.SevenTiedAt
namespace Go.Proofs.YtmpopmdimofnbaaDoor
open Go.ChangeShapes Go.WideShapes Go.ChangeAt Go.RowKit Go.AF
set_option maxRecDepth 100000

theorem own : ownKnob Tryd.prog.godebug = none := by kernel_rfl
def laid3 : List (String × DataW Unit) := [("math/bits.deBruijn32tab", Rows.laid_math_bits_deBruijn32tab), ("math/bits.deBruijn64tab", Rows.laid_math_bits_deBruijn64tab), ("internal/strconv.uint64pow10", Rows.laid_internal_strconv_uint64pow10)]

theorem laidPlain (w : World) : laidMetH Tryd.prog laid3 w = laidMet Tryd.prog laid3 w := MakeChecks.laidMetH_plain _ _ _ (by kernel_rfl)
theorem doorMet (os : Os) (args : Array Value) : laidMetH Tryd.prog laid3 ((World.doorLaid Tryd.prog 4000 os).forCall (fun _ _ => 0) ⟨#[], args, []⟩).memory := by
  rw [laidPlain]
  exact laidMet_of_run' 8 (by kernel_rfl) (by kernel_rfl)

theorem tab_of {W : World} (h : laidMetH Tryd.prog laid3 W) : Lib.TabIs Tryd.prog W "internal/strconv.uint64pow10" .u64 Lib.pow10Tab := by
  rw [laidPlain] at h
  have h3 : laidMet Tryd.prog [("internal/strconv.uint64pow10", Lib.tabData .u64 Lib.pow10Tab)] W := h.tail.tail
  exact Lib.tabIs_of_head (g := 0) (t := 55) (e := 39) (n := 20) (by kernel_rfl) (by kernel_rfl) (by kernel_rfl) (by kernel_rfl) (by kernel_rfl) (by kernel_rfl) h3

/-- Of a contract: what the call does, from a world in which the table lies. -/
theorem calls_of {f : Nat} {xs : List AV} {us : List Value} {b : Bool} {W : World} (hc : CallsA Tryd.prog f xs noHeap (fun r _ => r = .v (.bool b))) (hv : Vals W (fun g => g = 0) xs us) (ht : Lib.TabIs Tryd.prog W "internal/strconv.uint64pow10" .u64 Lib.pow10Tab) :
    Calls Tryd.prog f us.toArray W fun e W' => e = .returned (.bool b) ∧ Below W.heap.size W W' := by
  have hg : Tryd.prog.globalNamed "internal/strconv.uint64pow10" = some 0 := by kernel_rfl
  have hlt : 0 < W.heap.size := by
    have h := ht
    unfold Lib.TabIs World.var? at h
    rw [hg] at h
    simp only [Option.bind_some] at h
    rcases Nat.eq_zero_or_pos W.heap.size with h0 | h0
    · rw [Array.getElem?_eq_none (by omega)] at h
      cases h
    · exact h0
  refine (hc W (fun g => g = 0) us hv (heap_none fun b hb => by rw [hb]; exact hlt) fun g hg' => ?_).mono ?_
  · rw [hg] at hg'
    cases hg'
    exact ⟨rfl, ht⟩
  · rintro e W' ⟨v, r, H', S', rfl, rfl, hr, hok, hlow, hhigh, hf⟩
    rw [rep_v hr]
    exact ⟨rfl, hf.grow.rest.1, hf.grow.rest.2.1, hf.grow.rest.2.2, hf.size, fun k hk => hf.old k hk (by simp [noHeap])⟩

theorem lifted (os : Os) (started : os.Started) (H : Type) (enc : TypeId × Value → H) :
    ReturnsInHanded {} Tryd.checked os 3 .any (fun w args => (Rows.fnExactValTextSpec.pre enc Tryd.prog Tryd.f3 [] false w args ∧ laidMetH Tryd.prog laid3 w) ∧ sizedMet enc Tryd.prog Tryd.f3 (OpenSpec.ofChange Rows.fnExactValTextSpec) false w args)
      (Rows.fnExactValTextSpec.post enc Tryd.prog Tryd.f3 false true false false) := by
  refine returnsInHanded_of_change_and (C := Tryd.checked) (X := fun w _ => laidMetH Tryd.prog laid3 w) (fun _ _ _ hh h => h.of_heap hh) own started (by kernel_rfl) Tryd.func3
    (ChangeSpec.witness_shaped (enc := enc) (C := Tryd.checked) (os := os) (X := fun w _ => laidMetH Tryd.prog laid3 w) false (World.doorLaid Tryd.prog 4000 os) #[.agg #[.int .i64 0, .int .i64 0]] 8 rfl (World.shaped_of_RefB (by kernel_rfl) (by kernel_rfl)) (by kernel_rfl) (by kernel_rfl) (by kernel_rfl) (doorMet os _)) ?_
  intro W base args ds gs before hval0 hW _ _ hL _
  have hval : ∀ (j : Nat) t v, Tryd.f3.params[j]? = some t → args[j]? = some v → Value.okWide Tryd.prog W .any base t v := hval0
  have hW' := hW
  obtain ⟨p, q, hA0, hV, rfl, hfz, hnd⟩ := hW
  have hA : DataW.TrodAll enc Tryd.prog W 0 (fun _ => true) true Tryd.f3.params.toList args.toList ds p := hA0
  rw [Tryd.params3] at hA hval
  obtain ⟨v0, d0, rfl, rfl, h0⟩ := trodAll_one hA
  obtain ⟨rfl, rfl⟩ := trodVars_none hV
  have ht := tab_of hL
  obtain ⟨x0, x1, y0, y1, n, rfl, rfl, rfl, t0, t1⟩ := Joins.open_agg2 Tryd.underlying23 (by kernel_rfl) (by kernel_rfl) (hval 0 23 v0 rfl rfl) h0
  obtain ⟨a, e0, rfl, w0⟩ := DataW.trod_int Tryd.underlying2 t0
  obtain ⟨b, e1, rfl, w1⟩ := DataW.trod_int Tryd.underlying2 t1
  cases e0
  cases e1
  have hb : I64 b := bounds_i64 w1
  have hvals : Vals W (fun g => g = 0) [.agg [.v (.int .i64 a), .v (.int .i64 b)]] [.agg #[.int .i64 a, .int .i64 b]] := by
    refine ⟨rfl, fun j x u hj hu => ?_⟩
    match j, hj, hu with
    | 0, hj, hu =>
      cases hj
      cases hu
      refine .agg _ [_, _] rfl fun j x u hj hu => ?_
      match j, hj, hu with
      | 0, hj, hu => cases hj; cases hu; exact .v _
      | 1, hj, hu => cases hj; cases hu; exact .v _
  refine (calls_of (c3 a b hb) hvals ht).mono fun e W' ⟨he, hB⟩ => ?_
  subst he
  refine ⟨_, rfl, _, [], _, [], [], [], hW', trodAll_mk1 (shut_bool Tryd.underlying4 true), trodAll_mk1 (Joins.shut_agg2 Tryd.underlying23 (by kernel_rfl) (by kernel_rfl) ⟨_, trod_int_mk 0 Tryd.underlying2 w0⟩ ⟨_, trod_int_mk 0 Tryd.underlying2 w1⟩), rfl, hB.frame _, fun h => by cases h⟩

theorem vt_holds : Rows.FnExactValTextSaid :=
  OpenClaim.holds_of_wide 3 Tryd.f3 rfl rfl rfl rfl rfl rfl rfl ⟨rfl, rfl, rfl, rfl, rfl⟩ rfl rfl rfl rfl rfl (by kernel_rfl) Tryd.func3 (by kernel_rfl)
    (of_decide_eq_true (by kernel_rfl)) (by unfold Func.isWrapper; first | (rw [if_pos (by decide +kernel)]; kernel_rfl) | (rw [if_neg (by decide +kernel)]; exact ⟨rfl, rfl⟩))
    (fun os started H enc _ => lifted os started H enc)

theorem vt_card : Rows.FnExactValTextCardSaid :=
  Claim7.holds_tied_plain_at .later [] [.data, .data, .data] true (true, "eae85811054954061e1344f4debff355784ef5931f1ecd33136e09fa37f6b1e9") false
    vt_holds (fun _ h => by cases h) (by kernel_rfl) (fun _ h => by cases h) fnExactValText_row_tie rfl ⟨rfl, rfl⟩ (by kernel_rfl) rfl
    (fun f fn hf hfn => by
      obtain rfl : f = 3 := Option.some.inj ((show Tryd.prog.funcNamed "loop.example/g00219/laws.FnExactValText" = some 3 by kernel_rfl).symm.trans hf) |>.symm
      obtain rfl : fn = Tryd.f3 := (Option.some.inj (Tryd.func3.symm.trans hfn)).symm
      exact ⟨by kernel_rfl, fun j t ht => by
        rw [Tryd.params3] at ht
        have hm : t ∈ [23] := by simpa using Array.mem_of_getElem? ht
        have hall : ([23].all fun u => !Tryd.prog.wantsStandIn u) = true := by kernel_rfl
        exact (show Tryd.prog.wantsStandIn t = false by simpa using List.all_eq_true.1 hall t hm)⟩)
    (by kernel_rfl)
end Go.Proofs.YtmpopmdimofnbaaDoor
