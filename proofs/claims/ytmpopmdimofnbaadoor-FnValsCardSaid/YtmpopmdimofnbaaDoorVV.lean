import Derived.Test.YtmpopmdimofnbaaDoorRows
import Derived.Test.YtmpopmdimofnbaaDoorTie
import Derived.Test.YtmpopmdimofnbaaDoorCards
import Derived.Test.YtmpopmdimofnbaaDoorV2
import Derived.Carry
import Derived.ProofKit
import Derived.LaidMore
import Derived.OpenShut
import Derived.Stop.Joined
import Derived.Stop.LaidErr
import Derived.Lib.SmallJoins
import Derived.SevenTiedAt
namespace Go.Proofs.YtmpopmdimofnbaaDoor
open Go.ChangeShapes Go.WideShapes Go.ChangeAt Go.RowKit Go.AF
set_option maxRecDepth 100000

theorem own : ownKnob Tryd.prog.godebug = none := by kernel_rfl
def laid3 : List (String × DataW Unit) := [("math/bits.deBruijn32tab", Rows.laid_math_bits_deBruijn32tab), ("math/bits.deBruijn64tab", Rows.laid_math_bits_deBruijn64tab), ("internal/strconv.uint64pow10", Rows.laid_internal_strconv_uint64pow10)]

theorem laidPlain (w : World) : laidMetH Tryd.prog laid3 w = laidMet Tryd.prog laid3 w := MakeChecks.laidMetH_plain _ _ _ (by kernel_rfl)
theorem doorMet (os : Os) (args : Array Value) : laidMetH Tryd.prog laid3 ((World.doorLaid Tryd.prog 4000 os).forCall (fun _ _ => 0) ⟨#[], args, []⟩).memory := by
  rw [laidPlain]
  exact laidMet_of_run' 8 (by kernel_rfl) (by kernel_rfl)

theorem tab_of {W : World} (h : laidMetH Tryd.prog laid3 W) : Lib.TabIs Tryd.prog W "internal/strconv.uint64pow10" .u64 Lib.pow10Tab := by
  rw [laidPlain] at h
  have h3 : laidMet Tryd.prog [("internal/strconv.uint64pow10", Lib.tabData .u64 Lib.pow10Tab)] W := h.tail.tail
  exact Lib.tabIs_of_head (g := 0) (t := 55) (e := 39) (n := 20) (by kernel_rfl) (by kernel_rfl) (by kernel_rfl) (by kernel_rfl) (by kernel_rfl) (by kernel_rfl) h3

theorem laidOut : laidOutB Tryd.prog = true := by kernel_rfl
theorem cells5 : Tryd.prog.cellsOf 5 = 1 := by kernel_rfl

/-- Of a contract: what the call does, from a world in which the table lies. -/
theorem calls_of {f : Nat} {xs : List AV} {us : List Value} {b : Bool} {W : World} (hc : CallsA Tryd.prog f xs noHeap (fun r _ => r = .v (.bool b))) (hv : Vals W (fun g => g < W.heap.size) xs us) (ht : Lib.TabIs Tryd.prog W "internal/strconv.uint64pow10" .u64 Lib.pow10Tab) :
    Calls Tryd.prog f us.toArray W fun e W' => e = .returned (.bool b) ∧ Below W.heap.size W W' := by
  have hg : Tryd.prog.globalNamed "internal/strconv.uint64pow10" = some 0 := by kernel_rfl
  have hlt : 0 < W.heap.size := by
    have h := ht
    unfold Lib.TabIs World.var? at h
    rw [hg] at h
    simp only [Option.bind_some] at h
    rcases Nat.eq_zero_or_pos W.heap.size with h0 | h0
    · rw [Array.getElem?_eq_none (by omega)] at h
      cases h
    · exact h0
  refine (hc W (fun g => g < W.heap.size) us hv (heap_none fun b hb => hb) fun g hg' => ?_).mono ?_
  · rw [hg] at hg'
    cases hg'
    exact ⟨hlt, ht⟩
  · rintro e W' ⟨v, r, H', S', rfl, rfl, hr, hok, hlow, hhigh, hf⟩
    rw [rep_v hr]
    exact ⟨rfl, hf.grow.rest.1, hf.grow.rest.2.1, hf.grow.rest.2.2, hf.size, fun k hk => hf.old k hk (by simp [noHeap])⟩

/-- A slice of bytes that came in counts as a value. -/
theorem open_bytes {H : Type} {enc : TypeId × Value → H} {W : World} {base : Nat} {v : Value} {d : DataW H} {p : List MemPlace} (hval : Value.okWide Tryd.prog W .any base 28 v) (h : DataW.Trod enc Tryd.prog W 0 (fun _ => true) true 28 v d p) :
    ∃ bs : List UInt8, Rep W (fun b => b < W.heap.size) (.ro (bs.map u8row)) v := by
  obtain ⟨a1, len, cap, rfl⟩ := okWide_slice Tryd.underlying28 hval
  obtain ⟨fuel, hf⟩ := h
  rcases open_ints Tryd.underlying28 Tryd.underlying5 cells5 hf with ⟨hcs, hx⟩ | ⟨a, len', cap', zs, hcs, _, hl, hm, hz, hx, hcell, hwz⟩
  · simp [Value.cells] at hcs
    obtain ⟨rfl, rfl, rfl⟩ := hcs
    exact ⟨[], .roNil none 0⟩
  · simp [Value.cells] at hcs
    obtain ⟨rfl, rfl, rfl⟩ := hcs
    simp only [if_true] at hz
    cases len with
    | zero => exact ⟨[], .roNil _ _⟩
    | succ m =>
      obtain ⟨ab, ao, spot⟩ := a
      have hspot : spot = none := by simpa [Addr.add] using World.cell?_spot (hcell 0 (by omega))
      subst hspot
      have hlen : (((zs.take (m + 1)).map fun n => UInt8.ofNat n.toNat).map u8row).length = m + 1 := by simp; omega
      refine ⟨(zs.take (m + 1)).map fun n => UInt8.ofNat n.toNat, ?_⟩
      have := Rep.ro (W := W) (S := fun b => b < W.heap.size) ab ao cap 1 (((zs.take (m + 1)).map fun n => UInt8.ofNat n.toNat).map u8row) (fun i _ => .int .u8 (zs.getD i 0)) (by omega) (World.block_lt_of_cell? W ⟨ab, ao, none⟩ (by have := hcell 0 (by omega); rw [Addr.add_lit] at this; exact this))
        (fun row hr => by
          obtain ⟨x, _, rfl⟩ := List.mem_map.1 hr
          rfl)
        (fun i j hi hj => by
          have := hcell i (by omega)
          rw [Addr.add_lit] at this
          rw [show ao + (i * 1 + j) = ao + i by omega]
          exact this)
        (fun i row hr j x hx => by
          rw [List.getElem?_map, List.getElem?_map] at hr
          have hi : i < (zs.take (m + 1)).length := by
            apply Classical.byContradiction
            intro hn
            rw [List.getElem?_eq_none (by omega)] at hr
            cases hr
          rw [List.getElem?_eq_getElem hi] at hr
          simp only [Option.map_some, Option.some.injEq] at hr
          subst hr
          have hzl : i < zs.length := by simp at hi; omega
          have hb := range_u8 hwz i
          rw [List.getElem?_eq_getElem hzl] at hb
          simp only [Option.getD_some] at hb
          match j, hx with
          | 0, hx =>
            cases hx
            have e : (((UInt8.ofNat (zs.take (m + 1))[i].toNat).toNat : Nat) : Int) = zs.getD i 0 := by
              rw [List.getD_eq_getElem?_getD, List.getElem?_eq_getElem hzl]
              simp only [List.getElem_take, Option.getD_some, UInt8.toNat_ofNat']
              omega
            rw [e]
            exact .v _)
      rw [hlen] at this
      exact this

theorem lifted (os : Os) (started : os.Started) (H : Type) (enc : TypeId × Value → H) :
    ReturnsInHanded {} Tryd.checked os 4 .any (fun w args => (Rows.fnValsSpec.pre enc Tryd.prog Tryd.f4 [] false w args ∧ laidMetH Tryd.prog laid3 w) ∧ sizedMet enc Tryd.prog Tryd.f4 (OpenSpec.ofChange Rows.fnValsSpec) false w args)
      (Rows.fnValsSpec.post enc Tryd.prog Tryd.f4 false true false false) := by
  refine returnsInHanded_of_change_and (C := Tryd.checked) (X := fun w _ => laidMetH Tryd.prog laid3 w) (fun _ _ _ hh h => h.of_heap hh) own started (by kernel_rfl) Tryd.func4
    (ChangeSpec.witness_shaped (enc := enc) (C := Tryd.checked) (os := os) (X := fun w _ => laidMetH Tryd.prog laid3 w) false (World.doorLaid Tryd.prog 4000 os) #[.slice none 0 0, .slice none 0 0] 8 rfl (World.shaped_of_RefB (by kernel_rfl) (by kernel_rfl)) (by kernel_rfl) (by kernel_rfl) (by kernel_rfl) (doorMet os _)) ?_
  intro W base args ds gs before hval0 hW _ _ hL _
  have hval : ∀ (j : Nat) t v, Tryd.f4.params[j]? = some t → args[j]? = some v → Value.okWide Tryd.prog W .any base t v := hval0
  have hW' := hW
  obtain ⟨p, q, hA0, hV, rfl, hfz, hnd⟩ := hW
  have hA : DataW.TrodAll enc Tryd.prog W 0 (fun _ => true) true Tryd.f4.params.toList args.toList ds p := hA0
  rw [Tryd.params4] at hA hval
  obtain ⟨v0, v1, d0, d1, p0, p1, rfl, rfl, rfl, h0, h1⟩ := trodAll_two hA
  obtain ⟨rfl, rfl⟩ := trodVars_none hV
  have ht := tab_of hL
  obtain ⟨b0, r0⟩ := open_bytes (hval 0 28 v0 rfl rfl) h0
  obtain ⟨b1, r1⟩ := open_bytes (hval 1 28 v1 rfl rfl) h1
  have hlt : ∀ x ∈ p0 ++ p1, x.block < W.heap.size := fun x hx => by simpa using hW'.lt x (by simpa using hx)
  have hvals : Vals W (fun g => g < W.heap.size) [.ro (b0.map u8row), .ro (b1.map u8row)] [v0, v1] := by
    refine ⟨rfl, fun j x u hj hu => ?_⟩
    match j, hj, hu with
    | 0, hj, hu => cases hj; cases hu; exact r0
    | 1, hj, hu => cases hj; cases hu; exact r1
  refine (calls_of (V2.c_FnVals b0 b1) hvals ht).mono fun e W' ⟨he, hB⟩ => ?_
  subst he
  exact ⟨_, rfl, _, [], _, [], p0 ++ p1, [], hW', trodAll_mk1 (shut_bool Tryd.underlying4 true), trodAll_mk2 (Below.trod laidOut (by kernel_rfl) (of_decide_eq_true (by kernel_rfl)) h0 hB fun x hx => hlt x (List.mem_append.2 (.inl hx))) (Below.trod laidOut (by kernel_rfl) (of_decide_eq_true (by kernel_rfl)) h1 hB fun x hx => hlt x (List.mem_append.2 (.inr hx))), rfl, hB.frame _, fun h => by cases h⟩

theorem vals_holds : Rows.FnValsSaid :=
  OpenClaim.holds_of_wide 4 Tryd.f4 rfl rfl rfl rfl rfl rfl rfl ⟨rfl, rfl, rfl, rfl, rfl⟩ rfl rfl rfl rfl rfl (by kernel_rfl) Tryd.func4 (by kernel_rfl)
    (of_decide_eq_true (by kernel_rfl)) (by unfold Func.isWrapper; first | (rw [if_pos (by decide +kernel)]; kernel_rfl) | (rw [if_neg (by decide +kernel)]; exact ⟨rfl, rfl⟩))
    (fun os started H enc _ => lifted os started H enc)

theorem vals_card : Rows.FnValsCardSaid :=
  Claim7.holds_tied_plain_at .later [] [.data, .data, .data] true (true, "eae85811054954061e1344f4debff355784ef5931f1ecd33136e09fa37f6b1e9") false
    vals_holds (fun _ h => by cases h) (by kernel_rfl) (fun _ h => by cases h) fnVals_row_tie rfl ⟨rfl, rfl⟩ (by kernel_rfl) rfl
    (fun f fn hf hfn => by
      obtain rfl : f = 4 := Option.some.inj ((show Tryd.prog.funcNamed "loop.example/g00219/laws.FnVals" = some 4 by kernel_rfl).symm.trans hf) |>.symm
      obtain rfl : fn = Tryd.f4 := (Option.some.inj (Tryd.func4.symm.trans hfn)).symm
      exact ⟨by kernel_rfl, fun j t ht => by
        rw [Tryd.params4] at ht
        have hm : t ∈ [28] := by simpa using Array.mem_of_getElem? ht
        have hall : ([28].all fun u => !Tryd.prog.wantsStandIn u) = true := by kernel_rfl
        exact (show Tryd.prog.wantsStandIn t = false by simpa using List.all_eq_true.1 hall t hm)⟩)
    (by kernel_rfl)
end Go.Proofs.YtmpopmdimofnbaaDoor
#print axioms Go.Proofs.YtmpopmdimofnbaaDoor.vals_card
