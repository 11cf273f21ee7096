import Derived.Test.YtmpopmdimofnbaaDoorAF8
/-! One operation is sound. -/
namespace Go.AF
set_option linter.unusedVariables false
set_option linter.unusedSimpArgs false
open Go

section
variable {P : Program} {w : World} {c : Ctx P} {S : Nat → Prop} {s : St} {a : Act} {o : Oper} {K : St → Prop} {next : Act → World → Prop} {Q : Exit → Act → World → Prop}

/-- Out of 'it gives a value'. -/
theorem upon_K {f : Sem Value} {x : AV → Prop} (h : Rel c S s a w) (hd : s.fits o.dst) (hf : (execOp a.eval o).run P w = (do pure (Next.value (← f)) : Sem Next).run P w)
    (hk : ∃ y v, K (s.put o.dst y) ∧ f.run P w = .ok v w ∧ Rep w S y v) (hn : ∀ s' S' a' w', K s' → Rel c S' s' a' w' → next a' w') : o.wp P a w next Q := by
  obtain ⟨y, v, h1, h2, h3⟩ := hk
  exact upon_val hf h2 (hn _ S _ _ h1 (h.put hd h3))

theorem upon_M {f : Sem Value} (hf : (execOp a.eval o).run P w = (do pure (Next.value (← f)) : Sem Next).run P w)
    (hk : ∃ s' r w', K s' ∧ f.run P w = .ok r w' ∧ Rel c S s' (a.put o.dst r) w') (hn : ∀ s' S' a' w', K s' → Rel c S' s' a' w' → next a' w') : o.wp P a w next Q := by
  obtain ⟨s', r, w', h1, h2, h3⟩ := hk
  exact upon_val hf h2 (hn _ S _ _ h1 h3)

theorem args_vals (h : Rel c S s a w) (xs : List Operand) : Vals w S (xs.map s.get) (xs.map a.eval) := by
  refine ⟨by simp, fun j x u hj hu => ?_⟩
  simp only [List.getElem?_map, Option.map_eq_some_iff] at hj hu
  obtain ⟨y, hy, rfl⟩ := hj
  obtain ⟨z, hz, rfl⟩ := hu
  rw [hy] at hz
  cases hz
  exact h.get y

theorem vals_append {xs ys : List AV} {us vs : List Value} (h : Vals w S xs us) (k : Vals w S ys vs) : Vals w S (xs ++ ys) (us ++ vs) := by
  refine ⟨by simp [h.1, k.1], fun j x u hj hu => ?_⟩
  by_cases hlt : j < xs.length
  · rw [List.getElem?_append_left hlt] at hj
    rw [List.getElem?_append_left (by rw [h.1]; exact hlt)] at hu
    exact h.2 j x u hj hu
  · rw [List.getElem?_append_right (by omega)] at hj
    rw [List.getElem?_append_right (by rw [h.1]; omega), h.1] at hu
    exact k.2 _ x u hj hu

theorem calls_upon {f : FuncId} {us : Array Value} (hd : s.fits o.dst) (hf : (execOp a.eval o).run P w = .ok (.enter f us) w)
    (hc : Calls P f us w fun e W' => ∃ v s' S', e = .returned v ∧ K s' ∧ Rel c S' s' (a.put o.dst v) W') (hn : ∀ s' S' a' w', K s' → Rel c S' s' a' w' → next a' w') : o.wp P a w next Q := by
  unfold Oper.wp
  rw [hf]
  refine Calls.mono hc ?_
  rintro e W' ⟨v, s', S', rfl, h1, h2⟩
  exact hn s' S' _ _ h1 h2

theorem run_len {t ty : Nat} {ti : TI} {x : AV} {u : Value} {KK : AV → Prop} (ht : tiOf P t = some ti) (hs : isSrc ti) (h1 : ∀ q, x = .v (.string q) → ti.kind = .str) (h2 : (∀ q, x ≠ .v (.string q)) → ti.kind ≠ .str) (hx : Rep w S x u) (hk : lenK x KK) :
    ∃ y v, KK y ∧ (Builtin.len_ #[t] ty #[u]).run P w = .ok v w ∧ Rep w S y v := by
  obtain ⟨n, hn, hk⟩ := hk
  obtain ⟨i, d, z, g1, g2, g3, g4, g5, g6, g7⟩ := tiOf_spec ht
  have hsl : (∀ q, x ≠ .v (.string q)) → ∃ e, P.underlying t = some (.slice e) := by
    intro hq
    rcases hs with ⟨e, he⟩ | he
    · exact ⟨e, ti_slice ht he⟩
    · exact absurd he (h2 hq)
  cases hx with
  | sl b sz off len o c hl ho arr ty fz hb ha =>
    obtain ⟨e, he⟩ := hsl (by simp)
    simp only [avLen, Option.some.injEq] at hn
    subst hn
    exact ⟨_, _, hk, by simp [Builtin.len_, run_underlying he, goInt], .v _⟩
  | nil =>
    obtain ⟨e, he⟩ := hsl (by simp)
    simp only [avLen, Option.some.injEq] at hn
    subst hn
    exact ⟨_, _, hk, by simp [Builtin.len_, run_underlying he, goInt], .v _⟩
  | roNil A c =>
    obtain ⟨e, he⟩ := hsl (by simp)
    simp only [avLen, Option.some.injEq] at hn
    subst hn
    exact ⟨_, _, hk, by simp [Builtin.len_, run_underlying he, goInt], .v _⟩
  | ro b o c sz rows us hc hS hr hu hx =>
    obtain ⟨e, he⟩ := hsl (by simp)
    simp only [avLen, Option.some.injEq] at hn
    subst hn
    exact ⟨_, _, hk, by simp [Builtin.len_, run_underlying he, goInt], .v _⟩
  | v =>
    cases u <;> simp only [avLen] at hn <;> try cases hn
    rename_i q
    have hk1 := h1 q rfl
    rw [hk1] at g7
    have hd : P.underlying t = some .string := by cases d <;> simp [tkOf] at g7; exact g2
    exact ⟨_, _, hk, by simp [Builtin.len_, run_underlying hd, goInt], .v _⟩
  | any => cases hn
  | rp => cases hn
  | pt => cases hn
  | agg => cases hn
  | tup => cases hn
  | fn => cases hn

theorem array_map_toList {α β : Type} (f : α → β) (xs : Array α) : xs.map f = (xs.toList.map f).toArray := by
  apply Array.ext'
  simp

theorem biK_sound {q : Call} {b : Builtin} (h : Rel c S s a w) (hop : o.op = .call q) (hcal : q.callee = .builtin b) (hd : s.fits o.dst) (hk : biK P b q.argTypes.toList (q.args.toList.map s.get) s.H s.N (s.out o.dst K))
    (hn : ∀ s' S' a' w', K s' → Rel c S' s' a' w' → next a' w') : o.wp P a w next Q := by
  have hts : q.argTypes = q.argTypes.toList.toArray := by simp
  have hv := args_vals h q.args.toList
  have hex : ∀ f : Sem Value, (∀ consts, builtin b q.argTypes o.type consts (q.args.map a.eval) = (do pure (Next.value (← f)) : Sem Next)) → (execOp a.eval o).run P w = (do pure (Next.value (← f)) : Sem Next).run P w := by
    intro f hf
    simp only [execOp, hop, resolve, hcal]
    show (builtin b q.argTypes o.type _ (q.args.map a.eval)).run P w = _
    rw [hf]
  rw [array_map_toList] at hex
  generalize hxs : q.args.toList.map s.get = xs at hk hv
  generalize hus : q.args.toList.map a.eval = us at hv hex
  generalize hty : q.argTypes.toList = ts at hk hts
  rw [hts] at hex
  unfold biK at hk
  split at hk
  · rename_i t x
    obtain ⟨ti, h1, h2, h3, h4, hk⟩ := hk
    obtain ⟨u, rfl⟩ : ∃ u, us = [u] := by
      match us, hv.1 with
      | [u], _ => exact ⟨u, rfl⟩
    have hx := hv.2 0 _ _ rfl rfl
    exact upon_K (x := fun _ => True) h hd (hex (Builtin.len_ #[t] o.type #[u]) (fun _ => rfl)) (run_len h1 h2 h3 h4 hx hk) hn
  · rename_i t tx x y
    obtain ⟨ti, e, tie, tix, h1, h2, h3, h4, h5, hk⟩ := hk
    obtain ⟨u, v, rfl⟩ : ∃ u v, us = [u, v] := by
      match us, hv.1 with
      | [u, v], _ => exact ⟨u, v, rfl⟩
    have hx := hv.2 0 _ _ rfl rfl
    have hy := hv.2 1 _ _ rfl rfl
    exact upon_M (hex (Builtin.append_ #[t, tx] o.type #[u, v]) (fun _ => rfl)) (apK_sound h1 h2 h3 h4 h5 h hx hy hd hk) hn
  · rename_i t tx x y
    obtain ⟨ti, e, tie, tix, h1, h2, h3, h4, h5, hk⟩ := hk
    obtain ⟨u, v, rfl⟩ : ∃ u v, us = [u, v] := by
      match us, hv.1 with
      | [u, v], _ => exact ⟨u, v, rfl⟩
    have hx := hv.2 0 _ _ rfl rfl
    have hy := hv.2 1 _ _ rfl rfl
    exact upon_M (hex (Builtin.copy_ #[t, tx] o.type #[u, v]) (fun _ => rfl)) (cpK_sound h1 h2 h3 h4 h5 h hx hy hd hk) hn
  · rename_i k x k' y
    obtain ⟨u, v, rfl⟩ : ∃ u v, us = [u, v] := by
      match us, hv.1 with
      | [u, v], _ => exact ⟨u, v, rfl⟩
    obtain rfl := rep_v (hv.2 0 _ _ rfl rfl)
    obtain rfl := rep_v (hv.2 1 _ _ rfl rfl)
    exact upon_K (x := fun _ => True) h hd (hex (Builtin.max_ ts.toArray o.type #[.int k x, .int k' y]) (fun _ => rfl)) ⟨_, _, hk, run_max_int2 .., .v _⟩ hn
  · rename_i k x k' y
    obtain ⟨u, v, rfl⟩ : ∃ u v, us = [u, v] := by
      match us, hv.1 with
      | [u, v], _ => exact ⟨u, v, rfl⟩
    obtain rfl := rep_v (hv.2 0 _ _ rfl rfl)
    obtain rfl := rep_v (hv.2 1 _ _ rfl rfl)
    exact upon_K (x := fun _ => True) h hd (hex (Builtin.min_ ts.toArray o.type #[.int k x, .int k' y]) (fun _ => rfl)) ⟨_, _, hk, run_min_int2 .., .v _⟩ hn
  · exact hk.elim

theorem callee_sound {q : Call} {f : FuncId} {caps : List AV} (h : Rel c S s a w) (hop : o.op = .call q) (ht : tgt s.get q.callee = some (f, caps)) (hca : callable P f = true) (hd : s.fits o.dst) (hk : callK P f (q.args.toList.map s.get ++ caps) s.H s.N (s.out o.dst K))
    (hn : ∀ s' S' a' w', K s' → Rel c S' s' a' w' → next a' w') : o.wp P a w next Q := by
  have hv := args_vals h q.args.toList
  unfold tgt at ht
  split at ht
  · rename_i x hcal
    have hx := h.get x
    split at ht
    · rename_i f' fs cs hg
      split at ht
      · rename_i hz
        simp only [Option.some.injEq, Prod.mk.injEq] at ht
        obtain ⟨rfl, rfl⟩ := ht
        rw [hg] at hx
        have hx := rep_v hx
        have e1 : fs = #[] := Array.eq_empty_of_size_eq_zero hz.1
        have e2 : cs = #[] := Array.eq_empty_of_size_eq_zero hz.2
        subst e1 e2
        rw [List.append_nil] at hk
        have hrun : (execOp a.eval o).run P w = .ok (.enter f' (q.args.toList.map a.eval).toArray) w := by
          rw [← array_map_toList]
          simp only [execOp, hop, resolve, hcal, hx, Deferred.ofValue]
          have := callable_run (w := w) hca (q.args.map a.eval)
          simpa [invoke] using this
        exact calls_upon hd hrun (callK_sound h hv hd hk) hn
      · cases ht
    · rename_i f' caps' hg
      simp only [Option.some.injEq, Prod.mk.injEq] at ht
      obtain ⟨rfl, rfl⟩ := ht
      rw [hg] at hx
      cases hav : a.eval x with
      | func fn first captured =>
        rw [hav] at hx
        cases hx with
        | fn _ _ vs hl hxs =>
          have hrun : (execOp a.eval o).run P w = .ok (.enter f' (q.args.toList.map a.eval ++ vs).toArray) w := by
            have e : (q.args.toList.map a.eval ++ vs).toArray = q.args.map a.eval ++ vs.toArray := by apply Array.ext'; simp
            rw [e]
            simp only [execOp, hop, resolve, hcal, hav, Deferred.ofValue]
            have := callable_run (w := w) hca (q.args.map a.eval ++ vs.toArray)
            simpa [invoke] using this
          exact calls_upon hd hrun (callK_sound h (vals_append hv ⟨hl.symm, hxs⟩) hd hk) hn
      | _ => rw [hav] at hx; cases hx
    · cases ht
  · cases ht

theorem opA_sound (h : Rel c S s a w) (hk : opA P o s K) (hn : ∀ s' S' a' w', K s' → Rel c S' s' a' w' → next a' w') : o.wp P a w next Q := by
  obtain ⟨hd, hk⟩ := hk
  cases hop : o.op with
  | move x => rw [hop] at hk; exact upon_K (f := pure (a.eval x)) (x := fun _ => True) h hd (by simp [execOp, hop]) ⟨_, _, hk, rfl, h.get x⟩ hn
  | assign x => rw [hop] at hk; exact upon_K (f := pure (a.eval x)) (x := fun _ => True) h hd (by simp [execOp, hop]) ⟨_, _, hk, rfl, h.get x⟩ hn
  | pick q x y =>
    rw [hop] at hk
    obtain ⟨b, hb, hk⟩ := hk
    have hq := h.get q
    rw [hb] at hq
    have hq := rep_v hq
    refine upon_K (f := pure (if b then a.eval x else a.eval y)) (x := fun _ => True) h hd (by simp [execOp, hop, hq, asBool]) ⟨_, _, hk, rfl, ?_⟩ hn
    cases b
    · exact h.get y
    · exact h.get x
  | alloc T =>
    rw [hop] at hk
    obtain ⟨ti, ht, hk⟩ := hk
    obtain ⟨z, hz, hzz⟩ := ti_zero (w := w) ht
    obtain ⟨s', h1, h2⟩ := newK_sound h (us := z.cells.toList) (fun hc => by rw [hzz] at hc ⊢; exact cells_const hc) hd hk
    refine upon_M (S := S) (f := Instr.alloc T true (.tuple #[])) (by simp [execOp, hop]) ⟨s', _, _, h1, ?_, h2⟩ hn
    simp [Instr.alloc, hz, newVar, newRow]
  | box T x =>
    rw [hop] at hk
    obtain ⟨s', h1, h2⟩ := newK_sound h (us := (a.eval x).cells.toList) (fun hc => rep_cells (h.get x) (fun y hy => List.all_eq_true.1 hc y hy)) hd hk
    refine upon_M (S := S) (f := Instr.box T (a.eval x)) (by simp [execOp, hop]) ⟨s', _, _, h1, ?_, h2⟩ hn
    simp [Instr.box, newVar, newRow]
  | build T ps =>
    rw [hop] at hk
    obtain ⟨ti, ht, hk⟩ := hk
    have hp := parts_get h ps.toList
    refine upon_K (f := Instr.build T (ps.map fun p => (p.1, a.eval p.2))) (x := fun _ => True) h hd (by simp [execOp, hop]) (buildK_sound ht (by simpa using hp) hk) hn
  | buildSlice T n ps =>
    rw [hop] at hk
    obtain ⟨ti, e, tie, ht, h1, h2, hk⟩ := hk
    have hp := parts_get h ps.toList
    exact upon_M (f := Instr.buildSlice T n (ps.map fun p => (p.1, a.eval p.2))) (by simp [execOp, hop]) (bsK_sound ht h1 h2 h (by simpa using hp) hd hk) hn
  | load T x =>
    rw [hop] at hk
    obtain ⟨ti, ht, h1, hk⟩ := hk
    exact upon_K (f := Instr.loadAt T (a.eval x)) (x := fun _ => True) h hd (by simp [execOp, hop]) (loadK_sound ht h1 h.ok (h.get x) hk) hn
  | store T x y =>
    rw [hop] at hk
    obtain ⟨ti, ht, hk⟩ := hk
    obtain ⟨s', w', ⟨e, e2⟩, h1, h2, h3⟩ := stK_sound ht h (h.get x) (h.get y) hk
    have hrun : (execOp a.eval o).run P w = .ok .skip w' := by simp [execOp, hop, h2]
    unfold Oper.wp
    rw [hrun]
    have hfit : s'.fits o.dst := by
      revert hd
      unfold St.fits
      rw [e]
      exact id
    have h1' : K (s'.put o.dst .any) := by rw [e2]; exact h1
    exact hn _ S _ _ h1' (h3.put hfit (.any _))
  | nilCheck x =>
    rw [hop] at hk
    have hx := h.get x
    dsimp only [gA] at hk
    split at hk
    · rename_i hg
      rw [hg] at hx
      refine upon_K (f := pure (a.eval x)) (x := fun _ => True) h hd ?_ ⟨_, _, hk, rfl, h.get x⟩ hn
      cases hav : a.eval x <;> rw [hav] at hx <;> cases hx
      simp [execOp, hop, hav]
    · rename_i hg
      rw [hg] at hx
      refine upon_K (f := pure (a.eval x)) (x := fun _ => True) h hd ?_ ⟨_, _, hk, rfl, h.get x⟩ hn
      cases hav : a.eval x <;> rw [hav] at hx <;> cases hx
      simp [execOp, hop, hav]
    · exact hk.elim
  | binOp op T x y T' =>
    rw [hop] at hk
    exact upon_K (f := do eqGuard op T x y (a.eval x) (a.eval y); binOp op T (a.eval x) (a.eval y)) (x := fun _ => True) h hd (by simp [execOp, hop]) (binK_sound (h.get x) (h.get y) hk) hn
  | unOp op T x =>
    rw [hop] at hk
    exact upon_K (f := Op.unary op (a.eval x)) (x := fun _ => True) h hd (by simp [execOp, hop]) (unK_sound (h.get x) hk) hn
  | convert src dst x =>
    rw [hop] at hk
    obtain ⟨tis, ti, h1, h2, hk⟩ := hk
    refine upon_K (f := convert src dst (a.eval x)) (x := fun _ => True) h hd (by simp [execOp, hop]) ?_ hn
    split at hk
    · rename_i e hk1 hk2
      obtain ⟨tie, h3, h4, h5⟩ := hk
      exact cvS_sound h1 h2 hk2 hk1 h3 h4 h (h.get x) h5
    · exact cvK_sound h1 h2 (h.get x) hk
  | makeSlice T l n =>
    rw [hop] at hk
    obtain ⟨ti, e, tie, h1, h2, h3, hk⟩ := hk
    exact upon_M (f := Instr.makeSlice T (a.eval l) (a.eval n)) (by simp [execOp, hop]) (mkK_sound h1 h2 h3 h (h.get l) (h.get n) hd hk) hn
  | slice T x lo hi mx =>
    rw [hop] at hk
    cases mx with
    | some m => exact hk.elim
    | none =>
      obtain ⟨ti, ht, hk⟩ := hk
      refine upon_K (f := Instr.sliceAt T (a.eval x) (lo.map a.eval) (hi.map a.eval) none) (x := fun _ => True) h hd (by simp [execOp, hop]) ?_ hn
      split at hk
      · rename_i hkd
        obtain ⟨⟨q, hq⟩, hk⟩ := hk
        have hx := h.get x
        rw [hq] at hx hk
        exact slK_string_sound ht hkd hx (repO_get h lo) (repO_get h hi) hk
      · rename_i e hkd
        obtain ⟨hns, tie, hte, hk⟩ := hk
        exact slK_slice_sound ht hkd hte (h.get x) (repO_get h lo) (repO_get h hi) hns hk
      · exact hk.elim
  | fieldAddr T x f =>
    rw [hop] at hk
    obtain ⟨ti, ht, hk⟩ := hk
    exact upon_K (f := Instr.fieldAt T (a.eval x) f) (x := fun _ => True) h hd (by simp [execOp, hop]) (faK_sound ht (h.get x) hk) hn
  | field T x f =>
    rw [hop] at hk
    obtain ⟨ti, ht, hk⟩ := hk
    exact upon_K (f := Instr.field T (a.eval x) f) (x := fun _ => True) h hd (by simp [execOp, hop]) (fieldK_sound ht (h.get x) hk) hn
  | indexAddr T x i =>
    rw [hop] at hk
    obtain ⟨ti, e, tie, h1, h2, h3, hk⟩ := hk
    exact upon_K (f := Instr.indexAt T (a.eval x) (a.eval i)) (x := fun _ => True) h hd (by simp [execOp, hop]) (iaK_sound h1 h2 h3 (h.get x) (h.get i) hk) hn
  | index T x i =>
    rw [hop] at hk
    obtain ⟨ti, h1, h2, hk⟩ := hk
    exact upon_K (f := Instr.index T (a.eval x) (a.eval i)) (x := fun _ => True) h hd (by simp [execOp, hop]) (idxK_sound h1 h2 (h.get x) (h.get i) hk) hn
  | extract x i =>
    rw [hop] at hk
    exact upon_K (f := Instr.extract (a.eval x) i) (x := fun _ => True) h hd (by simp [execOp, hop]) (exK_sound (h.get x) hk) hn
  | call q =>
    rw [hop] at hk
    dsimp only [gA] at hk
    split at hk
    · rename_i b hcal
      exact biK_sound h hop hcal hd hk hn
    · obtain ⟨f, caps, h1, h2, hk⟩ := hk
      exact callee_sound h hop h1 h2 hd hk hn
  | _ => rw [hop] at hk; exact hk.elim
end
end Go.AF
