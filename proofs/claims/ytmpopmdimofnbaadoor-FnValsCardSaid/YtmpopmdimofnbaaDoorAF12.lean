import Derived.Test.YtmpopmdimofnbaaDoorAF11
/-! Calls that write nothing; more of what is in the way; the operands. -/
namespace Go.AF
set_option linter.unusedVariables false
set_option linter.unusedSimpArgs false
open Go

/-- What is y is x too. -/
def Weak (y x : AV) : Prop := ∀ W S u, Rep W S y u → Rep W S x u
theorem Weak.refl (x : AV) : Weak x x := fun _ _ _ h => h
theorem Weak.any (x : AV) : Weak x .any := fun _ _ u _ => .any u

theorem view1_up {H H' : Heap} (h : Up H H') (x : AV) : Weak (view1 H' x) (view1 H x) := by
  cases x with
  | sl b sz off len =>
    simp only [view1]
    cases hb : H b with
    | none => exact Weak.any _
    | some k => rw [h b k hb]; exact Weak.refl _
  | pt b sz i j =>
    simp only [view1]
    cases hb : H b with
    | none => exact Weak.any _
    | some k => rw [h b k hb]; exact Weak.refl _
  | _ => exact Weak.refl _

theorem view_up {H H' : Heap} (h : Up H H') (x : AV) : Weak (view H' x) (view H x) := by
  cases x with
  | agg cs =>
    intro W S u hr
    cases hr with
    | agg _ vs hl hx =>
      refine .agg _ _ (by simpa using hl) fun j x u hj hu => ?_
      simp only [List.getElem?_map, Option.map_eq_some_iff] at hj
      obtain ⟨y, hy, rfl⟩ := hj
      exact view1_up h y _ _ _ (hx j _ u (by simp [hy]) hu)
  | _ => unfold view; exact view1_up h _

theorem CallsA.weak {P : Program} {f : FuncId} {xs ys : List AV} {H : Heap} {post : AV → Heap → Prop} (h : CallsA P f xs H post) (hl : ys.length = xs.length) (hw : ∀ (j : Nat) (x y : AV), xs[j]? = some x → ys[j]? = some y → Weak y x) : CallsA P f ys H post := by
  intro w S us hv hok htab
  refine h w S us ⟨by rw [hv.1, hl], fun j x u hj hu => ?_⟩ hok htab
  have hlt : j < ys.length := by rw [hl]; exact (List.getElem?_eq_some_iff.1 hj).1
  exact hw j x _ hj (List.getElem?_eq_getElem hlt) _ _ _ (hv.2 j _ u (List.getElem?_eq_getElem hlt) hu)

theorem callP_up {P : Program} {f : FuncId} {xs : List AV} : IsC (fun H N K => callP P f xs H K) := by
  intro H N K hk
  obtain ⟨R, h1, h2, h3, h4⟩ := hk
  refine ⟨R, h3, h4, fun H' N' K' hU hK => ⟨R, ?_, h2, h3, hK⟩⟩
  refine CallsA.weak h1 (by simp) fun j x y hx hy => ?_
  simp only [List.getElem?_map, Option.map_eq_some_iff] at hx hy
  obtain ⟨z, hz, rfl⟩ := hx
  obtain ⟨z', hz', rfl⟩ := hy
  rw [hz] at hz'; cases hz'
  exact view_up hU z

theorem isC_gS {P : Program} {op : Op} {g : Operand → AV} (h : clsOf P op = .C) : IsC (gS P op g) := by
  cases op with
  | call q =>
    intro H N K hk
    have e : ∀ H N K, gS P (.call q) g H N K ↔ ∃ f caps, tgt g q.callee = some (f, caps) ∧ callable P f = true ∧ callP P f (q.args.toList.map g ++ caps) H K := by
      intro H N K
      simp only [clsOf] at h
      unfold gS
      dsimp only
      split
      · rename_i b hb
        rw [hb] at h
        cases b <;> simp at h
      · exact Iff.rfl
    obtain ⟨f, caps, h1, h2, h3⟩ := (e _ _ _).1 hk
    obtain ⟨R, g1, g2, g3⟩ := callP_up H N K h3
    exact ⟨R, g1, g2, fun H' N' K' hU hK => (e _ _ _).2 ⟨f, caps, h1, h2, g3 H' N' K' hU hK⟩⟩
  | convert src dst x => rcases clsOf_convert (P := P) (src := src) (dst := dst) (x := x) with h' | h' <;> (rw [h'] at h; cases h)
  | _ => cases h

theorem IsV.mono {f : F} (h : IsV f) : Mono f := fun H N K K' hk hf => by
  obtain ⟨y, h1, h2⟩ := h _ _ _ hf
  exact (h2 _ _ _).2 (hk _ _ h1)
theorem IsL.mono {f : F} (h : IsL f) : Mono f := fun H N K K' hk hf => by
  obtain ⟨b0, h⟩ := h
  obtain ⟨y, h1, h2⟩ := h _ _ _ hf
  exact (h2 _ _ _ fun _ h => h).2 (hk _ _ h1)
theorem IsC.mono {f : F} (h : IsC f) : Mono f := fun H N K K' hk hf => by
  obtain ⟨R, h0, h1, h2⟩ := h _ _ _ hf
  exact h2 _ _ _ (fun _ _ h => h) fun r hr => hk _ _ (h1 r hr)
theorem IsA.mono {f : F} (h : IsA f) : Mono f := fun H N K K' hk hf => by
  obtain ⟨mk, k, h1⟩ := h _ _ _ hf
  rw [h1] at hf ⊢
  exact fun b hb hN => hk _ _ (hf b hb hN)

theorem apK_mono {ti : TI} {e : Nat} {x y : AV} {H : Heap} {N : Nat} {K K' : AV → Heap → Prop} (hk : ∀ r H', K r H' → K' r H') (h : apK ti e x y H N K) : apK ti e x y H N K' := by
  obtain ⟨h1, h2, news, h3, h4, h⟩ := h
  refine ⟨h1, h2, news, h3, h4, ?_⟩
  cases x <;> try exact h
  · obtain ⟨g1, g2, g3, g4⟩ := h
    exact ⟨g1, g2, fun e => hk _ _ (g3 e), fun e b hb hN => hk _ _ (g4 e b hb hN)⟩
  · obtain ⟨g1, g2, k, g3, g4, g5, g6, g7, g8, g9⟩ := h
    exact ⟨g1, g2, k, g3, g4, g5, g6, g7, g8, fun b hb => hk _ _ (g9 b hb)⟩
theorem cpK_mono {ti : TI} {x y : AV} {H : Heap} {K K' : AV → Heap → Prop} (hk : ∀ r H', K r H' → K' r H') (h : cpK ti x y H K) : cpK ti x y H K' := by
  obtain ⟨h1, news, h2, h3, h⟩ := h
  refine ⟨h1, news, h2, h3, ?_⟩
  cases x <;> try exact h
  obtain ⟨g1, k, g2, g3, g4, g5, g6⟩ := h
  exact ⟨g1, k, g2, g3, g4, g5, hk _ _ g6⟩
theorem stK_mono {ti : TI} {x y : AV} {H : Heap} {K K' : AV → Heap → Prop} (hk : ∀ r H', K r H' → K' r H') (h : stK ti x y H K) : stK ti x y H K' := by
  cases x <;> try exact h
  obtain ⟨k, h1, h2, row, h3, h4, h5, h6, h7⟩ := h
  exact ⟨k, h1, h2, row, h3, h4, h5, h6, hk _ _ h7⟩
theorem biK_mono {P : Program} {b : Builtin} {ts : List Nat} {xs : List AV} {H : Heap} {N : Nat} {K K' : AV → Heap → Prop} (hk : ∀ r H', K r H' → K' r H') (h : biK P b ts xs H N K) : biK P b ts xs H N K' := by
  unfold biK at h ⊢
  split at h
  · obtain ⟨ti, h1, h2, h3, h4, n, h5, h6⟩ := h
    exact ⟨ti, h1, h2, h3, h4, n, h5, hk _ _ h6⟩
  · obtain ⟨ti, e, tie, tix, h1, h2, h3, h4, h5, h6⟩ := h
    exact ⟨ti, e, tie, tix, h1, h2, h3, h4, h5, apK_mono hk h6⟩
  · obtain ⟨ti, e, tie, tix, h1, h2, h3, h4, h5, h6⟩ := h
    exact ⟨ti, e, tie, tix, h1, h2, h3, h4, h5, cpK_mono hk h6⟩
  · exact hk _ _ h
  · exact hk _ _ h
  · exact h.elim
theorem callK_mono {P : Program} {f : FuncId} {xs : List AV} {H : Heap} {N : Nat} {K K' : AV → Heap → Prop} (hk : ∀ r H', K r H' → K' r H') (h : callK P f xs H N K) : callK P f xs H N K' := by
  rcases h with ⟨R, h1, h2, h3, h4⟩ | ⟨ys, Hf, post, h1, h2, h3, h4⟩
  · exact .inl ⟨R, h1, h2, h3, fun r hr => hk _ _ (h4 r hr)⟩
  · exact .inr ⟨ys, Hf, post, h1, h2, h3, fun r H' hr hb => hk _ _ (h4 r H' hr hb)⟩

theorem gA_gS {P : Program} {op : Op} {g : Operand → AV} (h : ∀ q, op ≠ .call q) : gA P op g = gS P op g := by
  cases op <;> first | rfl | exact absurd rfl (h _)

theorem gA_mono {P : Program} {op : Op} {g : Operand → AV} : Mono (gA P op g) := by
  by_cases h : ∃ q, op = .call q
  · obtain ⟨q, rfl⟩ := h
    intro H N K K' hk hf
    unfold gA at hf ⊢
    dsimp only at hf ⊢
    split
    · rename_i b hb
      rw [hb] at hf
      exact biK_mono hk hf
    · rename_i hb
      split at hf
      · rename_i b hb'
        exact absurd hb' (hb b)
      · obtain ⟨f, caps, h1, h2, h3⟩ := hf
        exact ⟨f, caps, h1, h2, callK_mono hk h3⟩
  · have hq : ∀ q, op ≠ .call q := fun q e => h ⟨q, e⟩
    rw [gA_gS hq]
    cases hc : clsOf P op with
    | V => exact (isV_gS hc).mono
    | L => exact (isL_gS hc).mono
    | A => exact (isA_gS hc).mono
    | C => exact (isC_gS hc).mono
    | E =>
      by_cases hcv : ∃ src dst x, op = .convert src dst x
      · obtain ⟨src, dst, x, rfl⟩ := hcv
        rcases clsOf_convert (P := P) (src := src) (dst := dst) (x := x) with h' | h' <;> (rw [h'] at hc; cases hc)
      cases op <;> simp [clsOf] at hc hq hcv
      intro H N K K' hk hf
      obtain ⟨ti, h1, h2⟩ := hf
      exact ⟨ti, h1, stK_mono hk h2⟩
    | D =>
      by_cases hcv : ∃ src dst x, op = .convert src dst x
      · obtain ⟨src, dst, x, rfl⟩ := hcv
        rcases clsOf_convert (P := P) (src := src) (dst := dst) (x := x) with h' | h' <;> (rw [h'] at hc; cases hc)
      cases op <;> simp [clsOf] at hc hq hcv <;> first | exact fun H N K K' hk hf => hf.elim | skip

theorem gS_mono {P : Program} {op : Op} {g : Operand → AV} : Mono (gS P op g) := by
  by_cases h : ∃ q, op = .call q
  · obtain ⟨q, rfl⟩ := h
    intro H N K K' hk hf
    unfold gS at hf ⊢
    dsimp only at hf ⊢
    split
    · rename_i b hb
      rw [hb] at hf
      exact biK_mono hk hf
    · rename_i hb
      split at hf
      · rename_i b hb'
        exact absurd hb' (hb b)
      · obtain ⟨f, caps, h1, h2, R, h3, h4, h5, h6⟩ := hf
        exact ⟨f, caps, h1, h2, R, h3, h4, h5, fun r hr => hk _ _ (h6 r hr)⟩
  · rw [← gA_gS fun q e => h ⟨q, e⟩]
    exact gA_mono

theorem nonV_st {ti : TI} {x y : AV} : NonV (fun H N K => stK ti x y H K) := by
  intro H N K hF hf
  cases x <;> try exact hf.elim
  obtain ⟨k, h1, h2, row, h3, h4, h5, h6, h7⟩ := hf
  exact ⟨_, _, hF.upd _ _, h7⟩
theorem nonV_bi {P : Program} {b : Builtin} {ts : List Nat} {xs : List AV} : NonV (fun H N K => biK P b ts xs H N K) := by
  intro H N K hF h
  unfold biK at h
  split at h
  · obtain ⟨ti, h1, h2, h3, h4, n, h5, h6⟩ := h
    exact ⟨_, _, hF, h6⟩
  · obtain ⟨ti, e, tie, tix, h1, h2, h3, h4, h5, g1, g2, news, g3, g4, h⟩ := h
    split at h
    · obtain ⟨g5, g6, g7, g8⟩ := h
      by_cases hn : news = []
      · exact ⟨_, _, hF, g7 hn⟩
      · obtain ⟨b, hb, hN, _⟩ := hF.fresh N 0
        exact ⟨_, _, hF.upd _ _, g8 hn b hb hN⟩
    · obtain ⟨g5, g6, k, g7, g8, g9, g10, g11, g12, g13⟩ := h
      exact ⟨_, _, (hF.upd _ _).upd _ _, g13 _ (.inl rfl)⟩
    · exact h.elim
  · obtain ⟨ti, e, tie, tix, h1, h2, h3, h4, h5, g1, news, g2, g3, h⟩ := h
    split at h
    · obtain ⟨g4, k, g5, g6, g7, g8, g9⟩ := h
      exact ⟨_, _, hF.upd _ _, g9⟩
    · exact h.elim
  · exact ⟨_, _, hF, h⟩
  · exact ⟨_, _, hF, h⟩
  · exact h.elim

theorem isE_gS {P : Program} {op : Op} {g : Operand → AV} (h : clsOf P op = .E) : NonV (gS P op g) := by
  cases op with
  | store T x y =>
    intro H N K hF hf
    obtain ⟨ti, h1, h2⟩ := hf
    exact nonV_st H N K hF h2
  | call q =>
    intro H N K hF hf
    unfold gS at hf
    dsimp only at hf
    split at hf
    · exact nonV_bi H N K hF hf
    · rename_i hb
      simp only [clsOf] at h
      split at h <;> first | (cases h; done) | skip
      exact absurd (by assumption) (hb _)
  | convert src dst x => rcases clsOf_convert (P := P) (src := src) (dst := dst) (x := x) with h' | h' <;> (rw [h'] at h; cases h)
  | _ => cases h

theorem is_gS (P : Program) (op : Op) (g : Operand → AV) : (clsOf P op).is (gS P op g) := by
  cases hc : clsOf P op
  · exact isV_gS hc
  · exact isL_gS hc
  · exact isC_gS hc
  · exact isA_gS hc
  · exact isE_gS hc
  · trivial

/-- The operands alone. -/
theorem gS_congr {P : Program} {op : Op} {g g' : Operand → AV} (h : ∀ x ∈ op.operands, g x = g' x) : gS P op g = gS P op g' := by
  have pairs : ∀ ps : Array (Nat × Operand), (∀ x ∈ ps.map (·.2), g x = g' x) → (ps.toList.map fun p => (p.1, g p.2)) = (ps.toList.map fun p => (p.1, g' p.2)) := fun ps hp =>
    List.map_congr_left fun p hm => by rw [hp p.2 (Array.mem_map.2 ⟨p, Array.mem_toList_iff.1 hm, rfl⟩)]
  funext H N K
  cases op <;> simp only [Op.operands] at h <;> try rfl
  case call q =>
    have hargs : q.args.toList.map g = q.args.toList.map g' := List.map_congr_left fun x hx => h x (by simp [Call.operands, Array.mem_toList_iff.1 hx])
    unfold gS
    dsimp only
    rw [hargs]
    cases hc : q.callee with
    | builtin b => rfl
    | value f =>
      have hf : g f = g' f := h f (by simp [Call.operands, hc])
      simp only [tgt, hf]
    | invoke r m => rfl
  case build t ps => simp only [gS, gA]; rw [pairs ps fun x hx => h x (by simpa using hx)]
  case buildSlice t n ps => simp only [gS, gA]; rw [pairs ps fun x hx => h x (by simpa using hx)]
  case slice t x lo hi mx =>
    cases mx with
    | some m => rfl
    | none =>
      have h1 : g x = g' x := h x (by simp)
      have h2 : lo.map g = lo.map g' := by cases lo with
        | none => rfl
        | some l => simp [h l (by simp)]
      have h3 : hi.map g = hi.map g' := by cases hi with
        | none => rfl
        | some l => simp [h l (by simp)]
      simp only [gS, gA, h1, h2, h3]
  all_goals (simp only [gS, gA]; simp_all)
theorem gA_congr {P : Program} {op : Op} {g g' : Operand → AV} (h : ∀ x ∈ op.operands, g x = g' x) : gA P op g = gA P op g' := by
  by_cases hq : ∃ q, op = .call q
  · obtain ⟨q, rfl⟩ := hq
    simp only [Op.operands] at h
    have hargs : q.args.toList.map g = q.args.toList.map g' := List.map_congr_left fun x hx => h x (by simp [Call.operands, Array.mem_toList_iff.1 hx])
    funext H N K
    unfold gA
    dsimp only
    rw [hargs]
    cases hc : q.callee with
    | builtin b => rfl
    | value f =>
      have hf : g f = g' f := h f (by simp [Call.operands, hc])
      simp only [tgt, hf]
    | invoke r m => rfl
  · rw [gA_gS fun q e => hq ⟨q, e⟩, gA_gS fun q e => hq ⟨q, e⟩, gS_congr h]
end Go.AF
