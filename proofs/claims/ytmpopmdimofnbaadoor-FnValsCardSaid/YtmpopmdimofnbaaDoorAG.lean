import Derived.Test.YtmpopmdimofnbaaDoorAF25
/-! Regions in which one operation writes beside others that read: what is read does not change. -/
namespace Go.AF
set_option linter.unusedVariables false
set_option linter.unusedSimpArgs false
open Go

/-- How an operation is taken: freely, strictly, as one whose value no writer of the region changes, as such a writer. -/
inductive Md where
  | a | s | x | w
  deriving DecidableEq

/-- What is the same for all that is read. -/
structure Eqv (E : Heap → Heap → Prop) : Prop where
  refl : ∀ H, E H H
  symm : ∀ {H H'}, E H H' → E H' H
  trans : ∀ {H H' H''}, E H H' → E H' H'' → E H H''

def IsX (E : Heap → Heap → Prop) (f : F) : Prop := ∀ H N K, f H N K → ∃ y, K y H ∧ ∀ H' N' K', E H H' → (f H' N' K' ↔ K' y H')
def IsW (E : Heap → Heap → Prop) (f : F) : Prop := ∀ H N K, f H N K → ∃ Rr : AV → Heap → Prop, (∃ r H', Rr r H') ∧ (∀ r H', Rr r H' → E H H' ∧ (Fin H → Fin H') ∧ K r H') ∧ ∀ K', (∀ r H', Rr r H' → K' r H') → f H N K'

theorem IsV.x {f : F} (E : Heap → Heap → Prop) (h : IsV f) : IsX E f := fun H N K hf => by
  obtain ⟨y, h1, h2⟩ := h H N K hf
  exact ⟨y, h1, fun H' N' K' _ => h2 H' N' K'⟩
theorem swap_XX {E : Heap → Heap → Prop} (hE : Eqv E) {f g : F} (hf : IsX E f) (hg : IsX E g) : Swap f g := by
  intro H N K hF h
  obtain ⟨y, h1, h2⟩ := hf _ _ _ h
  obtain ⟨z, h3, h4⟩ := hg _ _ _ (h1 hF)
  exact (h4 H _ _ (hE.refl H)).2 fun _ => (h2 H _ _ (hE.refl H)).2 fun _ => h3 hF
theorem swap_XW {E : Heap → Heap → Prop} {f g : F} (hf : IsX E f) (hg : IsW E g) : Swap f g := by
  intro H N K hF h
  obtain ⟨y, h1, h2⟩ := hf _ _ _ h
  obtain ⟨Rr, _, h3, h4⟩ := hg _ _ _ (h1 hF)
  refine h4 _ fun r H' hr _ => ?_
  obtain ⟨e1, e2, e3⟩ := h3 r H' hr
  exact (h2 H' _ _ e1).2 fun _ => e3 (e2 hF)
theorem swap_WX {E : Heap → Heap → Prop} (hE : Eqv E) {f g : F} (hf : IsW E f) (hg : IsX E g) : Swap f g := by
  intro H N K hF h
  obtain ⟨Rr, ⟨r0, H0, hr0⟩, h3, h4⟩ := hf _ _ _ h
  obtain ⟨a1, a2, a3⟩ := h3 r0 H0 hr0
  obtain ⟨y, _, h2⟩ := hg _ _ _ (a3 (a2 hF))
  refine (h2 H _ _ (hE.symm a1)).2 fun _ => h4 _ fun r H' hr _ => ?_
  obtain ⟨b1, b2, b3⟩ := h3 r H' hr
  exact (h2 H' _ _ (hE.trans (hE.symm a1) b1)).1 (b3 (b2 hF)) (b2 hF)
theorem swap_CX {E : Heap → Heap → Prop} (hE : Eqv E) {f g : F} (hf : IsC f) (hg : IsX E g) : Swap f g := by
  intro H N K hF h
  obtain ⟨R, ⟨r, hr⟩, h1, h2⟩ := hf _ _ _ h
  obtain ⟨z, h3, h4⟩ := hg _ _ _ (h1 r hr hF)
  refine (h4 H _ _ (hE.refl H)).2 fun _ => h2 H _ _ (fun _ _ h => h) fun r' hr' _ => ?_
  exact (h4 H _ _ (hE.refl H)).1 (h1 r' hr' hF) hF
theorem IsW.nonV {E : Heap → Heap → Prop} {f : F} (h : IsW E f) : NonV f := fun H N K hF hf => by
  obtain ⟨Rr, ⟨r, H', hr⟩, h3, _⟩ := h _ _ _ hf
  exact ⟨r, H', (h3 r H' hr).2.1 hF, (h3 r H' hr).2.2⟩

def gM (E : Heap → Heap → Prop) (P : Program) (m : Md) (op : Op) (g : Operand → AV) : F := match m with
  | .a => gA P op g
  | .s => gS P op g
  | .x => fun H N K => ∃ y, K y H ∧ ∀ H' N' K', E H H' → (gS P op g H' N' K' ↔ K' y H')
  | .w => fun H N K => ∃ Rr : AV → Heap → Prop, (∃ r H', Rr r H') ∧ (∀ r H', Rr r H' → E H H' ∧ (Fin H → Fin H') ∧ K r H') ∧ ∀ K', (∀ r H', Rr r H' → K' r H') → gA P op g H N K'
theorem gM_isX {E : Heap → Heap → Prop} (hE : Eqv E) {P : Program} {op : Op} {g : Operand → AV} : IsX E (gM E P .x op g) := by
  intro H N K h
  obtain ⟨y, h1, h2⟩ := h
  refine ⟨y, h1, fun H' N' K' he => ⟨fun hf => ?_, fun hk => ⟨y, hk, fun H'' N'' K'' he' => h2 _ _ _ (hE.trans he he')⟩⟩⟩
  obtain ⟨y', h3, h4⟩ := hf
  have e1 : y = y' := (h2 H' N' (fun r _ => r = y') he).1 ((h4 H' N' (fun r _ => r = y') (hE.refl H')).2 rfl)
  rw [e1]; exact h3
theorem gM_isW {E : Heap → Heap → Prop} {P : Program} {op : Op} {g : Operand → AV} : IsW E (gM E P .w op g) := by
  intro H N K h
  obtain ⟨Rr, h1, h2, h3⟩ := h
  exact ⟨Rr, h1, h2, fun K' hk => ⟨Rr, h1, fun r H' hr => ⟨(h2 r H' hr).1, (h2 r H' hr).2.1, hk r H' hr⟩, h3⟩⟩
theorem gM_mono {E : Heap → Heap → Prop} {P : Program} {m : Md} {op : Op} {g : Operand → AV} : Mono (gM E P m op g) := by
  intro H N K K' hk h
  cases m with
  | a => exact gA_mono _ _ _ _ hk h
  | s => exact gS_mono _ _ _ _ hk h
  | x =>
    obtain ⟨y, h1, h2⟩ := h
    exact ⟨y, hk _ _ h1, h2⟩
  | w =>
    obtain ⟨Rr, h1, h2, h3⟩ := h
    exact ⟨Rr, h1, fun r H' hr => ⟨(h2 r H' hr).1, (h2 r H' hr).2.1, hk _ _ (h2 r H' hr).2.2⟩, h3⟩
theorem gM_gA {E : Heap → Heap → Prop} (hE : Eqv E) {P : Program} {m : Md} {op : Op} {g : Operand → AV} {H : Heap} {N : Nat} {K : AV → Heap → Prop} (h : gM E P m op g H N K) : gA P op g H N K := by
  cases m with
  | a => exact h
  | s => exact gS_gA h
  | x =>
    obtain ⟨y, h1, h2⟩ := h
    exact gS_gA ((h2 H N K (hE.refl H)).2 h1)
  | w =>
    obtain ⟨Rr, h1, h2, h3⟩ := h
    exact h3 K fun r H' hr => (h2 r H' hr).2.2
theorem gM_congr {E : Heap → Heap → Prop} {P : Program} {m : Md} {op : Op} {g g' : Operand → AV} (h : ∀ x ∈ op.operands, g x = g' x) : gM E P m op g = gM E P m op g' := by
  cases m with
  | a => exact gA_congr h
  | s => exact gS_congr h
  | x => unfold gM; simp only [gS_congr h]
  | w => unfold gM; simp only [gA_congr h]

def gGm (E : Heap → Heap → Prop) (P : Program) (ops : Array Oper) (m : Md) (o : Oper) (s : St) : F :=
  match o.guard with
  | none => gM E P m o.op s.get
  | some (g, want) => fun H N K => ∃ yb, yieldA ops s g = some yb ∧ if yb = some want then gM E P m o.op s.get H N K else K (.v undef) H
theorem gGm_mono {E : Heap → Heap → Prop} {P : Program} {ops : Array Oper} {m : Md} {o : Oper} {s : St} : Mono (gGm E P ops m o s) := by
  unfold gGm
  split
  · exact gM_mono
  · intro H N K K' hk hf
    obtain ⟨yb, h1, h2⟩ := hf
    refine ⟨yb, h1, ?_⟩
    split at h2
    · rename_i h
      rw [if_pos h]
      exact gM_mono _ _ _ _ hk h2
    · rename_i h
      rw [if_neg h]
      exact hk _ _ h2
/-- With its guard it is what it is, or gives nothing. -/
theorem gGm_or {E : Heap → Heap → Prop} {P : Program} {ops : Array Oper} {m : Md} {o : Oper} {s : St} : gGm E P ops m o s = gM E P m o.op s.get ∨ IsV (gGm E P ops m o s) := by
  unfold gGm
  split
  · exact .inl rfl
  · rename_i g want hg
    cases hy : yieldA ops s g with
    | none => exact .inr fun H N K ⟨yb, h1, _⟩ => by cases h1
    | some yb =>
      by_cases h : yb = some want
      · left
        funext H N K
        apply propext
        constructor
        · rintro ⟨yb', h1, h2⟩
          cases h1
          simpa [h] using h2
        · exact fun h2 => ⟨yb, rfl, by simpa [h] using h2⟩
      · right
        refine IsV.of (g := fun K => K (.v undef)) (fun H N K => ?_) (Det.one _)
        constructor
        · rintro ⟨yb', h1, h2⟩
          cases h1
          simpa [h] using h2
        · exact fun h2 => ⟨yb, rfl, by simpa [h] using h2⟩

/-- May the second come ahead of the first? -/
def swapM (P : Program) (m : Md) (o : Oper) (m' : Md) (o' : Oper) : Bool := match m, m' with
  | .x, .x | .x, .w | .w, .x => true
  | .x, .s | .w, .s => clsOf P o'.op == .V
  | .s, .x => clsOf P o.op == .V || clsOf P o.op == .C
  | .s, .w => clsOf P o.op == .V
  | .s, .s => swapB (clsOf P o.op) (clsOf P o'.op)
  | _, _ => false
theorem swapM_of {E : Heap → Heap → Prop} (hE : Eqv E) {P : Program} {ops : Array Oper} {m m' : Md} {o o' : Oper} {s : St} (h : swapM P m o m' o' = true) : Swap (gGm E P ops m o s) (gGm E P ops m' o' s) := by
  rcases gGm_or (E := E) (P := P) (ops := ops) (m := m) (o := o) (s := s) with e1 | e1
  · rcases gGm_or (E := E) (P := P) (ops := ops) (m := m') (o := o') (s := s) with e2 | e2
    · rw [e1, e2]
      cases m <;> cases m' <;> simp only [swapM, Bool.false_eq_true, beq_iff_eq, Bool.or_eq_true] at h
      · exact swap_of gS_mono gS_mono (.inl (is_gS P o.op s.get)) (.inl (is_gS P o'.op s.get)) h
      · rcases h with h | h
        · exact swap_V (isV_gS h) gM_mono
        · exact swap_CX hE (isC_gS h) (gM_isX hE)
      · exact swap_V (isV_gS h) gM_mono
      · exact swap_XX hE (gM_isX hE) ((isV_gS h).x E)
      · exact swap_XX hE (gM_isX hE) (gM_isX hE)
      · exact swap_XW (gM_isX hE) gM_isW
      · exact swap_EV gM_mono gM_isW.nonV (isV_gS h)
      · exact swap_WX hE gM_isW (gM_isX hE)
    · rw [e1]
      cases m
      · cases m' <;> simp [swapM] at h
      · have hs := is_gS P o.op s.get
        generalize hc : clsOf P o.op = cl at hs
        cases cl with
        | V => exact swap_V hs gGm_mono
        | L => exact swap_LL hs e2.l
        | C => exact swap_CL hs e2.l
        | A => exact swap_AL hs e2.l
        | E => exact swap_EV gS_mono hs e2
        | D => cases m' <;> simp [swapM, hc, swapB] at h
      · exact swap_XX hE (gM_isX hE) (e2.x E)
      · exact swap_EV gM_mono gM_isW.nonV e2
  · exact swap_V e1 gGm_mono

def stepM (P : Program) (ops : Array Oper) (E : Heap → Heap → Prop) (md : Nat → Md) (i : Nat) (K : St → Prop) (s : St) : Prop :=
  match ops[i]? with
  | none => K s
  | some o => gGm E P ops (md i) o s s.H s.N (fun r H' => Fin H' → K ({ s with H := H' }.put o.dst r))

def regLM (P : Program) (ops : Array Oper) (E : Heap → Heap → Prop) (md : Nat → Md) : List Nat → (St → Prop) → St → Prop
  | [], K, s => K s
  | i :: l, K, s => stepM P ops E md i (regLM P ops E md l K) s

/-- The region, as it is told. -/
def regUM (P : Program) (ops : Array Oper) (E : Heap → Heap → Prop) (md : Nat → Md) : List Nat → (St → Prop) → St → Prop
  | [], K, s => K s
  | i :: l, K, s => match ops[i]? with
    | none => regUM P ops E md l K s
    | some o => gGm E P ops (md i) o s s.H s.N (s.out o.dst (regUM P ops E md l K))

theorem regLM_of {P : Program} {ops : Array Oper} {E : Heap → Heap → Prop} {md : Nat → Md} {K : St → Prop} : ∀ {l : List Nat} {s : St}, regUM P ops E md l K s → regLM P ops E md l K s := by
  intro l
  induction l with
  | nil => exact fun h => h
  | cons i l ih =>
    intro s h
    unfold regUM at h
    unfold regLM stepM
    split
    · rename_i hi
      rw [hi] at h
      exact ih h
    · rename_i o hi
      rw [hi] at h
      exact gGm_mono _ _ _ _ (fun r H' hk _ => ih hk) h

theorem stepM_mono {P : Program} {ops : Array Oper} {E : Heap → Heap → Prop} {md : Nat → Md} {i : Nat} {K K' : St → Prop} (hk : ∀ s, K s → K' s) {s : St} (h : stepM P ops E md i K s) : stepM P ops E md i K' s := by
  unfold stepM at h ⊢
  split
  · rename_i hi
    rw [hi] at h
    exact hk _ h
  · rename_i o hi
    rw [hi] at h
    exact gGm_mono _ _ _ _ (fun r H' h2 hF => hk _ (h2 hF)) h


section
variable {P : Program} {w : World} {c : Ctx P} {S : Nat → Prop} {s : St} {a : Act} {ops : Array Oper} {E : Heap → Heap → Prop} {md : Nat → Md} {K : St → Prop} {Q : Exit → Act → World → Prop}
theorem stepM_sound (hE : Eqv E) {i : Nat} {next : Act → World → Prop} (h : Rel c S s a w) (hfit : ∀ o, ops[i]? = some o → s.fits o.dst) (hk : stepM P ops E md i K s)
    (hn : ∀ s' S' a' w', s'.n = s.n → K s' → Rel c S' s' a' w' → next a' w') : wpOp P ops Q i next a w := by
  unfold stepM at hk
  unfold wpOp
  split
  · rename_i hi
    rw [hi] at hk
    exact hn _ _ _ _ rfl hk h
  · rename_i o hi
    rw [hi] at hk
    dsimp only at hk
    have hw := wanted_of (ops := ops) (o := o) h
    have hop : gA P o.op s.get s.H s.N (fun r H' => Fin H' → K ({ s with H := H' }.put o.dst r)) → o.wp P a w next Q := fun hg =>
      opA_sound (K := fun s' => s'.n = s.n ∧ (Fin s'.H → K s')) h ⟨hfit o hi, gA_mono _ _ _ _ (fun r H' hq => ⟨by rw [St.put_n], fun hF => hq (by rw [St.put_H] at hF; exact hF)⟩) hg⟩
        fun s' S' a' w' hq hr => hn s' S' a' w' hq.1 (hq.2 hr.fin) hr
    unfold gGm at hk
    cases hg : o.guard with
    | none =>
      rw [hg] at hw hk
      rw [if_pos hw]
      exact .inl (hop (gM_gA hE hk))
    | some gw =>
      obtain ⟨g, want⟩ := gw
      rw [hg] at hw hk
      obtain ⟨yb, h1, h2⟩ := hk
      have hw := hw yb h1
      by_cases hy : yb = some want
      · rw [if_pos hy] at h2
        rw [if_pos (by simp [hw, hy])]
        exact .inl (hop (gM_gA hE h2))
      · rw [if_neg hy] at h2
        rw [if_neg (by simp [hw, hy])]
        refine hn _ S _ _ (by rw [St.put_n]) (h2 h.fin) (h.put (hfit o hi) (.v _))

theorem regLM_ops (hE : Eqv E) {n : Nat} (hf : fitsAll n ops = true) : ∀ (l : List Nat) {s : St} {S : Nat → Prop} {a : Act} {w : World}, Rel c S s a w → s.n = n → regLM P ops E md l K s → (∀ s' S' a' w', K s' → Rel c S' s' a' w' → Q .normal a' w') → wpOps P ops Q l a w := by
  intro l
  induction l with
  | nil => exact fun h _ hk hq => hq _ _ _ _ hk h
  | cons i l ih =>
    intro s S a w h hn hk hq
    rw [wpOps_cons]
    exact stepM_sound hE h (fun o hi => fitsAll_spec hf hi hn) hk fun s' S' a' w' hn' hk' hr => ih hr (hn'.trans hn) hk' hq
end

theorem gGm_put {P : Program} {ops : Array Oper} {E : Heap → Heap → Prop} {m : Md} {o : Oper} {s : St} {H : Heap} {d : Option Tmp} {r : AV} (h : ∀ t, d = some t → t ∉ o.looksAt ops) : gGm E P ops m o ({ s with H := H }.put d r) = gGm E P ops m o s := by
  have hx : ∀ x ∈ o.op.operands, ({ s with H := H }.put d r).get x = s.get x := fun x hx => get_put fun t ht e => h t ht (by
    subst e
    exact List.mem_append_left _ (List.mem_filterMap.2 ⟨.tmp t, by simpa using hx, rfl⟩))
  have h0 : gM E P m o.op ({ s with H := H }.put d r).get = gM E P m o.op s.get := gM_congr hx
  unfold gGm
  cases hg : o.guard with
  | none => simp only [h0]
  | some gw =>
    obtain ⟨g, want⟩ := gw
    have h2 : yieldA ops ({ s with H := H }.put d r) g = yieldA ops s g := by
      unfold yieldA
      split
      · rfl
      · rename_i t ht
        rw [get_put fun t' ht' e => h t' ht' (by
          cases e
          simp [Oper.looksAt, hg, ht])]
    simp only [h0, h2]

/-- Two operations change places. -/
theorem stepM_swap {P : Program} {ops : Array Oper} {E : Heap → Heap → Prop} {md : Nat → Md} {i j : Nat} {oi oj : Oper} {K : St → Prop} {s : St} (hi : ops[i]? = some oi) (hj : ops[j]? = some oj) (hap : oj.apart ops oi = true) (hsw : swapM P (md j) oj (md i) oi = true) (hE : Eqv E) (hF : Fin s.H)
    (h : stepM P ops E md j (stepM P ops E md i K) s) : stepM P ops E md i (stepM P ops E md j K) s := by
  obtain ⟨h1, h2, h3⟩ := Oper.apart_spec hap
  unfold stepM at h ⊢
  simp only [hi, hj] at h ⊢
  have e1 : ∀ r H, ({ s with H := H }.put oj.dst r).H = H := fun r H => by rw [St.put_H]
  have e2 : ∀ r H, ({ s with H := H }.put oj.dst r).N = s.N := fun r H => by rw [St.put_N]
  have e3 : ∀ r H, ({ s with H := H }.put oi.dst r).H = H := fun r H => by rw [St.put_H]
  have e4 : ∀ r H, ({ s with H := H }.put oi.dst r).N = s.N := fun r H => by rw [St.put_N]
  simp only [e1, e2, e3, e4, gGm_put h1] at h ⊢
  have key := swapM_of hE (ops := ops) (s := s) hsw s.H s.N
    (fun r1 r2 H => K ({ ({ s with H := H }.put oj.dst r1) with H := H }.put oi.dst r2)) hF
    (gGm_mono _ _ _ _ (fun r1 H1 hh hF1 => gGm_mono _ _ _ _ (fun r2 H2 hh2 hF2 => by
      refine cast (congrArg K ?_) (hh2 hF2)
      cases oj.dst <;> rfl) (hh hF1)) h)
  refine gGm_mono _ _ _ _ (fun r2 H2 hh hF2 => ?_) key
  have hh := hh hF2
  rw [gGm_put h3]
  refine gGm_mono _ _ _ _ (fun r1 H1 hh hF1 => ?_) hh
  refine cast (congrArg K ?_) (hh hF1)
  rw [put_put h2]
  cases oi.dst <;> rfl
/-- Any order does what the order of the text does. -/
def okM (P : Program) (ops : Array Oper) (md : Nat → Md) : Bool :=
  let ms := masks ops ops.size
  (List.range ops.size).all fun i => match ops[i]? with
    | none => true
    | some oi => (needs oi).all (fun e => decide (e < i)) && (List.range i).all fun j => (ms.getD i 0).testBit j || match ops[j]? with
      | none => true
      | some oj => swapM P (md j) oj (md i) oi && oj.apart ops oi

section
variable {P : Program} {w : World} {c : Ctx P} {S : Nat → Prop} {s : St} {a : Act} {ops : Array Oper} {E : Heap → Heap → Prop} {md : Nat → Md} {K : St → Prop} {Q : Exit → Act → World → Prop}

theorem okM_needs (h : okM P ops md = true) {i : Nat} {oi : Oper} (hi : ops[i]? = some oi) : ∀ e ∈ needs oi, e < i := by
  have h := List.all_eq_true.1 h i (List.mem_range.2 (Array.getElem?_eq_some_iff.1 hi).1)
  simp only [hi, Bool.and_eq_true] at h
  exact fun e he => by simpa using List.all_eq_true.1 h.1 e he

theorem okM_pair (h : okM P ops md = true) {i j : Nat} {oi oj : Oper} (hi : ops[i]? = some oi) (hj : ops[j]? = some oj) (hlt : j < i) : ((masks ops ops.size).getD i 0).testBit j = true ∨ (swapM P (md j) oj (md i) oi = true ∧ oj.apart ops oi = true) := by
  have h := List.all_eq_true.1 h i (List.mem_range.2 (Array.getElem?_eq_some_iff.1 hi).1)
  simp only [hi, Bool.and_eq_true] at h
  have h := List.all_eq_true.1 h.2 j (List.mem_range.2 hlt)
  simp only [hj, Bool.or_eq_true, Bool.and_eq_true] at h
  exact h

theorem regLM_mono {K K' : St → Prop} (hk : ∀ s, K s → K' s) : ∀ (l : List Nat) {s : St}, regLM P ops E md l K s → regLM P ops E md l K' s := by
  intro l
  induction l with
  | nil => exact fun h => hk _ h
  | cons i l ih => exact fun h => stepM_mono (fun s hs => ih hs) h

theorem stepM_fin {i : Nat} {s : St} (h : stepM P ops E md i K s) (hF : Fin s.H) : stepM P ops E md i (fun s' => Fin s'.H ∧ K s') s := by
  unfold stepM at h ⊢
  split
  · rename_i hi
    rw [hi] at h
    exact ⟨hF, h⟩
  · rename_i o hi
    rw [hi] at h
    exact gGm_mono _ _ _ _ (fun r H' hh hF' => ⟨by rw [St.put_H]; exact hF', hh hF'⟩) h

/-- One that may come first comes first. -/
theorem regLM_front (hE : Eqv E) {i : Nat} {oi : Oper} (hi : ops[i]? = some oi) : ∀ (pre post : List Nat) (s : St), Fin s.H → (∀ j ∈ pre, ∀ oj, ops[j]? = some oj → swapM P (md j) oj (md i) oi = true ∧ oj.apart ops oi = true) → (∀ j ∈ pre, ∃ oj, ops[j]? = some oj) →
    regLM P ops E md (pre ++ i :: post) K s → stepM P ops E md i (regLM P ops E md (pre ++ post) K) s := by
  intro pre
  induction pre with
  | nil => exact fun post s _ _ _ h => h
  | cons j pre ih =>
    intro post s hF hall hex h
    obtain ⟨oj, hj⟩ := hex j (by simp)
    obtain ⟨h1, h2⟩ := hall j (by simp) oj hj
    have h3 : stepM P ops E md j (stepM P ops E md i (regLM P ops E md (pre ++ post) K)) s := stepM_mono (fun s' hs => ih post s' hs.1 (fun k hk => hall k (by simp [hk])) (fun k hk => hex k (by simp [hk])) hs.2) (stepM_fin h hF)
    exact stepM_swap hi hj h2 h1 hE hF h3

theorem any_opsM (hE : Eqv E) {n : Nat} (hf : fitsAll n ops = true) (hok : okM P ops md = true) : ∀ (fuel : Nat) (L : List Nat) (listed : Array Bool) {s : St} {S : Nat → Prop} {a : Act} {w : World},
    listed.size = ops.size → L.Pairwise (· < ·) → (∀ i, i ∈ L ↔ i < ops.size ∧ listed.getD i true = false) → Closed ops (fun i => listed.getD i false = true) → L.length ≤ fuel →
    Rel c S s a w → s.n = n → regLM P ops E md L K s → (∀ s' S' a' w', K s' → Rel c S' s' a' w' → Q .normal a' w') → wpAny P .any ops Q fuel listed a w := by
  intro fuel
  induction fuel with
  | zero =>
    intro L listed s S a w hsz hL hm hc hl h hn hk hq
    obtain rfl : L = [] := List.length_eq_zero_iff.1 (by omega)
    refine ⟨?_, hq _ _ _ _ hk h⟩
    apply List.eq_nil_iff_forall_not_mem.2
    intro i hi
    obtain ⟨h1, o, h2, _⟩ := mem_ready.1 hi
    have := (hm i).2 ⟨(Array.getElem?_eq_some_iff.1 h2).1, h1⟩
    simp at this
  | succ fuel ih =>
    intro L listed s S a w hsz hL hm hc hl h hn hk hq
    refine ⟨fun hr => ?_, fun i hi => ?_⟩
    · cases L with
      | nil => exact hq _ _ _ _ hk h
      | cons i L =>
        exfalso
        obtain ⟨hlt, hun⟩ := (hm i).1 (by simp)
        have hi : ops[i]? = some ops[i] := Array.getElem?_eq_getElem hlt
        have : i ∈ Region.ready .any ops listed := mem_ready.2 ⟨hun, _, hi, fun e he hb => by
          have hei := okM_needs hok hi e.on (needs_mem.2 ⟨e, he, hb, rfl⟩)
          cases hq2 : listed.getD e.on true with
          | false =>
            have h3 := (hm e.on).2 ⟨by omega, hq2⟩
            rcases List.mem_cons.1 h3 with h3 | h3
            · omega
            · have := (List.pairwise_cons.1 hL).1 _ h3
              omega
          | true =>
            have hlt2 : e.on < listed.size := by omega
            simpa [hlt2] using hq2⟩
        rw [hr] at this
        cases this
    · obtain ⟨hun, oi, hoi, hall⟩ := mem_ready.1 hi
      have hlt := (Array.getElem?_eq_some_iff.1 hoi).1
      have hiL := (hm i).2 ⟨hlt, hun⟩
      obtain ⟨pre, post, rfl⟩ := List.append_of_mem hiL
      obtain ⟨p1, p2, p3⟩ := List.pairwise_append.1 hL
      obtain ⟨p4, p5⟩ := List.pairwise_cons.1 p2
      have hpre : ∀ j ∈ pre, j < i := fun j hj => p3 j hj i (by simp)
      have hnd : ∀ o, ops[i]? = some o → ∀ e ∈ needs o, listed.getD e false = true := fun o ho e he => by
        rw [hoi] at ho; cases ho
        obtain ⟨x, hx, hb, rfl⟩ := needs_mem.1 he
        exact hall x hx hb
      have hsw : ∀ j ∈ pre, ∀ oj, ops[j]? = some oj → swapM P (md j) oj (md i) oi = true ∧ oj.apart ops oi = true := fun j hj oj hoj => by
        rcases okM_pair hok hoi hoj (hpre j hj) with h1 | h1
        · exfalso
          have h2 := masks_dep hc _ _ hlt h1 hnd
          have h3 := ((hm j).1 (by simp [hj])).2
          have hltj : j < listed.size := by rw [hsz]; exact Nat.lt_trans (hpre j hj) hlt
          simp [hltj] at h2 h3
          rw [h2] at h3
          cases h3
        · exact h1
      have hfront := regLM_front hE hoi pre post s h.fin hsw (fun j hj => ⟨_, Array.getElem?_eq_getElem (Nat.lt_trans (hpre j hj) hlt)⟩) hk
      refine stepM_sound hE h (fun o ho => fitsAll_spec hf ho hn) hfront fun s' S' a' w' hn' hk' hr => ?_
      have hne : ∀ j ∈ pre ++ post, j ≠ i := fun j hj => by
        rcases List.mem_append.1 hj with hj | hj
        · exact Nat.ne_of_lt (hpre j hj)
        · exact Nat.ne_of_gt (p4 j hj)
      refine ih (pre ++ post) (listed.setIfInBounds i true) (by simpa using hsz) (List.pairwise_append.2 ⟨p1, p5, fun x hx y hy => p3 x hx y (by simp [hy])⟩) (fun j => ?_) (fun j o ho hj e he => ?_) (by simp at hl ⊢; omega) hr (hn'.trans hn) hk' hq
      · constructor
        · intro hj
          have hji := hne j hj
          have := (hm j).1 (by rcases List.mem_append.1 hj with h1 | h1 <;> simp [h1])
          rw [getD_set_ne true (Ne.symm hji)]
          exact this
        · rintro ⟨h1, h2⟩
          by_cases hji : i = j
          · subst hji
            simp [hsz, hlt] at h2
          · rw [getD_set_ne true hji] at h2
            have := (hm j).2 ⟨h1, h2⟩
            simp only [List.mem_append, List.mem_cons] at this ⊢
            rcases this with h3 | h3 | h3
            · exact .inl h3
            · exact absurd h3.symm hji
            · exact .inr h3
      · dsimp only at hj ⊢
        by_cases hji : i = j
        · subst hji
          exact getD_set_true (hnd o ho e he)
        · rw [getD_set_ne false hji] at hj
          exact getD_set_true (hc j o ho hj e he)
end

def regOM (P : Program) (ops : Array Oper) (E : Heap → Heap → Prop) (md : Nat → Md) (N : Nat) (K : List AV → Heap → Prop) : Nat → List Oper → List AV → Heap → Prop
  | _, [], rs, H => K rs H
  | i, o :: l, rs, H => match o.guard with
    | none => gM E P (md i) o.op (getL rs) H N (fun r H' => regOM P ops E md N K (i + 1) l (putL rs o.dst r) H')
    | some (g, want) => ∃ yb, yieldL ops rs g = some yb ∧ if yb = some want then gM E P (md i) o.op (getL rs) H N (fun r H' => regOM P ops E md N K (i + 1) l (putL rs o.dst r) H')
      else regOM P ops E md N K (i + 1) l (putL rs o.dst (.v undef)) H
theorem regUM_of {P : Program} {ops : Array Oper} {E : Heap → Heap → Prop} {md : Nat → Md} {N : Nat} {n : Nat} {K : St → Prop} (hf : fitsAll n ops = true) : ∀ (l : List Oper) (i : Nat) (rs : List AV) (H : Heap), (∀ j o, l[j]? = some o → ops[i + j]? = some o) → rs.length = n →
    regOM P ops E md N (fun rs H => K (stL N rs H)) i l rs H → regUM P ops E md (List.range' i l.length) K (stL N rs H) := by
  intro l
  induction l with
  | nil => exact fun i rs H _ _ h => h
  | cons o l ih =>
    intro i rs H hl hn h
    have hi : ops[i]? = some o := hl 0 o rfl
    have hput : ∀ r H', regOM P ops E md N (fun rs H => K (stL N rs H)) (i + 1) l (putL rs o.dst r) H' → (stL N rs H).out o.dst (regUM P ops E md (List.range' (i + 1) l.length) K) r H' := fun r H' hr => by
      have h1 := ih (i + 1) (putL rs o.dst r) H' (fun j o' hj => by rw [show i + 1 + j = i + (j + 1) by omega]; exact hl (j + 1) o' (by simpa using hj)) (by rw [← hn]; unfold putL; split <;> simp) hr
      have h2 := (stL_put (N := N) (rs := rs) (H := H') (d := o.dst) (x := r) (fun t ht => by
        have h3 := fitsAll_spec hf hi (s := stL N rs H') (by rw [← hn]; rfl)
        rw [ht] at h3
        exact h3)).resolve_right id
      unfold St.out
      rw [show ({ stL N rs H with H := H' } : St) = stL N rs H' from rfl, h2]
      exact h1
    simp only [List.length_cons, List.range'_succ]
    unfold regUM
    rw [hi]
    show gGm E P ops (md i) o (stL N rs H) H N _
    unfold gGm
    unfold regOM at h
    cases hg : o.guard with
    | none =>
      rw [hg] at h
      simp only [stL_get] at h ⊢
      exact gM_mono _ _ _ _ hput h
    | some gw =>
      obtain ⟨g, want⟩ := gw
      rw [hg] at h
      obtain ⟨yb, h1, h2⟩ := h
      refine ⟨yb, ?_, ?_⟩
      · rw [← h1]
        unfold yieldA yieldL
        rw [stL_get]
        rfl
      · by_cases hy : yb = some want
        · rw [if_pos hy] at h2 ⊢
          rw [stL_get]
          exact gM_mono _ _ _ _ hput h2
        · rw [if_neg hy] at h2 ⊢
          exact hput _ _ h2


section
variable {P : Program} {c : Ctx P} {N : Nat} {rs : List AV} {H : Heap} {Q : Exit → St → Prop}
theorem WP.regM {id : Nat} {ops : Array Oper} (hm : P.follows .mixedOrders = true) (E : Heap → Heap → Prop) (hE : Eqv E) (md : Nat → Md) (hf : fitsAll rs.length ops = true) (hok : okM P ops md = true) (h : ∀ K : List AV → Heap → Prop, (∀ rs H, Q .normal (stL N rs H) → K rs H) → regOM P ops E md N K 0 ops.toList rs H) : WP P c (.region id ops true) Q (stL N rs H) := fun S a w hr Q' hk =>
  wp_region_any hm (any_opsM hE (n := (stL N rs H).n) hf hok ops.size (List.range ops.size) _ (by simp) List.pairwise_lt_range (fun i => by
      simp only [List.mem_range]
      constructor
      · exact fun h => ⟨h, by simp [h]⟩
      · exact fun h => h.1) (fun i o ho hi => by
      have hlt := (Array.getElem?_eq_some_iff.1 ho).1
      simp [hlt] at hi) (by simp) (hr.heap rfl ⟨rfl, rfl, rfl⟩) rfl (regLM_of (K := Q .normal) (by
        rw [List.range_eq_range']
        have := regUM_of (P := P) (E := E) (md := md) (N := N) (K := Q .normal) hf ops.toList 0 rs H (fun j o hj => by rw [Nat.zero_add]; simpa using hj) rfl (h _ fun _ _ h => h)
        simpa using this)) fun s' S' a' w' h1 h2 => hk _ _ _ _ _ h1 h2)
end
end Go.AF
