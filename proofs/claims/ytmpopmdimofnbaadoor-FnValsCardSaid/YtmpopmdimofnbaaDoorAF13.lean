import Derived.Test.YtmpopmdimofnbaaDoorAF12
/-! Regions. -/
namespace Go.AF
set_option linter.unusedVariables false
set_option linter.unusedSimpArgs false
open Go

/-- What the guard's operation gave, if it is known. -/
def yieldA (ops : Array Oper) (s : St) (g : Nat) : Option (Option Bool) :=
  match (ops[g]?).bind (·.dst) with
  | none => some none
  | some d => match s.get (.tmp d) with
    | .v (.bool b) => some (some b)
    | .v (.tuple _) => some none
    | _ => none

/-- One operation of a region, with its guard. -/
def gG (P : Program) (ops : Array Oper) (str : Bool) (o : Oper) (s : St) : F :=
  match o.guard with
  | none => if str then gS P o.op s.get else gA P o.op s.get
  | some (g, want) => fun H N K => ∃ yb, yieldA ops s g = some yb ∧ if yb = some want then (if str then gS P o.op s.get H N K else gA P o.op s.get H N K) else K (.v undef) H

theorem gG_mono {P : Program} {ops : Array Oper} {str : Bool} {o : Oper} {s : St} : Mono (gG P ops str o s) := by
  unfold gG
  split
  · cases str
    · exact gA_mono
    · exact gS_mono
  · intro H N K K' hk hf
    obtain ⟨yb, h1, h2⟩ := hf
    refine ⟨yb, h1, ?_⟩
    split at h2
    · rename_i h
      rw [if_pos h]
      cases str
      · exact gA_mono _ _ _ _ hk h2
      · exact gS_mono _ _ _ _ hk h2
    · rename_i h
      rw [if_neg h]
      exact hk _ _ h2

theorem gG_cls {P : Program} {ops : Array Oper} {o : Oper} {s : St} : (clsOf P o.op).is (gG P ops true o s) ∨ IsV (gG P ops true o s) := by
  unfold gG
  split
  · exact .inl (is_gS P o.op s.get)
  · rename_i g want hg
    cases hy : yieldA ops s g with
    | none => exact .inr fun H N K ⟨yb, h1, _⟩ => by cases h1
    | some yb =>
      by_cases h : yb = some want
      · left
        have e : (fun H N K => ∃ yb', some yb = some yb' ∧ if yb' = some want then (if true = true then gS P o.op s.get H N K else gA P o.op s.get H N K) else K (.v undef) H : F) = gS P o.op s.get := by
          funext H N K
          apply propext
          constructor
          · rintro ⟨yb', h1, h2⟩
            cases h1
            simpa [h] using h2
          · exact fun h2 => ⟨yb, rfl, by simpa [h] using h2⟩
        rw [e]
        exact is_gS P o.op s.get
      · right
        refine IsV.of (g := fun K => K (.v undef)) (fun H N K => ?_) (Det.one _)
        constructor
        · rintro ⟨yb', h1, h2⟩
          cases h1
          simpa [h] using h2
        · exact fun h2 => ⟨yb, rfl, by simpa [h] using h2⟩

theorem gG_str {P : Program} {ops : Array Oper} {o : Oper} {s : St} {H : Heap} {N : Nat} {K : AV → Heap → Prop} (h : gG P ops true o s H N K) : gG P ops false o s H N K := by
  unfold gG at h ⊢
  cases hg : o.guard with
  | none =>
    rw [hg] at h
    exact gS_gA h
  | some gw =>
    obtain ⟨g, want⟩ := gw
    rw [hg] at h
    obtain ⟨yb, h1, h2⟩ := h
    refine ⟨yb, h1, ?_⟩
    by_cases hy : yb = some want
    · rw [if_pos hy] at h2 ⊢
      exact gS_gA h2
    · rw [if_neg hy] at h2 ⊢
      exact h2

def stepA (P : Program) (ops : Array Oper) (str : Nat → Bool) (i : Nat) (K : St → Prop) (s : St) : Prop :=
  match ops[i]? with
  | none => K s
  | some o => gG P ops (str i) o s s.H s.N (fun r H' => Fin H' → K ({ s with H := H' }.put o.dst r))

def regL (P : Program) (ops : Array Oper) (str : Nat → Bool) : List Nat → (St → Prop) → St → Prop
  | [], K, s => K s
  | i :: l, K, s => stepA P ops str i (regL P ops str l K) s

/-- The region, as it is told. -/
def regU (P : Program) (ops : Array Oper) (str : Nat → Bool) : List Nat → (St → Prop) → St → Prop
  | [], K, s => K s
  | i :: l, K, s => match ops[i]? with
    | none => regU P ops str l K s
    | some o => gG P ops (str i) o s s.H s.N (s.out o.dst (regU P ops str l K))

theorem regL_of {P : Program} {ops : Array Oper} {str : Nat → Bool} {K : St → Prop} : ∀ {l : List Nat} {s : St}, regU P ops str l K s → regL P ops str l K s := by
  intro l
  induction l with
  | nil => exact fun h => h
  | cons i l ih =>
    intro s h
    unfold regU at h
    unfold regL stepA
    split
    · rename_i hi
      rw [hi] at h
      exact ih h
    · rename_i o hi
      rw [hi] at h
      exact gG_mono _ _ _ _ (fun r H' hk _ => ih hk) h

theorem stepA_mono {P : Program} {ops : Array Oper} {str : Nat → Bool} {i : Nat} {K K' : St → Prop} (hk : ∀ s, K s → K' s) {s : St} (h : stepA P ops str i K s) : stepA P ops str i K' s := by
  unfold stepA at h ⊢
  split
  · rename_i hi
    rw [hi] at h
    exact hk _ h
  · rename_i o hi
    rw [hi] at h
    exact gG_mono _ _ _ _ (fun r H' h2 hF => hk _ (h2 hF)) h

def fitsAll (n : Nat) (ops : Array Oper) : Bool := ops.toList.all fun o => match o.dst with | some d => decide (d < n) | none => true
theorem fitsAll_spec {n : Nat} {ops : Array Oper} (h : fitsAll n ops = true) {i : Nat} {o : Oper} (hi : ops[i]? = some o) {s : St} (hn : s.n = n) : s.fits o.dst := by
  have h := List.all_eq_true.1 h o (Array.mem_toList_iff.2 (Array.mem_of_getElem? hi))
  unfold St.fits
  cases hd : o.dst with
  | none => trivial
  | some d => rw [hd] at h; simpa [hn] using h

section
variable {P : Program} {w : World} {c : Ctx P} {S : Nat → Prop} {s : St} {a : Act} {ops : Array Oper} {str : Nat → Bool} {K : St → Prop} {Q : Exit → Act → World → Prop}

theorem Rel.fin (h : Rel c S s a w) : Fin s.H := ⟨w.heap.size, fun b hb => by
  cases hq : s.H b with
  | none => rfl
  | some k => exact absurd (h.ok.blk b k hq).lt (by omega)⟩

theorem wanted_of {o : Oper} (h : Rel c S s a w) : match o.guard with
    | none => Region.wanted o (yielded ops a.tmps) = true
    | some (g, want) => ∀ yb, yieldA ops s g = some yb → Region.wanted o (yielded ops a.tmps) = decide (yb = some want) := by
  split
  · rename_i hg
    simp [Region.wanted, hg]
  · rename_i g want hg
    intro yb hy
    simp only [Region.wanted, hg]
    have : yielded ops a.tmps g = yb := by
      unfold yieldA at hy
      unfold yielded
      cases hd : (ops[g]?).bind (·.dst) with
      | none => rw [hd] at hy; simpa using hy
      | some d =>
        rw [hd] at hy
        have hx := h.get (.tmp d)
        have hlt : d < s.n := by
          rcases Nat.lt_or_ge d s.n with h1 | h1
          · exact h1
          · simp [St.get, Nat.not_lt.2 h1] at hy
        have e : a.tmps[d]? = some (a.eval (.tmp d)) := by
          simp [Act.eval, h.size, hlt]
        simp only [Option.bind_some, e]
        dsimp only at hy
        split at hy
        · rename_i b hb
          rw [hb] at hx
          rw [rep_v hx]
          simpa using hy
        · rename_i b hb
          rw [hb] at hx
          rw [rep_v hx]
          simpa using hy
        · cases hy
    rw [this]
    cases yb with
    | none => simp
    | some b => cases b <;> cases want <;> rfl

theorem stepA_sound {i : Nat} {next : Act → World → Prop} (h : Rel c S s a w) (hfit : ∀ o, ops[i]? = some o → s.fits o.dst) (hk : stepA P ops str i K s)
    (hn : ∀ s' S' a' w', s'.n = s.n → K s' → Rel c S' s' a' w' → next a' w') : wpOp P ops Q i next a w := by
  unfold stepA at hk
  unfold wpOp
  split
  · rename_i hi
    rw [hi] at hk
    exact hn _ _ _ _ rfl hk h
  · rename_i o hi
    rw [hi] at hk
    dsimp only at hk
    have hk : gG P ops false o s s.H s.N (fun r H' => Fin H' → K ({ s with H := H' }.put o.dst r)) := by
      cases hs : str i
      · rw [hs] at hk; exact hk
      · rw [hs] at hk; exact gG_str hk
    have hw := wanted_of (ops := ops) (o := o) h
    have hop : gA P o.op s.get s.H s.N (fun r H' => Fin H' → K ({ s with H := H' }.put o.dst r)) → o.wp P a w next Q := fun hg =>
      opA_sound (K := fun s' => s'.n = s.n ∧ (Fin s'.H → K s')) h ⟨hfit o hi, gA_mono _ _ _ _ (fun r H' hq => ⟨by rw [St.put_n], fun hF => hq (by rw [St.put_H] at hF; exact hF)⟩) hg⟩
        fun s' S' a' w' hq hr => hn s' S' a' w' hq.1 (hq.2 hr.fin) hr
    unfold gG at hk
    cases hg : o.guard with
    | none =>
      rw [hg] at hw hk
      rw [if_pos hw]
      exact .inl (hop hk)
    | some gw =>
      obtain ⟨g, want⟩ := gw
      rw [hg] at hw hk
      obtain ⟨yb, h1, h2⟩ := hk
      have hw := hw yb h1
      by_cases hy : yb = some want
      · rw [if_pos hy] at h2
        rw [if_pos (by simp [hw, hy])]
        exact .inl (hop h2)
      · rw [if_neg hy] at h2
        rw [if_neg (by simp [hw, hy])]
        refine hn _ S _ _ (by rw [St.put_n]) (h2 h.fin) (h.put (hfit o hi) (.v _))

theorem regL_ops {n : Nat} (hf : fitsAll n ops = true) : ∀ (l : List Nat) {s : St} {S : Nat → Prop} {a : Act} {w : World}, Rel c S s a w → s.n = n → regL P ops str l K s → (∀ s' S' a' w', K s' → Rel c S' s' a' w' → Q .normal a' w') → wpOps P ops Q l a w := by
  intro l
  induction l with
  | nil => exact fun h _ hk hq => hq _ _ _ _ hk h
  | cons i l ih =>
    intro s S a w h hn hk hq
    rw [wpOps_cons]
    exact stepA_sound h (fun o hi => fitsAll_spec hf hi hn) hk fun s' S' a' w' hn' hk' hr => ih hr (hn'.trans hn) hk' hq
end

theorem get_put {s : St} {H : Heap} {d : Option Tmp} {r : AV} {x : Operand} (h : ∀ t, d = some t → x ≠ .tmp t) : ({ s with H := H }.put d r).get x = s.get x := by
  cases d with
  | none => cases x <;> rfl
  | some d =>
    cases x with
    | tmp t =>
      have hne : t ≠ d := fun e => h d rfl (e ▸ rfl)
      simp [St.get, St.put, hne]
    | _ => rfl

theorem gG_put {P : Program} {ops : Array Oper} {str : Bool} {o : Oper} {s : St} {H : Heap} {d : Option Tmp} {r : AV} (h : ∀ t, d = some t → t ∉ o.looksAt ops) : gG P ops str o ({ s with H := H }.put d r) = gG P ops str o s := by
  have hx : ∀ x ∈ o.op.operands, ({ s with H := H }.put d r).get x = s.get x := fun x hx => get_put fun t ht e => h t ht (by
    subst e
    exact List.mem_append_left _ (List.mem_filterMap.2 ⟨.tmp t, by simpa using hx, rfl⟩))
  have h0 : gA P o.op ({ s with H := H }.put d r).get = gA P o.op s.get := gA_congr hx
  have h1 : gS P o.op ({ s with H := H }.put d r).get = gS P o.op s.get := gS_congr hx
  unfold gG
  cases hg : o.guard with
  | none => simp only [h0, h1]
  | some gw =>
    obtain ⟨g, want⟩ := gw
    have h2 : yieldA ops ({ s with H := H }.put d r) g = yieldA ops s g := by
      unfold yieldA
      split
      · rfl
      · rename_i t ht
        rw [get_put fun t' ht' e => h t' ht' (by
          cases e
          simp [Oper.looksAt, hg, ht])]
    simp only [h0, h1, h2]

theorem put_put {s : St} {H H' : Heap} {d e : Option Tmp} {x y : AV} (h : ∀ t, d = some t → e ≠ some t) : ({ ({ s with H := H }.put d x) with H := H' } : St).put e y = ({ ({ s with H := H' }.put e y) with H := H' } : St).put d x := by
  cases d with
  | none => cases e <;> rfl
  | some d =>
    cases e with
    | none => rfl
    | some e =>
      have hne : e ≠ d := fun he => h d rfl (he ▸ rfl)
      simp only [St.put, St.mk.injEq, true_and, and_true]
      funext i
      split
      · rename_i h1
        subst h1
        simp [hne]
      · rfl

theorem St.put_heap {s : St} {H H' : Heap} {d : Option Tmp} {x : AV} : ({ ({ s with H := H }.put d x) with H := H' } : St) = { s with H := H' }.put d x := by cases d <;> rfl

def clsIn (P : Program) (str : Bool) (o : Oper) : Cls := if str then clsOf P o.op else .D
theorem clsIn_is {P : Program} {ops : Array Oper} {str : Bool} {o : Oper} {s : St} : (clsIn P str o).is (gG P ops str o s) ∨ IsV (gG P ops str o s) := by
  cases str
  · exact .inl trivial
  · exact gG_cls

/-- Two operations change places. -/
theorem stepA_swap {P : Program} {ops : Array Oper} {str : Nat → Bool} {i j : Nat} {oi oj : Oper} {K : St → Prop} {s : St} (hi : ops[i]? = some oi) (hj : ops[j]? = some oj) (hap : oj.apart ops oi = true) (hsw : swapB (clsIn P (str j) oj) (clsIn P (str i) oi) = true) (hF : Fin s.H)
    (h : stepA P ops str j (stepA P ops str i K) s) : stepA P ops str i (stepA P ops str j K) s := by
  obtain ⟨h1, h2, h3⟩ := Oper.apart_spec hap
  unfold stepA at h ⊢
  simp only [hi, hj] at h ⊢
  have e1 : ∀ r H, ({ s with H := H }.put oj.dst r).H = H := fun r H => by rw [St.put_H]
  have e2 : ∀ r H, ({ s with H := H }.put oj.dst r).N = s.N := fun r H => by rw [St.put_N]
  have e3 : ∀ r H, ({ s with H := H }.put oi.dst r).H = H := fun r H => by rw [St.put_H]
  have e4 : ∀ r H, ({ s with H := H }.put oi.dst r).N = s.N := fun r H => by rw [St.put_N]
  simp only [e1, e2, e3, e4, gG_put h1] at h ⊢
  have key := swap_of gG_mono gG_mono (clsIn_is (P := P) (ops := ops) (str := str j) (o := oj) (s := s)) (clsIn_is (P := P) (ops := ops) (str := str i) (o := oi) (s := s)) hsw s.H s.N
    (fun r1 r2 H => K ({ ({ s with H := H }.put oj.dst r1) with H := H }.put oi.dst r2)) hF
    (gG_mono _ _ _ _ (fun r1 H1 hh hF1 => gG_mono _ _ _ _ (fun r2 H2 hh2 hF2 => by
      refine cast (congrArg K ?_) (hh2 hF2)
      cases oj.dst <;> rfl) (hh hF1)) h)
  refine gG_mono _ _ _ _ (fun r2 H2 hh hF2 => ?_) key
  have hh := hh hF2
  rw [gG_put h3]
  refine gG_mono _ _ _ _ (fun r1 H1 hh hF1 => ?_) hh
  refine cast (congrArg K ?_) (hh hF1)
  rw [put_put h2]
  cases oi.dst <;> rfl
end Go.AF
