import Derived.Test.YtmpopmdimofnbaaDoorAF13
/-! The order is open. -/
namespace Go.AF
set_option linter.unusedVariables false
set_option linter.unusedSimpArgs false
open Go

def needs (o : Oper) : List Nat := (o.after.toList.filter (Region.binds .any)).map (·.on)
def maskOf (ms : List Nat) (l : List Nat) : Nat := l.foldl (fun acc e => acc ||| 2 ^ e ||| ms.getD e 0) 0
def masks (ops : Array Oper) : Nat → List Nat
  | 0 => []
  | k + 1 => masks ops k ++ [match ops[k]? with
    | some o => maskOf (masks ops k) (needs o)
    | none => 0]

def Closed (ops : Array Oper) (p : Nat → Prop) : Prop := ∀ i o, ops[i]? = some o → p i → ∀ e ∈ needs o, p e

theorem maskOf_bit {ms : List Nat} {j : Nat} : ∀ (l : List Nat) (acc : Nat), (l.foldl (fun acc e => acc ||| 2 ^ e ||| ms.getD e 0) acc).testBit j = true → acc.testBit j = true ∨ ∃ e ∈ l, e = j ∨ (ms.getD e 0).testBit j = true := by
  intro l
  induction l with
  | nil => exact fun acc h => .inl h
  | cons e l ih =>
    intro acc h
    rcases ih _ h with h1 | ⟨e', he, h1⟩
    · rw [Nat.testBit_or, Nat.testBit_or, Nat.testBit_two_pow] at h1
      simp only [Bool.or_eq_true, decide_eq_true_eq] at h1
      rcases h1 with (h1 | h1) | h1
      · exact .inl h1
      · exact .inr ⟨e, by simp, .inl h1⟩
      · exact .inr ⟨e, by simp, .inr h1⟩
    · exact .inr ⟨e', by simp [he], h1⟩

theorem masks_length (ops : Array Oper) (k : Nat) : (masks ops k).length = k := by
  induction k with
  | zero => rfl
  | succ k ih => simp [masks, ih]

theorem masks_dep {ops : Array Oper} {p : Nat → Prop} (hp : Closed ops p) {j : Nat} : ∀ (k i : Nat), i < k → ((masks ops k).getD i 0).testBit j = true → (∀ o, ops[i]? = some o → ∀ e ∈ needs o, p e) → p j := by
  intro k
  induction k with
  | zero => intro i hi; omega
  | succ k ih =>
    intro i hi hb hd
    simp only [masks, List.getD_eq_getElem?_getD] at hb
    by_cases hlt : i < k
    · rw [List.getElem?_append_left (by rw [masks_length]; exact hlt)] at hb
      exact ih i hlt (by rw [List.getD_eq_getElem?_getD]; exact hb) hd
    · have : i = k := by omega
      subst this
      rw [List.getElem?_append_right (by rw [masks_length]; omega), masks_length, Nat.sub_self] at hb
      simp only [List.getElem?_cons_zero, Option.getD_some] at hb
      split at hb
      · rename_i o ho
        rcases maskOf_bit _ _ hb with h1 | ⟨e, he, rfl | h1⟩
        · simp at h1
        · exact hd o ho _ he
        · have hpe := hd o ho e he
          have hek : e < i := by
            rcases Nat.lt_or_ge e i with h2 | h2
            · exact h2
            · rw [List.getD_eq_getElem?_getD, List.getElem?_eq_none (by rw [masks_length]; exact h2)] at h1
              simp at h1
          exact ih e hek h1 fun o' ho' e' he' => hp e o' ho' hpe e' he'
      · simp at hb

/-- Any order does what the order of the text does. -/
def okB (P : Program) (ops : Array Oper) (str : Nat → Bool) : Bool :=
  let ms := masks ops ops.size
  (List.range ops.size).all fun i => match ops[i]? with
    | none => true
    | some oi => (needs oi).all (fun e => decide (e < i)) && (List.range i).all fun j => (ms.getD i 0).testBit j || match ops[j]? with
      | none => true
      | some oj => swapB (clsIn P (str j) oj) (clsIn P (str i) oi) && oj.apart ops oi

section
variable {P : Program} {w : World} {c : Ctx P} {S : Nat → Prop} {s : St} {a : Act} {ops : Array Oper} {str : Nat → Bool} {K : St → Prop} {Q : Exit → Act → World → Prop}

theorem okB_needs (h : okB P ops str = true) {i : Nat} {oi : Oper} (hi : ops[i]? = some oi) : ∀ e ∈ needs oi, e < i := by
  have h := List.all_eq_true.1 h i (List.mem_range.2 (Array.getElem?_eq_some_iff.1 hi).1)
  simp only [hi, Bool.and_eq_true] at h
  exact fun e he => by simpa using List.all_eq_true.1 h.1 e he

theorem okB_pair (h : okB P ops str = true) {i j : Nat} {oi oj : Oper} (hi : ops[i]? = some oi) (hj : ops[j]? = some oj) (hlt : j < i) : ((masks ops ops.size).getD i 0).testBit j = true ∨ (swapB (clsIn P (str j) oj) (clsIn P (str i) oi) = true ∧ oj.apart ops oi = true) := by
  have h := List.all_eq_true.1 h i (List.mem_range.2 (Array.getElem?_eq_some_iff.1 hi).1)
  simp only [hi, Bool.and_eq_true] at h
  have h := List.all_eq_true.1 h.2 j (List.mem_range.2 hlt)
  simp only [hj, Bool.or_eq_true, Bool.and_eq_true] at h
  exact h

theorem regL_mono {K K' : St → Prop} (hk : ∀ s, K s → K' s) : ∀ (l : List Nat) {s : St}, regL P ops str l K s → regL P ops str l K' s := by
  intro l
  induction l with
  | nil => exact fun h => hk _ h
  | cons i l ih => exact fun h => stepA_mono (fun s hs => ih hs) h

theorem stepA_fin {i : Nat} {s : St} (h : stepA P ops str i K s) (hF : Fin s.H) : stepA P ops str i (fun s' => Fin s'.H ∧ K s') s := by
  unfold stepA at h ⊢
  split
  · rename_i hi
    rw [hi] at h
    exact ⟨hF, h⟩
  · rename_i o hi
    rw [hi] at h
    exact gG_mono _ _ _ _ (fun r H' hh hF' => ⟨by rw [St.put_H]; exact hF', hh hF'⟩) h

/-- One that may come first comes first. -/
theorem regL_front {i : Nat} {oi : Oper} (hi : ops[i]? = some oi) : ∀ (pre post : List Nat) (s : St), Fin s.H → (∀ j ∈ pre, ∀ oj, ops[j]? = some oj → swapB (clsIn P (str j) oj) (clsIn P (str i) oi) = true ∧ oj.apart ops oi = true) → (∀ j ∈ pre, ∃ oj, ops[j]? = some oj) →
    regL P ops str (pre ++ i :: post) K s → stepA P ops str i (regL P ops str (pre ++ post) K) s := by
  intro pre
  induction pre with
  | nil => exact fun post s _ _ _ h => h
  | cons j pre ih =>
    intro post s hF hall hex h
    obtain ⟨oj, hj⟩ := hex j (by simp)
    obtain ⟨h1, h2⟩ := hall j (by simp) oj hj
    have h3 : stepA P ops str j (stepA P ops str i (regL P ops str (pre ++ post) K)) s := stepA_mono (fun s' hs => ih post s' hs.1 (fun k hk => hall k (by simp [hk])) (fun k hk => hex k (by simp [hk])) hs.2) (stepA_fin h hF)
    exact stepA_swap hi hj h2 h1 hF h3

theorem needs_mem {o : Oper} {e : Nat} : e ∈ needs o ↔ ∃ x ∈ o.after, Region.binds .any x = true ∧ x.on = e := by
  simp [needs, and_assoc]

theorem any_ops {n : Nat} (hf : fitsAll n ops = true) (hok : okB P ops str = true) : ∀ (fuel : Nat) (L : List Nat) (listed : Array Bool) {s : St} {S : Nat → Prop} {a : Act} {w : World},
    listed.size = ops.size → L.Pairwise (· < ·) → (∀ i, i ∈ L ↔ i < ops.size ∧ listed.getD i true = false) → Closed ops (fun i => listed.getD i false = true) → L.length ≤ fuel →
    Rel c S s a w → s.n = n → regL P ops str L K s → (∀ s' S' a' w', K s' → Rel c S' s' a' w' → Q .normal a' w') → wpAny P .any ops Q fuel listed a w := by
  intro fuel
  induction fuel with
  | zero =>
    intro L listed s S a w hsz hL hm hc hl h hn hk hq
    obtain rfl : L = [] := List.length_eq_zero_iff.1 (by omega)
    refine ⟨?_, hq _ _ _ _ hk h⟩
    apply List.eq_nil_iff_forall_not_mem.2
    intro i hi
    obtain ⟨h1, o, h2, _⟩ := mem_ready.1 hi
    have := (hm i).2 ⟨(Array.getElem?_eq_some_iff.1 h2).1, h1⟩
    simp at this
  | succ fuel ih =>
    intro L listed s S a w hsz hL hm hc hl h hn hk hq
    refine ⟨fun hr => ?_, fun i hi => ?_⟩
    · cases L with
      | nil => exact hq _ _ _ _ hk h
      | cons i L =>
        exfalso
        obtain ⟨hlt, hun⟩ := (hm i).1 (by simp)
        have hi : ops[i]? = some ops[i] := Array.getElem?_eq_getElem hlt
        have : i ∈ Region.ready .any ops listed := mem_ready.2 ⟨hun, _, hi, fun e he hb => by
          have hei := okB_needs hok hi e.on (needs_mem.2 ⟨e, he, hb, rfl⟩)
          cases hq2 : listed.getD e.on true with
          | false =>
            have h3 := (hm e.on).2 ⟨by omega, hq2⟩
            rcases List.mem_cons.1 h3 with h3 | h3
            · omega
            · have := (List.pairwise_cons.1 hL).1 _ h3
              omega
          | true =>
            have hlt2 : e.on < listed.size := by omega
            simpa [hlt2] using hq2⟩
        rw [hr] at this
        cases this
    · obtain ⟨hun, oi, hoi, hall⟩ := mem_ready.1 hi
      have hlt := (Array.getElem?_eq_some_iff.1 hoi).1
      have hiL := (hm i).2 ⟨hlt, hun⟩
      obtain ⟨pre, post, rfl⟩ := List.append_of_mem hiL
      obtain ⟨p1, p2, p3⟩ := List.pairwise_append.1 hL
      obtain ⟨p4, p5⟩ := List.pairwise_cons.1 p2
      have hpre : ∀ j ∈ pre, j < i := fun j hj => p3 j hj i (by simp)
      have hnd : ∀ o, ops[i]? = some o → ∀ e ∈ needs o, listed.getD e false = true := fun o ho e he => by
        rw [hoi] at ho; cases ho
        obtain ⟨x, hx, hb, rfl⟩ := needs_mem.1 he
        exact hall x hx hb
      have hsw : ∀ j ∈ pre, ∀ oj, ops[j]? = some oj → swapB (clsIn P (str j) oj) (clsIn P (str i) oi) = true ∧ oj.apart ops oi = true := fun j hj oj hoj => by
        rcases okB_pair hok hoi hoj (hpre j hj) with h1 | h1
        · exfalso
          have h2 := masks_dep hc _ _ hlt h1 hnd
          have h3 := ((hm j).1 (by simp [hj])).2
          have hltj : j < listed.size := by rw [hsz]; exact Nat.lt_trans (hpre j hj) hlt
          simp [hltj] at h2 h3
          rw [h2] at h3
          cases h3
        · exact h1
      have hfront := regL_front hoi pre post s h.fin hsw (fun j hj => ⟨_, Array.getElem?_eq_getElem (Nat.lt_trans (hpre j hj) hlt)⟩) hk
      refine stepA_sound h (fun o ho => fitsAll_spec hf ho hn) hfront fun s' S' a' w' hn' hk' hr => ?_
      have hne : ∀ j ∈ pre ++ post, j ≠ i := fun j hj => by
        rcases List.mem_append.1 hj with hj | hj
        · exact Nat.ne_of_lt (hpre j hj)
        · exact Nat.ne_of_gt (p4 j hj)
      refine ih (pre ++ post) (listed.setIfInBounds i true) (by simpa using hsz) (List.pairwise_append.2 ⟨p1, p5, fun x hx y hy => p3 x hx y (by simp [hy])⟩) (fun j => ?_) (fun j o ho hj e he => ?_) (by simp at hl ⊢; omega) hr (hn'.trans hn) hk' hq
      · constructor
        · intro hj
          have hji := hne j hj
          have := (hm j).1 (by rcases List.mem_append.1 hj with h1 | h1 <;> simp [h1])
          rw [getD_set_ne true (Ne.symm hji)]
          exact this
        · rintro ⟨h1, h2⟩
          by_cases hji : i = j
          · subst hji
            simp [hsz, hlt] at h2
          · rw [getD_set_ne true hji] at h2
            have := (hm j).2 ⟨h1, h2⟩
            simp only [List.mem_append, List.mem_cons] at this ⊢
            rcases this with h3 | h3 | h3
            · exact .inl h3
            · exact absurd h3.symm hji
            · exact .inr h3
      · dsimp only at hj ⊢
        by_cases hji : i = j
        · subst hji
          exact getD_set_true (hnd o ho e he)
        · rw [getD_set_ne false hji] at hj
          exact getD_set_true (hc j o ho hj e he)
end
end Go.AF
