import Derived.Test.YtmpopmdimofnbaaDoorAF14
/-! Code, as it is told. -/
namespace Go.AF
set_option linter.unusedVariables false
set_option linter.unusedSimpArgs false
open Go

/-- From here the code ends as Q says. -/
def WP (P : Program) (c : Ctx P) (code : Code) (Q : Exit → St → Prop) (s : St) : Prop :=
  ∀ S a w, Rel c S s a w → ∀ Q' : Exit → Act → World → Prop, (∀ e s' S' a' w', Q e s' → Rel c S' s' a' w' → Q' e a' w') → code.wp P Q' a w

def thenA (K : St → Prop) (Q : Exit → St → Prop) : Exit → St → Prop
  | .normal, s => K s
  | e, s => Q e s
def inBlockA (id : Nat) (Q : Exit → St → Prop) : Exit → St → Prop
  | .exit id', s => if id' = id then Q .normal s else Q (.exit id') s
  | e, s => Q e s

section
variable {P : Program} {c : Ctx P} {s : St} {Q : Exit → St → Prop}

theorem WP.mono {code : Code} {Q' : Exit → St → Prop} (h : WP P c code Q s) (hq : ∀ e s, Q e s → Q' e s) : WP P c code Q' s :=
  fun S a w hr Q'' hk => h S a w hr Q'' fun e s' S' a' w' h1 h2 => hk e s' S' a' w' (hq _ _ h1) h2

theorem WP.skip (h : Q .normal s) : WP P c .skip Q s := fun S a w hr Q' hk => wp_skip (hk _ _ _ _ _ h hr)
theorem WP.label {l : Nat} (h : Q .normal s) : WP P c (.label l) Q s := fun S a w hr Q' hk => wp_label (hk _ _ _ _ _ h hr)
theorem WP.exit {id : Nat} (h : Q (.exit id) s) : WP P c (.exit id) Q s := fun S a w hr Q' hk => wp_exit (hk _ _ _ _ _ h hr)
theorem WP.ret (h : Q .ret s) : WP P c .ret Q s := fun S a w hr Q' hk => wp_ret (hk _ _ _ _ _ h hr)

theorem WP.seq {x y : Code} (h : WP P c x (thenA (WP P c y Q) Q) s) : WP P c (.seq x y) Q s := fun S a w hr Q' hk =>
  wp_seq (h S a w hr _ fun e s' S' a' w' h1 h2 => by
    cases e <;> first
      | exact h1 S' a' w' h2 Q' hk
      | exact hk _ _ _ _ _ h1 h2)

theorem WP.cond {x : Operand} {t e : Code} {b : Bool} (hb : s.get x = .v (.bool b)) (h : WP P c (if b then t else e) Q s) : WP P c (.cond x t e) Q s := fun S a w hr Q' hk =>
  wp_cond (t := b) (rep_v (hb ▸ hr.get x)) (by cases b <;> exact h S a w hr Q' hk)

theorem WP.condP {x : Operand} {t e : Code} {p : Prop} [Decidable p] (hb : s.get x = .v (.bool (decide p))) (h1 : p → WP P c t Q s) (h2 : ¬ p → WP P c e Q s) : WP P c (.cond x t e) Q s := by
  refine WP.cond hb ?_
  by_cases h : p
  · simp only [h, decide_true, if_true]; exact h1 h
  · simp only [h, decide_false]; exact h2 h

theorem WP.block {id : Nat} {x : Code} (h : WP P c x (inBlockA id Q) s) : WP P c (.block id x) Q s := fun S a w hr Q' hk =>
  wp_block (h S a w hr _ fun e s' S' a' w' h1 h2 => by
    cases e with
    | exit id' =>
      simp only [inBlockA] at h1
      simp only [Exit.inBlock]
      split
      · rename_i he; rw [if_pos he] at h1; exact hk _ _ _ _ _ h1 h2
      · rename_i he; rw [if_neg he] at h1; exact hk _ _ _ _ _ h1 h2
    | _ => exact hk _ _ _ _ _ h1 h2)

theorem least {p : Nat → Prop} (h : ∃ n, p n) : ∃ n, p n ∧ ∀ m, p m → n ≤ m := by
  obtain ⟨n, hn⟩ := h
  induction n using Nat.strongRecOn with
  | _ n ih =>
    by_cases hex : ∃ m, m < n ∧ p m
    · obtain ⟨m, hm, hp⟩ := hex
      exact ih m hm hp
    · exact ⟨n, hn, fun m hm => Nat.le_of_not_lt fun hlt => hex ⟨m, hlt, hm⟩⟩

open Classical in
theorem WP.loop {x : Code} (I : Nat → St → Prop) {n : Nat} (h0 : I n s) (round : ∀ n s, I n s → WP P c x (thenA (fun s' => ∃ n' s'', n' < n ∧ (∀ S a w, Rel c S s' a w → ∃ S', Rel c S' s'' a w) ∧ I n' s'') Q) s) : WP P c (.loop x) Q s := fun S a w hr Q' hk => by
  let J : Nat → Act → World → Prop := fun n a w => ∃ s S, I n s ∧ Rel c S s a w
  let μ : Act → World → Nat := fun a w => if h : ∃ n, J n a w then Classical.choose (least h) else 0
  have hμ : ∀ a w n, J n a w → J (μ a w) a w ∧ μ a w ≤ n := fun a w n hn => by
    have hex : ∃ n, J n a w := ⟨n, hn⟩
    simp only [μ, dif_pos hex]
    exact ⟨(Classical.choose_spec (least hex)).1, (Classical.choose_spec (least hex)).2 n hn⟩
  refine wp_loop (fun a w => ∃ n, J n a w) μ ⟨n, s, S, h0, hr⟩ fun a w ⟨n, hn⟩ => ?_
  obtain ⟨⟨s1, S1, hI, hr1⟩, _⟩ := hμ a w n hn
  refine round _ _ hI S1 a w hr1 _ fun e s' S' a' w' h1 h2 => ?_
  cases e with
  | normal =>
    obtain ⟨n', s'', hlt, ht, hI'⟩ := h1
    obtain ⟨S'', h2⟩ := ht _ _ _ h2
    have hJ : J n' a' w' := ⟨s'', S'', hI', h2⟩
    exact ⟨⟨n', hJ⟩, Nat.lt_of_le_of_lt (hμ _ _ _ hJ).2 hlt⟩
  | _ => exact hk _ _ _ _ _ h1 h2

theorem WP.region {id : Nat} {ops : Array Oper} (hf : fitsAll s.n ops = true) (h : regU P ops (fun _ => false) (List.range ops.size) (Q .normal) s) : WP P c (.region id ops false) Q s := fun S a w hr Q' hk =>
  wp_region (regL_ops (n := s.n) hf _ hr rfl (regL_of h) fun s' S' a' w' h1 h2 => hk _ _ _ _ _ h1 h2)

theorem WP.draw {id : Nat} {ops : Array Oper} (hm : P.follows .mixedOrders = true) (wr : List Nat) (hf : fitsAll s.n ops = true) (hok : okB P ops (fun i => !wr.contains i) = true) (h : regU P ops (fun i => !wr.contains i) (List.range ops.size) (Q .normal) s) : WP P c (.region id ops true) Q s := fun S a w hr Q' hk =>
  wp_region_any hm (any_ops (n := s.n) hf hok ops.size (List.range ops.size) _ (by simp) List.pairwise_lt_range (fun i => by
      simp only [List.mem_range]
      constructor
      · exact fun h => ⟨h, by simp [h]⟩
      · exact fun h => h.1) (fun i o ho hi => by
      have hlt := (Array.getElem?_eq_some_iff.1 ho).1
      simp [hlt] at hi) (by simp) (hr.heap rfl ⟨rfl, rfl, rfl⟩) rfl (regL_of h) fun s' S' a' w' h1 h2 => hk _ _ _ _ _ h1 h2)

/-- The same moment, told in other words. -/
def Tell {P : Program} (c : Ctx P) (s s' : St) : Prop := ∀ S a w, Rel c S s a w → ∃ S', Rel c S' s' a w
theorem WP.tell {code : Code} {s' : St} (ht : Tell c s s') (h : WP P c code Q s') : WP P c code Q s := fun S a w hr Q' hk => by
  obtain ⟨S', hr'⟩ := ht S a w hr
  exact h S' a w hr' Q' hk
end

def resV (tmps : Array Value) : ResultVar → Sem Value
  | .tmp t => pure (tmps.getD t undef)
  | .cell a t => do loadVar t (← asAddr (tmps.getD a undef))
theorem results_eq (fn : Func) (tmps : Array Value) : results fn tmps = (do
  let vs ← fn.results.mapM (resV tmps)
  pure (if h : vs.size = 1 then vs[0] else .tuple vs)) := rfl
/-- The results of a call. -/
def resA (P : Program) (s : St) : ResultVar → (AV → Prop) → Prop
  | .tmp t, K => K (s.get (.tmp t))
  | .cell a t, K => ∃ ti, tiOf P t = some ti ∧ (ti.kind.agg = false → 0 < ti.size) ∧ loadK ti s.H (s.get (.tmp a)) K
def resL (P : Program) (s : St) : List ResultVar → (List AV → Prop) → Prop
  | [], K => K []
  | r :: rs, K => resA P s r fun x => resL P s rs fun xs => K (x :: xs)
def one : List AV → AV
  | [x] => x
  | xs => .tup xs

section
variable {P : Program} {w : World} {c : Ctx P} {S : Nat → Prop} {s : St} {a : Act}
theorem resA_sound (h : Rel c S s a w) {r : ResultVar} {K : AV → Prop} (hk : resA P s r K) : ∃ x v, K x ∧ (resV a.tmps r).run P w = .ok v w ∧ Rep w S x v := by
  cases r with
  | tmp t => exact ⟨_, _, hk, rfl, h.get (.tmp t)⟩
  | cell b t =>
    obtain ⟨ti, h1, h2, h3⟩ := hk
    obtain ⟨y, v, g1, g2, g3⟩ := loadK_sound h1 h2 h.ok (h.get (.tmp b)) h3
    refine ⟨y, v, g1, ?_, g3⟩
    have hx := h.get (.tmp b)
    have e : a.eval (.tmp b) = a.tmps.getD b undef := by simp [Act.eval]
    rw [e] at g2 hx
    show ((do loadVar t (← asAddr (a.tmps.getD b undef))) : Sem Value).run P w = .ok v w
    unfold loadK at h3
    split at h3
    · rename_i hg
      rw [hg] at hx
      generalize a.tmps.getD b undef = u at *
      cases hx
      exact g2
    · rename_i hg
      rw [hg] at hx
      generalize a.tmps.getD b undef = u at *
      cases hx
      exact g2
    · exact h3.elim

theorem resL_sound (h : Rel c S s a w) : ∀ {rs : List ResultVar} {K : List AV → Prop}, resL P s rs K → ∃ xs vs, K xs ∧ Vals w S xs vs ∧ (rs.mapM (resV a.tmps)).run P w = .ok vs w := by
  intro rs
  induction rs with
  | nil => exact fun {K} hk => ⟨[], [], hk, ⟨rfl, fun j x u hj => by simp at hj⟩, by simp⟩
  | cons r rs ih =>
    intro K hk
    obtain ⟨x, v, h1, h2, h3⟩ := resA_sound h hk
    obtain ⟨xs, vs, g1, g2, g3⟩ := ih h1
    refine ⟨x :: xs, v :: vs, g1, ⟨by simp [g2.1], fun j y u hj hu => ?_⟩, ?_⟩
    · cases j with
      | zero => simp at hj hu; subst hj hu; exact h3
      | succ j => exact g2.2 j y u (by simpa using hj) (by simpa using hu)
    · rw [List.mapM_cons]
      simp [h2, g3]

theorem results_sound {fn : Func} (h : Rel c S s a w) {K : AV → Prop} (hk : resL P s fn.results.toList fun xs => K (one xs)) : ∃ x v, K x ∧ (results fn a.tmps).run P w = .ok v w ∧ Rep w S x v := by
  obtain ⟨xs, vs, h1, h2, h3⟩ := resL_sound h hk
  refine ⟨one xs, if h : vs.toArray.size = 1 then vs.toArray[0] else .tuple vs.toArray, h1, ?_, ?_⟩
  · rw [results_eq, Array.mapM_eq_mapM_toList]
    simp [h3]
  · match vs, xs, h2 with
    | [v], [x], h2 => exact h2.2 0 _ _ rfl rfl
    | [], [], h2 => exact .tup [] [] rfl h2.2
    | v :: v' :: vs, x :: x' :: xs, h2 => exact .tup _ _ h2.1.symm h2.2
    | [], x :: xs, h2 => exact absurd h2.1 (by simp)
    | v :: vs, [], h2 => exact absurd h2.1 (by simp)
    | [v], x :: x' :: xs, h2 => exact absurd h2.1 (by simp)
    | v :: v' :: vs, [x], h2 => exact absurd h2.1 (by simp)
end
end Go.AF
