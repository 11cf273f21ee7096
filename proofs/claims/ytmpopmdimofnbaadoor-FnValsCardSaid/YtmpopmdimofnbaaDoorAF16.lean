import Derived.Test.YtmpopmdimofnbaaDoorAF15
/-! Contracts from code; states as lists. -/
namespace Go.AF
set_option linter.unusedVariables false
set_option linter.unusedSimpArgs false
open Go

/-- A state, its slots being listed. -/
def stL (N : Nat) (rs : List AV) (H : Heap) : St := ⟨N, rs.length, fun i => (rs[i]?).getD .any, H⟩
def getL (rs : List AV) : Operand → AV
  | .tmp i => (rs[i]?).getD .any
  | .const x => constAV x
  | .func f => .v (.func (.func f) #[] #[])
  | .global _ => .any
def putL (rs : List AV) (d : Option Tmp) (x : AV) : List AV := match d with
  | some d => rs.set d x
  | none => rs

theorem stL_get {N : Nat} {rs : List AV} {H : Heap} : (stL N rs H).get = getL rs := by
  funext x
  cases x with
  | tmp i =>
    show (if i < rs.length then (rs[i]?).getD .any else .any) = (rs[i]?).getD .any
    by_cases h : i < rs.length
    · rw [if_pos h]
    · rw [if_neg h, List.getElem?_eq_none (Nat.le_of_not_lt h)]; rfl
  | _ => rfl

/-- Slots beyond the frame are nobody's. -/
def Same (s s' : St) : Prop := s.N = s'.N ∧ s.n = s'.n ∧ s.H = s'.H ∧ ∀ i, i < s.n → s.t i = s'.t i
theorem Same.rel {s s' : St} (h : Same s s') {P : Program} {c : Ctx P} {S : Nat → Prop} {a : Act} {w : World} (hr : Rel c S s a w) : Rel c S s' a w := by
  obtain ⟨h1, h2, h3, h4⟩ := h
  exact ⟨by rw [← h1]; exact hr.base, hr.defers, by rw [← h2]; exact hr.size, by rw [← h3]; exact hr.frm, hr.low, hr.high, fun i hi => by rw [← h4 i (by omega)]; exact hr.reps i (by omega), by rw [← h3]; exact hr.ok⟩

theorem stL_put {N : Nat} {rs : List AV} {H : Heap} {d : Option Tmp} {x : AV} (hd : ∀ t, d = some t → t < rs.length) : (stL N rs H).put d x = stL N (putL rs d x) H ∨ False := by
  cases d with
  | none => exact .inl rfl
  | some d =>
    left
    have := hd d rfl
    simp only [stL, St.put, putL, List.length_set, St.mk.injEq, true_and, and_true]
    funext i
    by_cases h : i = d
    · subst h; simp [this]
    · simp [h, List.getElem?_set_ne (Ne.symm h)]

/-- The guard's operation's value. -/
def yieldL (ops : Array Oper) (rs : List AV) (g : Nat) : Option (Option Bool) :=
  match (ops[g]?).bind (·.dst) with
  | none => some none
  | some d => match getL rs (.tmp d) with
    | .v (.bool b) => some (some b)
    | .v (.tuple _) => some none
    | _ => none

/-- A region, over lists. -/
def regO (P : Program) (ops : Array Oper) (str : Nat → Bool) (N : Nat) (K : List AV → Heap → Prop) : Nat → List Oper → List AV → Heap → Prop
  | _, [], rs, H => K rs H
  | i, o :: l, rs, H => match o.guard with
    | none => if str i then gS P o.op (getL rs) H N (fun r H' => regO P ops str N K (i + 1) l (putL rs o.dst r) H') else gA P o.op (getL rs) H N (fun r H' => regO P ops str N K (i + 1) l (putL rs o.dst r) H')
    | some (g, want) => ∃ yb, yieldL ops rs g = some yb ∧ if yb = some want then (if str i then gS P o.op (getL rs) H N (fun r H' => regO P ops str N K (i + 1) l (putL rs o.dst r) H') else gA P o.op (getL rs) H N (fun r H' => regO P ops str N K (i + 1) l (putL rs o.dst r) H'))
      else regO P ops str N K (i + 1) l (putL rs o.dst (.v undef)) H

theorem regU_of {P : Program} {ops : Array Oper} {str : Nat → Bool} {N : Nat} {n : Nat} {K : St → Prop} (hf : fitsAll n ops = true) : ∀ (l : List Oper) (i : Nat) (rs : List AV) (H : Heap), (∀ j o, l[j]? = some o → ops[i + j]? = some o) → rs.length = n →
    regO P ops str N (fun rs H => K (stL N rs H)) i l rs H → regU P ops str (List.range' i l.length) K (stL N rs H) := by
  intro l
  induction l with
  | nil => exact fun i rs H _ _ h => h
  | cons o l ih =>
    intro i rs H hl hn h
    have hi : ops[i]? = some o := hl 0 o rfl
    have hput : ∀ r H', regO P ops str N (fun rs H => K (stL N rs H)) (i + 1) l (putL rs o.dst r) H' → (stL N rs H).out o.dst (regU P ops str (List.range' (i + 1) l.length) K) r H' := fun r H' hr => by
      have h1 := ih (i + 1) (putL rs o.dst r) H' (fun j o' hj => by rw [show i + 1 + j = i + (j + 1) by omega]; exact hl (j + 1) o' (by simpa using hj)) (by rw [← hn]; unfold putL; split <;> simp) hr
      have h2 := (stL_put (N := N) (rs := rs) (H := H') (d := o.dst) (x := r) (fun t ht => by
        have h3 := fitsAll_spec hf hi (s := stL N rs H') (by rw [← hn]; rfl)
        rw [ht] at h3
        exact h3)).resolve_right id
      unfold St.out
      rw [show ({ stL N rs H with H := H' } : St) = stL N rs H' from rfl, h2]
      exact h1
    simp only [List.length_cons, List.range'_succ]
    unfold regU
    rw [hi]
    show gG P ops (str i) o (stL N rs H) H N _
    unfold gG
    unfold regO at h
    cases hg : o.guard with
    | none =>
      rw [hg] at h
      simp only [stL_get] at h ⊢
      cases hs : str i
      · rw [hs] at h
        exact gA_mono _ _ _ _ hput h
      · rw [hs] at h
        exact gS_mono _ _ _ _ hput h
    | some gw =>
      obtain ⟨g, want⟩ := gw
      rw [hg] at h
      obtain ⟨yb, h1, h2⟩ := h
      refine ⟨yb, ?_, ?_⟩
      · rw [← h1]
        unfold yieldA yieldL
        rw [stL_get]
        rfl
      · by_cases hy : yb = some want
        · rw [if_pos hy] at h2 ⊢
          rw [stL_get]
          cases hs : str i
          · rw [hs] at h2
            exact gA_mono _ _ _ _ hput h2
          · rw [hs] at h2
            exact gS_mono _ _ _ _ hput h2
        · rw [if_neg hy] at h2 ⊢
          exact hput _ _ h2

section
variable {P : Program} {c : Ctx P} {N : Nat} {rs : List AV} {H : Heap} {Q : Exit → St → Prop}

theorem WP.reg {id : Nat} {ops : Array Oper} (hf : fitsAll rs.length ops = true) (h : ∀ K : List AV → Heap → Prop, (∀ rs H, Q .normal (stL N rs H) → K rs H) → regO P ops (fun _ => false) N K 0 ops.toList rs H) : WP P c (.region id ops false) Q (stL N rs H) :=
  WP.region (s := stL N rs H) hf (by
    rw [List.range_eq_range']
    have := regU_of (P := P) (str := fun _ => false) (N := N) (K := Q .normal) hf ops.toList 0 rs H (fun j o hj => by rw [Nat.zero_add]; simpa using hj) rfl (h _ fun _ _ h => h)
    simpa using this)

theorem WP.regD {id : Nat} {ops : Array Oper} (hm : P.follows .mixedOrders = true) (wr : List Nat) (hf : fitsAll rs.length ops = true) (hok : okB P ops (fun i => !wr.contains i) = true) (h : ∀ K : List AV → Heap → Prop, (∀ rs H, Q .normal (stL N rs H) → K rs H) → regO P ops (fun i => !wr.contains i) N K 0 ops.toList rs H) : WP P c (.region id ops true) Q (stL N rs H) :=
  WP.draw (s := stL N rs H) hm wr hf hok (by
    rw [List.range_eq_range']
    have := regU_of (P := P) (str := fun i => !wr.contains i) (N := N) (K := Q .normal) hf ops.toList 0 rs H (fun j o hj => by rw [Nat.zero_add]; simpa using hj) rfl (h _ fun _ _ h => h)
    simpa using this)
end

/-! One operation after the other. -/
section
variable {P : Program} {ops : Array Oper} {str : Nat → Bool} {N i : Nat} {K : List AV → Heap → Prop} {l : List Oper} {rs : List AV} {H : Heap} {d : Option Tmp} {op : Op} {ty : TypeId} {pos : String} {after : Array Edge}
theorem oN (h : ∀ K' : AV → Heap → Prop, (∀ r H', regO P ops (fun _ => false) N K (i + 1) l (putL rs d r) H' → K' r H') → gA P op (getL rs) H N K') : regO P ops (fun _ => false) N K i (⟨d, op, ty, pos, after, none⟩ :: l) rs H :=
  h _ fun _ _ h => h
theorem oS (hs : str i = true) (h : ∀ K' : AV → Heap → Prop, (∀ r H', regO P ops str N K (i + 1) l (putL rs d r) H' → K' r H') → gS P op (getL rs) H N K') : regO P ops str N K i (⟨d, op, ty, pos, after, none⟩ :: l) rs H := by
  unfold regO
  rw [if_pos hs]
  exact h _ fun _ _ h => h
theorem oE (hs : str i = false) (h : ∀ K' : AV → Heap → Prop, (∀ r H', regO P ops str N K (i + 1) l (putL rs d r) H' → K' r H') → gA P op (getL rs) H N K') : regO P ops str N K i (⟨d, op, ty, pos, after, none⟩ :: l) rs H := by
  unfold regO
  rw [if_neg (by rw [hs]; decide)]
  exact h _ fun _ _ h => h
/-- A guarded operation. -/
theorem oG {g : Nat} {want b : Bool} (hy : yieldL ops rs g = some (some b)) (h1 : b = want → regO P ops str N K i (⟨d, op, ty, pos, after, none⟩ :: l) rs H) (h2 : b ≠ want → regO P ops str N K (i + 1) l (putL rs d (.v undef)) H) : regO P ops str N K i (⟨d, op, ty, pos, after, some (g, want)⟩ :: l) rs H := by
  unfold regO
  refine ⟨_, hy, ?_⟩
  by_cases hb : b = want
  · subst hb
    rw [if_pos rfl]
    have := h1 rfl
    unfold regO at this
    exact this
  · rw [if_neg (by simpa using hb)]
    exact h2 hb
theorem oG0 {g : Nat} {want : Bool} (hy : yieldL ops rs g = some none) (h2 : regO P ops str N K (i + 1) l (putL rs d (.v undef)) H) : regO P ops str N K i (⟨d, op, ty, pos, after, some (g, want)⟩ :: l) rs H := by
  unfold regO
  refine ⟨_, hy, ?_⟩
  rw [if_neg (by simp)]
  exact h2
end

theorem Tell.refl {P : Program} (c : Ctx P) (s : St) : Tell c s s := fun S a w h => ⟨S, h⟩
theorem Tell.trans {P : Program} {c : Ctx P} {s s' s'' : St} (h : Tell c s s') (k : Tell c s' s'') : Tell c s s'' := fun S a w hr => by
  obtain ⟨S', h'⟩ := h S a w hr
  exact k S' a w h'

/-- How a call ends. -/
def retQ (P : Program) (c : Ctx P) (rl : List ResultVar) (post : AV → Heap → Prop) : Exit → St → Prop := fun e s =>
  (e = .normal ∨ e = .ret) ∧ ∃ s', Tell c s s' ∧ resL P s' rl fun vs => ∃ H', (∀ b k, H' b = some k → s'.H b = some k) ∧ post (one vs) H'

theorem CallsA.of {P : Program} {f : FuncId} {fn : Func} {code : Code} {rl : List ResultVar} {n : Nat} {xs : List AV} {H : Heap} {post : AV → Heap → Prop} (hf : P.funcs[f]? = some fn) (hb : fn.body = some code) (hr : fn.results.toList = rl) (hnt : fn.ntmps = n) (hn : Nat.ble xs.length n = true)
    (h : ∀ c N, (∀ b, (H b).isSome = true → b < N) → WP P c code (retQ P c rl post) (stL N (xs ++ List.replicate (n - xs.length) .any) H)) : CallsA P f xs H post := by
  subst hr hnt
  have hn := Nat.le_of_ble_eq_true hn
  intro W S us hv hok htab
  refine calls_of_wp hf hb ?_
  have hlt : ∀ b, (H b).isSome = true → b < W.heap.size := fun b hb => by
    obtain ⟨k, hk⟩ := Option.isSome_iff_exists.1 hb
    exact (hok.blk b k hk).lt
  let c : Ctx P := { W := W, S := S, D := fun b => (H b).isSome = true, tab := htab, sep := fun b hb => ⟨hok.low b hb, fun hs => by
    obtain ⟨k, hk⟩ := Option.isSome_iff_exists.1 hs
    exact hok.sep b k hk hb⟩ }
  have hlen : us.length = xs.length := hv.1
  have hrel : Rel c S (stL W.heap.size (xs ++ List.replicate (fn.ntmps - xs.length) .any) H) { tmps := us.toArray ++ Array.replicate (fn.ntmps - us.toArray.size) undef, defers := [] } W := by
    refine ⟨⟨rfl, hlt⟩, rfl, ?_, ⟨Nat.le_refl _, fun _ _ _ => rfl, fun b k hk => .inl (by show (H b).isSome = true; rw [show H b = some k from hk]; rfl), Grow.refl W⟩, fun _ h => h, fun _ h => .inl h, fun i hi => ?_, hok⟩
    · simp [stL, hlen]
    · simp only [stL]
      by_cases h1 : i < xs.length
      · rw [List.getElem?_append_left h1]
        have e : (us.toArray ++ Array.replicate (fn.ntmps - us.toArray.size) undef).getD i undef = us[i]'(by omega) := by
          simp [Array.getElem?_append, hlen, h1]
        rw [e, List.getElem?_eq_getElem h1]
        exact hv.2 i _ _ (List.getElem?_eq_getElem h1) (List.getElem?_eq_getElem (by omega))
      · rw [List.getElem?_append_right (by omega), List.getElem?_replicate]
        have : (if i - xs.length < fn.ntmps - xs.length then some AV.any else none).getD .any = .any := by split <;> rfl
        rw [this]
        exact .any _
  refine h c W.heap.size hlt S _ W hrel _ fun e s' S' a' w' h1 h2 => ?_
  obtain ⟨he, s'', ht, h3⟩ := h1
  obtain ⟨S'', h2⟩ := ht S' a' w' h2
  obtain ⟨x, v, ⟨H', h4, h5⟩, h6, h7⟩ := results_sound (fn := fn) (K := fun x => ∃ H', (∀ b k, H' b = some k → s''.H b = some k) ∧ post x H') h2 h3
  have hfin : a'.defers = [] ∧ ∃ v, (results fn a'.tmps).run P w' = .ok v w' ∧ ∃ v' r H' S', Ending.returned v = .returned v' ∧ post r H' ∧ Rep w' S' r v' ∧ HeapOk w' S' H' ∧ (∀ b, S b → S' b) ∧ (∀ b, S' b → S b ∨ W.heap.size ≤ b) ∧ Frm ⟨W, S, fun b => (H b).isSome = true⟩ w' H' :=
    ⟨h2.defers, v, h6, v, x, H', S'', rfl, h5, h7, ⟨fun b k hk => h2.ok.sep b k (h4 b k hk), h2.ok.low, fun b k hk => h2.ok.blk b k (h4 b k hk)⟩, h2.low, h2.high, ⟨h2.frm.size, h2.frm.old, fun b k hk => h2.frm.dom b k (h4 b k hk), h2.frm.grow⟩⟩
  rcases he with rfl | rfl
  · exact hfin
  · exact hfin
end Go.AF
