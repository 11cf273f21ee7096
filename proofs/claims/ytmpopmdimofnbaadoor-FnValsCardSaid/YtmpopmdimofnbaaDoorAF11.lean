import Derived.Test.YtmpopmdimofnbaaDoorAF10
/-! Which operation is of which class. -/
namespace Go.AF
set_option linter.unusedVariables false
set_option linter.unusedSimpArgs false
open Go

/-- It gives one value, or nothing. -/
def Det (f : (AV → Prop) → Prop) : Prop := ∀ K, f K → ∃ y, K y ∧ ∀ K', f K' ↔ K' y

theorem Det.one (y : AV) : Det (fun K => K y) := fun K h => ⟨y, h, fun _ => Iff.rfl⟩
theorem Det.no : Det (fun K => False) := fun K h => h.elim
theorem Det.and {p : Prop} {f : (AV → Prop) → Prop} (h : Det f) : Det (fun K => p ∧ f K) := fun K ⟨hp, hf⟩ => by
  obtain ⟨y, h1, h2⟩ := h K hf
  exact ⟨y, h1, fun K' => by simp [hp, h2]⟩
theorem Det.ex {α : Type} {o : Option α} {f : α → (AV → Prop) → Prop} (h : ∀ x, Det (f x)) : Det (fun K => ∃ x, o = some x ∧ f x K) := fun K ⟨x, ho, hf⟩ => by
  obtain ⟨y, h1, h2⟩ := h x K hf
  exact ⟨y, h1, fun K' => by simp [ho, h2]⟩
theorem Det.some {α : Type} {o : Option α} {f : α → AV} : Det (fun K => ∃ x, o = Option.some x ∧ K (f x)) := Det.ex fun x => Det.one _
theorem Det.exS {ti : TI} {f : Nat → (AV → Prop) → Prop} (h : ∀ x, Det (f x)) : Det (fun K => ∃ e, ti.kind = .slice e ∧ f e K) := fun K ⟨x, ho, hf⟩ => by
  obtain ⟨y, h1, h2⟩ := h x K hf
  exact ⟨y, h1, fun K' => by simp [ho, h2]⟩
theorem Det.exB {x : AV} {f : Bool → (AV → Prop) → Prop} (h : ∀ x, Det (f x)) : Det (fun K => ∃ b, x = .v (.bool b) ∧ f b K) := fun K ⟨b, ho, hf⟩ => by
  obtain ⟨y, h1, h2⟩ := h b K hf
  exact ⟨y, h1, fun K' => by simp [ho, h2]⟩
theorem Det.ite {c : Prop} [Decidable c] {f g : (AV → Prop) → Prop} (hf : Det f) (hg : Det g) : Det (fun K => if c then f K else g K) := by
  by_cases h : c
  · simpa [h] using hf
  · simpa [h] using hg
theorem Det.mono {f : (AV → Prop) → Prop} (h : Det f) {K K' : AV → Prop} (hk : ∀ y, K y → K' y) (hf : f K) : f K' := by
  obtain ⟨y, h1, h2⟩ := h K hf
  exact (h2 K').2 (hk y h1)

theorem det_loadK (ti : TI) (H : Heap) (x : AV) : Det (loadK ti H x) := by
  unfold loadK
  split
  · exact Det.ex fun k => Det.and (Det.ex fun row => Det.and (Det.ite (Det.one _) Det.some))
  · exact Det.and (Det.ite (Det.one _) Det.some)
  · exact Det.no
theorem det_faK (ti : TI) (f : Nat) (x : AV) : Det (faK ti f x) := by
  unfold faK
  split
  · refine Det.ex fun g => Det.and ?_
    split
    · exact Det.one _
    · exact Det.one _
    · exact Det.no
  · exact Det.no
theorem det_fieldK (P : Program) (ti : TI) (f : Nat) (x : AV) : Det (fieldK P ti f x) := by
  unfold fieldK
  split
  · exact Det.ex fun g => Det.and (Det.ex fun ti' => Det.and (Det.ite (Det.one _) Det.some))
  · exact Det.no
theorem det_iaK (e es : Nat) (x i : AV) : Det (iaK e es x i) := by
  unfold iaK
  split
  · exact Det.and (Det.and (Det.one _))
  · exact Det.and (Det.ex fun row => Det.and (Det.one _))
  · exact Det.no
theorem det_idxK (x i : AV) : Det (idxK x i) := by
  unfold idxK
  split
  · exact Det.and Det.some
  · exact Det.no
theorem det_exK (x : AV) (i : Nat) : Det (exK x i) := by
  unfold exK
  split
  · exact Det.some
  · exact Det.no
theorem det_binI (op : BinOp) (k : IntKind) (a b : Int) : Det (binI op k a b) := by
  unfold binI
  split <;> first | exact Det.one _ | exact Det.and (Det.one _) | exact Det.no
theorem det_binS (op : BinOp) (a b : ByteArray) : Det (binS op a b) := by
  unfold binS
  split <;> first | exact Det.one _ | exact Det.and (Det.one _) | exact Det.no
theorem det_boolK (P : Program) (op : BinOp) (T : Nat) (a b : Bool) : Det (boolK P op T a b) := by
  unfold boolK
  split <;> first | exact Det.and (Det.one _) | exact Det.no
theorem det_aggK (P : Program) (op : BinOp) (T : Nat) (xs ys : List AV) : Det (aggK P op T xs ys) := by
  unfold aggK
  split <;> first | exact Det.and (Det.one _) | exact Det.no
theorem det_binK (P : Program) (op : BinOp) (T : Nat) (x y : AV) : Det (binK P op T x y) := by
  unfold binK
  split
  · split
    · exact Det.and (Det.one _)
    · exact Det.and (Det.one _)
    · exact Det.and ((det_binI _ _ _ _))
  · exact (det_binS _ _ _)
  · exact det_boolK _ _ _ _ _
  · exact det_aggK _ _ _ _ _
  · exact Det.no
theorem det_unK (op : UnOp) (x : AV) : Det (unK op x) := by
  unfold unK
  split <;> first | exact Det.one _ | exact Det.no
theorem det_cvK (ti : TI) (x : AV) : Det (cvK ti x) := by
  unfold cvK
  split <;> first | exact Det.one _ | exact Det.no
theorem det_slK (es : Nat) (x : AV) (lo hi : Option AV) : Det (slK es x lo hi) := by
  unfold slK
  refine Det.ex fun n => Det.ex fun l => Det.ex fun h => Det.and ?_
  split <;> first | exact Det.one _ | exact Det.and (Det.one _) | exact Det.no
theorem det_buildK (ti : TI) (ps : List (Nat × AV)) : Det (buildK ti ps) := by
  unfold buildK
  split
  · exact Det.and Det.some
  · exact Det.no
theorem det_lenK (x : AV) : Det (lenK x) := by
  unfold lenK
  exact Det.some

/-- An operation that knows no memory. -/
theorem IsV.of {f : F} {g : (AV → Prop) → Prop} (h : ∀ H N K, f H N K ↔ g (fun y => K y H)) (hg : Det g) : IsV f := by
  intro H N K hf
  obtain ⟨y, h1, h2⟩ := hg _ ((h _ _ _).1 hf)
  exact ⟨y, h1, fun H' N' K' => (h _ _ _).trans (h2 _)⟩

def clsOf (P : Program) (op : Op) : Cls :=
  match op with
  | .convert _ dst _ => match tiOf P dst with
    | some ti => match ti.kind with
      | .str => .L
      | _ => .V
    | none => .V
  | .move _ | .assign _ | .pick .. | .build .. | .nilCheck _ | .binOp .. | .unOp .. | .slice .. | .fieldAddr .. | .field .. | .indexAddr .. | .index .. | .extract .. => .V
  | .load .. => .L
  | .alloc _ | .box .. | .buildSlice .. | .makeSlice .. => .A
  | .store .. => .E
  | .call q => match q.callee with
    | .builtin .len | .builtin .max | .builtin .min => .V
    | .builtin _ => .E
    | _ => .C
  | _ => .D

theorem clsOf_convert {P : Program} {src dst : TypeId} {x : Operand} : clsOf P (.convert src dst x) = .L ∨ clsOf P (.convert src dst x) = .V := by
  simp only [clsOf]
  split
  · split
    · exact .inl rfl
    · exact .inr rfl
  · exact .inr rfl

/-- One operation where the order is open: calls write nothing there. -/
def gS (P : Program) (op : Op) (g : Operand → AV) (H : Heap) (N : Nat) (K : AV → Heap → Prop) : Prop :=
  match op with
  | .call q => match q.callee with
    | .builtin b => biK P b q.argTypes.toList (q.args.toList.map g) H N K
    | _ => ∃ f caps, tgt g q.callee = some (f, caps) ∧ callable P f = true ∧ callP P f (q.args.toList.map g ++ caps) H K
  | op => gA P op g H N K

theorem gS_gA {P : Program} {op : Op} {g : Operand → AV} {H : Heap} {N : Nat} {K : AV → Heap → Prop} (h : gS P op g H N K) : gA P op g H N K := by
  cases op <;> try exact h
  rename_i q
  unfold gS at h
  dsimp only at h
  show match q.callee with
    | .builtin b => biK P b q.argTypes.toList (q.args.toList.map g) H N K
    | _ => ∃ f caps, tgt g q.callee = some (f, caps) ∧ callable P f = true ∧ callK P f (q.args.toList.map g ++ caps) H N K
  split at h
  · exact h
  · obtain ⟨f, caps, h1, h2, h3⟩ := h
    exact ⟨f, caps, h1, h2, .inl h3⟩

theorem isV_biK {P : Program} {b : Builtin} (hb : b = .len ∨ b = .max ∨ b = .min) (ts : List Nat) (xs : List AV) : IsV (fun H N K => biK P b ts xs H N K) := by
  rcases hb with rfl | rfl | rfl
  · by_cases hx : ∃ t x, ts = [t] ∧ xs = [x]
    · obtain ⟨t, x, rfl, rfl⟩ := hx
      refine IsV.of (g := fun K => ∃ ti, tiOf P t = some ti ∧ isSrc ti ∧ (∀ q, x = .v (.string q) → ti.kind = .str) ∧ ((∀ q, x ≠ .v (.string q)) → ti.kind ≠ .str) ∧ lenK x K) (fun _ _ _ => Iff.rfl) ?_
      exact Det.ex fun ti => Det.and (Det.and (Det.and (det_lenK x)))
    · refine IsV.of (g := fun K => False) (fun H N K => ?_) Det.no
      unfold biK
      split <;> simp_all
  · by_cases hx : ∃ k a k' c, xs = [.v (.int k a), .v (.int k' c)]
    · obtain ⟨k, a, k', c, rfl⟩ := hx
      exact IsV.of (g := fun K => K (.v (.int k (if c > a then c else a)))) (fun _ _ _ => by unfold biK; split <;> simp_all) (Det.one _)
    · refine IsV.of (g := fun K => False) (fun H N K => ?_) Det.no
      unfold biK
      split <;> simp_all
  · by_cases hx : ∃ k a k' c, xs = [.v (.int k a), .v (.int k' c)]
    · obtain ⟨k, a, k', c, rfl⟩ := hx
      exact IsV.of (g := fun K => K (.v (.int k (if c < a then c else a)))) (fun _ _ _ => by unfold biK; split <;> simp_all) (Det.one _)
    · refine IsV.of (g := fun K => False) (fun H N K => ?_) Det.no
      unfold biK
      split <;> simp_all

theorem isV_gS {P : Program} {op : Op} {g : Operand → AV} (h : clsOf P op = .V) : IsV (gS P op g) := by
  cases op with
  | move x => exact IsV.of (g := fun K => K (g x)) (fun _ _ _ => Iff.rfl) (Det.one _)
  | assign x => exact IsV.of (g := fun K => K (g x)) (fun _ _ _ => Iff.rfl) (Det.one _)
  | pick q x y => exact IsV.of (g := fun K => ∃ b, g q = .v (.bool b) ∧ K (if b then g x else g y)) (fun _ _ _ => Iff.rfl) (Det.exB fun b => Det.one _)
  | build T ps => exact IsV.of (g := fun K => ∃ ti, tiOf P T = some ti ∧ buildK ti (ps.toList.map fun p => (p.1, g p.2)) K) (fun _ _ _ => Iff.rfl) (Det.ex fun ti => (det_buildK _ _))
  | nilCheck x =>
    cases hx : g x with
    | pt b sz i j => exact IsV.of (g := fun K => K (.pt b sz i j)) (fun _ _ _ => by simp [gS, gA, hx]) (Det.one _)
    | rp cs => exact IsV.of (g := fun K => K (.rp cs)) (fun _ _ _ => by simp [gS, gA, hx]) (Det.one _)
    | _ => exact IsV.of (g := fun K => False) (fun _ _ _ => by simp [gS, gA, hx]) Det.no
  | binOp op T x y T' => exact IsV.of (g := binK _ op T (g x) (g y)) (fun _ _ _ => Iff.rfl) ((det_binK _ _ _ _ _))
  | unOp op T x => exact IsV.of (g := unK op (g x)) (fun _ _ _ => Iff.rfl) ((det_unK _ _))
  | convert src dst x =>
    have h0 := h
    intro H N K hk
    obtain ⟨tis, ti, h1, h2, h3⟩ := hk
    have hne : ti.kind ≠ .str := fun e => by simp [clsOf, h2, e] at h0
    have e : ∀ H' (K' : AV → Heap → Prop), (match ti.kind, tis.kind with
      | .str, .slice e => ∃ tie, tiOf P e = some tie ∧ tie.kind = .int .u8 ∧ cvS H' (g x) fun z => K' z H'
      | _, _ => cvK ti (g x) fun z => K' z H') ↔ cvK ti (g x) fun z => K' z H' := by
      intro H' K'
      split
      · exact absurd (by assumption) hne
      · exact Iff.rfl
    obtain ⟨y, h4, h5⟩ := det_cvK _ _ _ ((e _ _).1 h3)
    refine ⟨y, h4, fun H' N' K' => ⟨fun ⟨tis', ti', g1, g2, g3⟩ => ?_, fun hy => ⟨tis, ti, h1, h2, (e _ _).2 ((h5 _).2 hy)⟩⟩⟩
    rw [h1] at g1; cases g1
    rw [h2] at g2; cases g2
    exact (h5 _).1 ((e _ _).1 g3)
  | slice T x lo hi mx =>
    cases mx with
    | some m => exact IsV.of (g := fun K => False) (fun _ _ _ => Iff.rfl) Det.no
    | none =>
      refine IsV.of (g := fun K => ∃ ti, tiOf P T = some ti ∧ match ti.kind with
        | .str => (∃ q, g x = .v (.string q)) ∧ slK 0 (g x) (lo.map g) (hi.map g) K
        | .slice e => (∀ q, g x ≠ .v (.string q)) ∧ ∃ tie, tiOf P e = some tie ∧ slK tie.size (g x) (lo.map g) (hi.map g) K
        | _ => False) (fun _ _ _ => Iff.rfl) (Det.ex fun ti => ?_)
      split
      · exact Det.and ((det_slK _ _ _ _))
      · exact Det.and (Det.ex fun tie => (det_slK _ _ _ _))
      · exact Det.no
  | fieldAddr T x f => exact IsV.of (g := fun K => ∃ ti, tiOf P T = some ti ∧ faK ti f (g x) K) (fun _ _ _ => Iff.rfl) (Det.ex fun ti => (det_faK _ _ _))
  | field T x f => exact IsV.of (g := fun K => ∃ ti, tiOf P T = some ti ∧ fieldK P ti f (g x) K) (fun _ _ _ => Iff.rfl) (Det.ex fun ti => (det_fieldK _ _ _ _))
  | indexAddr T x i =>
    refine IsV.of (g := fun K => ∃ ti e tie, tiOf P T = some ti ∧ ti.kind = .slice e ∧ tiOf P e = some tie ∧ iaK e tie.size (g x) (g i) K) (fun _ _ _ => Iff.rfl) fun K hk => ?_
    obtain ⟨ti, e, tie, h1, h2, h3, h4⟩ := hk
    obtain ⟨y, h5, h6⟩ := det_iaK _ _ _ _ _ h4
    refine ⟨y, h5, fun K' => ⟨fun h => ?_, fun h => ⟨ti, e, tie, h1, h2, h3, (h6 _).2 h⟩⟩⟩
    obtain ⟨ti', e', tie', g1, g2, g3, g4⟩ := h
    rw [h1] at g1; cases g1
    rw [h2] at g2; cases g2
    rw [h3] at g3; cases g3
    exact (h6 _).1 g4
  | index T x i => exact IsV.of (g := fun K => ∃ ti, tiOf P T = some ti ∧ ti.kind = .str ∧ idxK (g x) (g i) K) (fun _ _ _ => Iff.rfl) (Det.ex fun ti => Det.and ((det_idxK _ _)))
  | extract x i => exact IsV.of (g := exK (g x) i) (fun _ _ _ => Iff.rfl) ((det_exK _ _))
  | call q =>
    simp only [clsOf] at h
    have e : ∀ b, q.callee = .builtin b → gS P (.call q) g = fun H N K => biK P b q.argTypes.toList (q.args.toList.map g) H N K := by
      intro b hb
      funext H N K
      simp only [gS, hb]
    split at h <;> try cases h
    · rw [e _ ‹_›]; exact isV_biK (.inl rfl) _ _
    · rw [e _ ‹_›]; exact isV_biK (.inr (.inl rfl)) _ _
    · rw [e _ ‹_›]; exact isV_biK (.inr (.inr rfl)) _ _
  | _ => cases h

theorem det_cvS (H : Heap) (x : AV) : Det (cvS H x) := by
  intro K hk
  obtain ⟨h1, bs, h2, h3⟩ := hk
  refine ⟨_, h3, fun K' => ⟨fun ⟨_, bs', g2, g3⟩ => ?_, fun h => ⟨h1, bs, h2, h⟩⟩⟩
  rw [h2] at g2
  have e : bs = bs' := by
    have g2 := Option.some.inj g2
    have hi : ∀ (l m : List UInt8), l.map u8row = m.map u8row → l = m := by
      intro l
      induction l with
      | nil => intro m h; cases m <;> simp at h ⊢
      | cons a l ih =>
        intro m h
        cases m with
        | nil => simp at h
        | cons b m =>
          simp only [List.map_cons, List.cons.injEq, u8row, AV.v.injEq, Value.int.injEq, true_and, and_true] at h
          rw [ih m h.2]
          have := h.1
          congr 1
          exact UInt8.toNat_inj.1 (by omega)
    exact hi _ _ g2
  subst e
  exact g3
theorem cvS_up {H H' : Heap} {x : AV} {b0 : Nat} (hb : ∀ b sz off n, x = .sl b sz off n → b = b0) (hH : ∀ k, H b0 = some k → H' b0 = some k) (h : ∃ K, cvS H x K) (K : AV → Prop) : cvS H' x K ↔ cvS H x K := by
  obtain ⟨K0, h1, bs, h2, h3⟩ := h
  have e : srcRows H' 1 x = srcRows H 1 x := by
    cases x with
    | sl b sz off n =>
      have := hb _ _ _ _ rfl
      subst this
      simp only [srcRows] at h2 ⊢
      cases hk : H b with
      | none => rw [hk] at h2; cases h2
      | some k => rw [hH k hk]
    | v u => cases u <;> rfl
    | _ => rfl
  unfold cvS
  rw [e]

theorem isL_gS {P : Program} {op : Op} {g : Operand → AV} (h : clsOf P op = .L) : IsL (gS P op g) := by
  cases op with
  | convert src dst x =>
    refine ⟨match g x with | .sl b _ _ _ => b | _ => 0, fun H N K hk => ?_⟩
    obtain ⟨tis, ti, h1, h2, h3⟩ := hk
    split at h3
    · rename_i e hk1 hk2
      obtain ⟨tie, h4, h5, h6⟩ := h3
      obtain ⟨y, h7, h8⟩ := det_cvS _ _ _ h6
      refine ⟨y, h7, fun H' N' K' hH => ?_⟩
      have e := cvS_up (x := g x) (fun b sz off n hg => by rw [hg]) hH ⟨_, h6⟩ (fun z => K' z H')
      constructor
      · rintro ⟨tis', ti', g1, g2, g3⟩
        rw [h1] at g1; cases g1
        rw [h2] at g2; cases g2
        simp only [hk1, hk2] at g3
        obtain ⟨tie', g4, g5, g6⟩ := g3
        exact (h8 _).1 (e.1 g6)
      · intro hy
        refine ⟨tis, ti, h1, h2, ?_⟩
        simp only [hk1, hk2]
        exact ⟨tie, h4, h5, e.2 ((h8 _).2 hy)⟩
    · rename_i hne
      obtain ⟨y, h7, h8⟩ := det_cvK _ _ _ h3
      refine ⟨y, h7, fun H' N' K' hH => ?_⟩
      have e : ∀ H' (K' : AV → Heap → Prop), (match ti.kind, tis.kind with
        | .str, .slice e => ∃ tie, tiOf P e = some tie ∧ tie.kind = .int .u8 ∧ cvS H' (g x) fun z => K' z H'
        | _, _ => cvK ti (g x) fun z => K' z H') ↔ cvK ti (g x) fun z => K' z H' := by
        intro H' K'
        split
        · rename_i e h9 h10; exact absurd h10 (hne e h9)
        · exact Iff.rfl
      constructor
      · rintro ⟨tis', ti', g1, g2, g3⟩
        rw [h1] at g1; cases g1
        rw [h2] at g2; cases g2
        exact (h8 _).1 ((e _ _).1 g3)
      · exact fun hy => ⟨tis, ti, h1, h2, (e _ _).2 ((h8 _).2 hy)⟩
  | load T x =>
    refine ⟨match g x with | .pt b _ _ _ => b | _ => 0, fun H N K hk => ?_⟩
    obtain ⟨ti, h1, h2, h3⟩ := hk
    obtain ⟨y, h4, h5⟩ := det_loadK _ _ _ _ h3
    refine ⟨y, h4, fun H' N' K' hH => ?_⟩
    have e : ∀ K, loadK ti H' (g x) K ↔ loadK ti H (g x) K := by
      intro K
      unfold loadK at h3 ⊢
      cases hx : g x with
      | pt b sz i j =>
        rw [hx] at h3 hH
        obtain ⟨k, hk, _⟩ := h3
        simp only [hk, hH k hk]
      | _ => exact Iff.rfl
    refine Iff.trans ?_ ((e fun y => K' y H').trans (h5 _))
    constructor
    · rintro ⟨ti', g1, g2, g3⟩
      rw [h1] at g1; cases g1
      exact g3
    · exact fun h => ⟨ti, h1, h2, h⟩
  | call q =>
    simp only [clsOf] at h
    split at h <;> cases h
  | _ => cases h

theorem isA_gS {P : Program} {op : Op} {g : Operand → AV} (h : clsOf P op = .A) : IsA (gS P op g) := by
  cases op with
  | alloc T =>
    intro H N K hk
    obtain ⟨ti, h1, h2, h3⟩ := hk
    exact ⟨_, _, fun H' N' K' => ⟨fun ⟨ti', g1, g2, g3⟩ => by rw [h1] at g1; cases g1; exact g3, fun h => ⟨ti, h1, h2, h⟩⟩⟩
  | box T x =>
    intro H N K hk
    obtain ⟨h2, h3⟩ := hk
    exact ⟨_, _, fun H' N' K' => ⟨fun ⟨g2, g3⟩ => g3, fun h => ⟨h2, h⟩⟩⟩
  | buildSlice T n ps =>
    intro H N K hk
    obtain ⟨ti, e, tie, h1, h2, h3, h4, h5, out, h6, h7, h8, h9⟩ := hk
    refine ⟨_, _, fun H' N' K' => ⟨fun ⟨ti', e', tie', g1, g2, g3, g4, g5, out', g6, g7, g8, g9⟩ => ?_, fun h => ⟨ti, e, tie, h1, h2, h3, h4, h5, out, h6, h7, h8, h⟩⟩⟩
    rw [h1] at g1; cases g1
    rw [h2] at g2; cases g2
    rw [h3] at g3; cases g3
    rw [h6] at g6; cases g6
    exact g9
  | makeSlice T l n =>
    intro H N K hk
    obtain ⟨ti, e, tie, h1, h2, h3, h4⟩ := hk
    unfold mkK at h4
    split at h4
    · rename_i kl vl kn vn hl hn
      obtain ⟨h5, h6, h7, h8, h9⟩ := h4
      refine ⟨_, _, fun H' N' K' => ⟨fun ⟨ti', e', tie', g1, g2, g3, g4⟩ => ?_, fun h => ⟨ti, e, tie, h1, h2, h3, by unfold mkK; rw [hl, hn]; exact ⟨h5, h6, h7, h8, h⟩⟩⟩⟩
      rw [h1] at g1; cases g1
      rw [h2] at g2; cases g2
      rw [h3] at g3; cases g3
      unfold mkK at g4
      rw [hl, hn] at g4
      exact g4.2.2.2.2
    · exact h4.elim
  | call q =>
    simp only [clsOf] at h
    split at h <;> cases h
  | convert src dst x =>
    simp only [clsOf] at h
    repeat' (split at h)
    all_goals cases h
  | _ => cases h
end Go.AF
