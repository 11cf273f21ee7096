import Derived.Test.YtmpopmdimofnbaaDoorAF9
/-! Two operations change places. -/
namespace Go.AF
set_option linter.unusedVariables false
set_option linter.unusedSimpArgs false
open Go

/-- A heap has an end. -/
def Fin (H : Heap) : Prop := ∃ M, ∀ b, M ≤ b → H b = none
theorem Fin.upd {H : Heap} (h : Fin H) (b : Nat) (k : Option Blk) : Fin (H.upd b k) := by
  obtain ⟨M, h⟩ := h
  refine ⟨max M (b + 1), fun c hc => ?_⟩
  rw [H.upd_ne k (by omega)]
  exact h c (by omega)
theorem Fin.fresh {H : Heap} (h : Fin H) (N b0 : Nat) : ∃ b, H b = none ∧ N ≤ b ∧ b ≠ b0 := by
  obtain ⟨M, h⟩ := h
  exact ⟨max M (max N (b0 + 1)), h _ (by omega), by omega, by omega⟩

/-- What an operation does, of the memory alone. -/
abbrev F := Heap → Nat → (AV → Heap → Prop) → Prop

def Up (H H' : Heap) : Prop := ∀ b k, H b = some k → H' b = some k
theorem Up.upd {H : Heap} {b : Nat} (k : Option Blk) (h : H b = none) : Up H (H.upd b k) := by
  intro c k' hc
  rw [H.upd_ne k (by rintro rfl; rw [h] at hc; cases hc)]
  exact hc

def Mono (f : F) : Prop := ∀ H N K K', (∀ r H', K r H' → K' r H') → f H N K → f H N K'
def IsV (f : F) : Prop := ∀ H N K, f H N K → ∃ y, K y H ∧ ∀ H' N' K', f H' N' K' ↔ K' y H'
def IsL (f : F) : Prop := ∃ b0, ∀ H N K, f H N K → ∃ y, K y H ∧ ∀ H' N' K', (∀ k, H b0 = some k → H' b0 = some k) → (f H' N' K' ↔ K' y H')
def IsC (f : F) : Prop := ∀ H N K, f H N K → ∃ R : AV → Prop, (∃ r, R r) ∧ (∀ r, R r → K r H) ∧ ∀ H' N' K', Up H H' → (∀ r, R r → K' r H') → f H' N' K'
def IsA (f : F) : Prop := ∀ H N K, f H N K → ∃ (mk : Nat → AV) (k : Blk), ∀ H' N' K', f H' N' K' ↔ ∀ b, H' b = none → N' ≤ b → K' (mk b) (H'.upd b (some k))
def NonV (f : F) : Prop := ∀ H N K, Fin H → f H N K → ∃ r H', Fin H' ∧ K r H'

theorem IsV.l {f : F} (h : IsV f) : IsL f := ⟨0, fun H N K hf => by
  obtain ⟨y, h1, h2⟩ := h H N K hf
  exact ⟨y, h1, fun H' N' K' _ => h2 H' N' K'⟩⟩

def Swap (f g : F) : Prop := ∀ H N (K : AV → AV → Heap → Prop), Fin H → f H N (fun r1 H1 => Fin H1 → g H1 N (fun r2 H2 => Fin H2 → K r1 r2 H2)) → g H N (fun r2 H2 => Fin H2 → f H2 N (fun r1 H1 => Fin H1 → K r1 r2 H1))

theorem swap_V {f g : F} (hf : IsV f) (hg : Mono g) : Swap f g := by
  intro H N K hF h
  obtain ⟨y, h1, h2⟩ := hf _ _ _ h
  refine hg _ _ _ _ (fun r H' hk hF' => ?_) (h1 hF)
  exact (h2 _ _ _).2 fun _ => hk hF'

theorem swap_EV {f g : F} (hm : Mono f) (hn : NonV f) (hg : IsV g) : Swap f g := by
  intro H N K hF h
  obtain ⟨r1, H1, hF1, h1⟩ := hn _ _ _ hF h
  obtain ⟨y, h2, h3⟩ := hg _ _ _ (h1 hF1)
  refine (h3 _ _ _).2 fun _ => hm _ _ _ _ (fun r H' hk hF' => ?_) h
  exact (h3 _ _ _).1 (hk hF') hF'

theorem swap_LL {f g : F} (hf : IsL f) (hg : IsL g) : Swap f g := by
  intro H N K hF h
  obtain ⟨b1, hf⟩ := hf
  obtain ⟨b2, hg⟩ := hg
  obtain ⟨y, h1, h2⟩ := hf _ _ _ h
  obtain ⟨z, h3, h4⟩ := hg _ _ _ (h1 hF)
  exact (h4 H _ _ fun _ h => h).2 fun _ => (h2 H _ _ fun _ h => h).2 fun _ => h3 hF

theorem swap_CL {f g : F} (hf : IsC f) (hg : IsL g) : Swap f g := by
  intro H N K hF h
  obtain ⟨b2, hg⟩ := hg
  obtain ⟨R, ⟨r, hr⟩, h1, h2⟩ := hf _ _ _ h
  obtain ⟨z, h3, h4⟩ := hg _ _ _ (h1 r hr hF)
  refine (h4 H _ _ fun _ h => h).2 fun _ => h2 H _ _ (fun _ _ h => h) fun r' hr' _ => ?_
  exact (h4 H _ _ fun _ h => h).1 (h1 r' hr' hF) hF

theorem swap_LC {f g : F} (hf : IsL f) (hg : IsC g) : Swap f g := by
  intro H N K hF h
  obtain ⟨b1, hf⟩ := hf
  obtain ⟨y, h1, h2⟩ := hf _ _ _ h
  obtain ⟨R, _, h3, h4⟩ := hg _ _ _ (h1 hF)
  exact h4 H _ _ (fun _ _ h => h) fun r hr _ => (h2 H _ _ fun _ h => h).2 fun _ => h3 r hr hF

theorem swap_AL {f g : F} (hf : IsA f) (hg : IsL g) : Swap f g := by
  intro H N K hF h
  obtain ⟨b0, hg⟩ := hg
  obtain ⟨mk, k, h1⟩ := hf _ _ _ h
  rw [h1] at h
  obtain ⟨b, hb, hN, hne⟩ := hF.fresh N b0
  obtain ⟨y, h2, h3⟩ := hg _ _ _ (h b hb hN (hF.upd _ _))
  rw [H.upd_ne _ (Ne.symm hne)] at h3
  refine (h3 H _ _ fun _ h => h).2 fun _ => (h1 _ _ _).2 fun c hc hc2 hF' => ?_
  refine (h3 _ _ _ fun k' hk' => ?_).1 (h c hc hc2 (hF.upd _ _)) hF'
  exact Up.upd _ hc _ _ hk'

theorem swap_LA {f g : F} (hf : IsL f) (hg : IsA g) : Swap f g := by
  intro H N K hF h
  obtain ⟨b0, hf⟩ := hf
  obtain ⟨y, h1, h2⟩ := hf _ _ _ h
  obtain ⟨mk, k, h3⟩ := hg _ _ _ (h1 hF)
  have h4 := (h3 _ _ _).1 (h1 hF)
  refine (h3 _ _ _).2 fun b hb hN hF' => (h2 _ _ _ fun k' hk' => ?_).2 fun _ => h4 b hb hN hF'
  exact Up.upd _ hb _ _ hk'

theorem swap_CA {f g : F} (hf : IsC f) (hg : IsA g) : Swap f g := by
  intro H N K hF h
  obtain ⟨R, ⟨r, hr⟩, h1, h2⟩ := hf _ _ _ h
  obtain ⟨mk, k, h3⟩ := hg _ _ _ (h1 r hr hF)
  refine (h3 _ _ _).2 fun b hb hN hF' => h2 _ _ _ (Up.upd _ hb) fun r' hr' _ => ?_
  exact (h3 _ _ _).1 (h1 r' hr' hF) b hb hN hF'

theorem upd_swap (H : Heap) {b c : Nat} (x y : Option Blk) (h : b ≠ c) : (H.upd b x).upd c y = (H.upd c y).upd b x := by
  funext d
  simp only [Heap.upd]
  split
  · rename_i e
    subst e
    rw [if_neg (Ne.symm h)]
  · rfl

theorem swap_AA {f g : F} (hf : IsA f) (hg : IsA g) : Swap f g := by
  intro H N K hF h
  obtain ⟨mk, k, h1⟩ := hf _ _ _ h
  rw [h1] at h
  obtain ⟨b, hb, hN, _⟩ := hF.fresh N 0
  obtain ⟨mk', k', h2⟩ := hg _ _ _ (h b hb hN (hF.upd _ _))
  refine (h2 _ _ _).2 fun c hc hc2 _ => (h1 _ _ _).2 fun d hd hd2 hF' => ?_
  have hne : d ≠ c := by
    rintro rfl
    rw [H.upd_self] at hd
    cases hd
  rw [H.upd_ne _ hne] at hd
  have := (h2 _ _ _).1 (h d hd hd2 (hF.upd _ _)) c (by rw [H.upd_ne _ (Ne.symm hne)]; exact hc) hc2 ((hF.upd _ _).upd _ _)
  rw [upd_swap H _ _ hne] at this
  exact this

inductive Cls where
  | V | L | C | A | E | D
  deriving DecidableEq

def IsE (f : F) : Prop := NonV f
/-- What a class says. -/
def Cls.is : Cls → F → Prop
  | .V, f => IsV f
  | .L, f => IsL f
  | .C, f => IsC f
  | .A, f => IsA f
  | .E, f => NonV f
  | .D, _ => True

def swapB : Cls → Cls → Bool
  | .V, _ => true
  | .L, .V | .L, .L | .L, .C | .L, .A => true
  | .C, .V | .C, .L | .C, .A => true
  | .A, .V | .A, .L | .A, .A => true
  | .E, .V => true
  | _, _ => false

theorem swap_of {x y : Cls} {f g : F} (hf : Mono f) (hg : Mono g) (hx : x.is f ∨ IsV f) (hy : y.is g ∨ IsV g) (h : swapB x y = true) : Swap f g := by
  rcases hx with hx | hx
  · rcases hy with hy | hy
    · cases x <;> cases y <;> simp only [swapB, Bool.false_eq_true] at h <;> simp only [Cls.is] at hx hy
      all_goals first
        | exact swap_V hx hg
        | exact swap_EV hf hx hy
        | exact swap_LL hx hy
        | exact swap_LL hx hy.l
        | exact swap_CL hx hy
        | exact swap_CL hx hy.l
        | exact swap_LC hx hy
        | exact swap_AL hx hy
        | exact swap_AL hx hy.l
        | exact swap_LA hx hy
        | exact swap_CA hx hy
        | exact swap_AA hx hy
    · cases x <;> simp only [Cls.is] at hx
      · exact swap_V hx hg
      · exact swap_LL hx hy.l
      · exact swap_CL hx hy.l
      · exact swap_AL hx hy.l
      · exact swap_EV hf hx hy
      · cases y <;> simp [swapB] at h
  · exact swap_V hx hg
end Go.AF
