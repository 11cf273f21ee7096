import Derived.Test.YtmpopmdimofnbaaDoorAF23
/-! Ends of any form; stores into lists. -/
namespace Go.AF
set_option linter.unusedVariables false
set_option linter.unusedSimpArgs false
open Go

def resF (P : Program) (N n : Nat) (rs : List AV) (H : Heap) : List ResultVar → (List AV → Prop) → Prop
  | [], K => K []
  | .tmp t :: l, K => resF P N n rs H l fun xs => K (dv (new N H) n (getL rs (.tmp t)) :: xs)
  | .cell a t :: l, K => ∃ ti, tiOf P t = some ti ∧ (ti.kind.agg = false → 0 < ti.size) ∧ loadK ti (old N H) (dv (new N H) n (getL rs (.tmp a))) fun x => resF P N n rs H l fun xs => K (x :: xs)
section
variable {P : Program} {c : Ctx P} {N : Nat} {rs : List AV} {H : Heap}
theorem getF (n : Nat) (t : Tmp) : (stL N (rs.map (dv (new N H) n)) (old N H)).get (.tmp t) = dv (new N H) n (getL rs (.tmp t)) := by
  rw [stL_get]
  show ((rs.map (dv (new N H) n))[t]?).getD .any = dv (new N H) n ((rs[t]?).getD .any)
  rw [List.getElem?_map]
  cases rs[t]? with
  | none => cases n <;> rfl
  | some x => rfl
theorem resF_of (n : Nat) : ∀ (rl : List ResultVar) {K : List AV → Prop}, resF P N n rs H rl K → resL P (stL N (rs.map (dv (new N H) n)) (old N H)) rl K := by
  intro rl
  induction rl with
  | nil => exact fun h => h
  | cons r rl ih =>
    intro K h
    cases r with
    | tmp t =>
      show resL P (stL N (rs.map (dv (new N H) n)) (old N H)) rl fun xs => K ((stL N (rs.map (dv (new N H) n)) (old N H)).get (.tmp t) :: xs)
      rw [getF]
      exact ih h
    | cell a t =>
      obtain ⟨ti, h1, h2, h3⟩ := h
      refine ⟨ti, h1, h2, ?_⟩
      rw [getF]
      exact (det_loadK _ _ _).mono (fun y hy => ih hy) h3
theorem retQ.frzG {rl : List ResultVar} {R : AV → Prop} {e : Exit} (he : e = .normal ∨ e = .ret) (n : Nat) (h : resF P N n rs H rl fun vs => R (one vs)) : retQ P c rl (fun r _ => R r) e (stL N rs H) :=
  retQ.frzP he n (resF_of n rl h)
end
theorem dv_pt {N b T sz j n : Nat} {row : List AV} {H : Heap} (hN : N ≤ b) (hb : H b = some ⟨T, sz, [row]⟩) : dv (new N H) (n + 1) (.pt b sz 0 j) = .rp ((row.drop j).map (dv (new N H) n)) := by
  have e1 : new N H b = some ⟨T, sz, [row]⟩ := by simp [new, Nat.not_lt.2 hN, hb]
  simp [dv, e1]
theorem dv_sl {α : Type} {N b e sz len n : Nat} {f : α → List AV} {l : List α} {H : Heap} (hN : N ≤ b) (hb : H b = some ⟨e, sz, l.map f⟩) (hl : len = l.length) (hf : ∀ y, (f y).map (dv (new N H) n) = f y) : dv (new N H) (n + 1) (.sl b sz 0 len) = .ro (l.map f) := by
  subst hl
  exact OwnL.dv (.inr ⟨b, hN, rfl, hb⟩) n hf
theorem set_ri {l : List Int} {n : Nat} {v : Int} : (l.map ri).set n [.v (.int .i64 v)] = (l.set n v).map ri := (List.map_set (f := ri)).symm
theorem set_rb {l : List Bool} {n : Nat} {v : Bool} : (l.map rb).set n [.v (.bool v)] = (l.set n v).map rb := (List.map_set (f := rb)).symm
theorem rep_ri {n : Nat} {v : Int} : List.replicate n [AV.v (.int .i64 v)] = (List.replicate n v).map ri := by simp [ri]
theorem rep_rb {n : Nat} {v : Bool} : List.replicate n [AV.v (.bool v)] = (List.replicate n v).map rb := by simp [rb]
theorem gt_rep {n : Nat} {v : Int} {i : Int} (h : i.toNat < n) : gt (List.replicate n v) i = v := by
  unfold gt
  rw [List.getD_eq_getElem?_getD, List.getElem?_replicate]
  simp [h]
theorem eq_rep {l : List Int} {n : Nat} {v : Int} (hl : l.length = n) (h : ∀ j : Int, 0 ≤ j → j < n → gt l j = v) : l = List.replicate n v := by
  refine List.ext_getElem (by simp [hl]) fun i h1 h2 => ?_
  have := h i (by omega) (by omega)
  rw [gt_eq h1] at this
  simp [this]
end Go.AF
namespace Go.AF
open Go
section
variable {P : Program} {c : Ctx P} {s : St} {Q : Exit → St → Prop} {x1 x2 x3 x4 x5 x6 x7 x8 y : Code}
/-- What several ways come to is walked once. -/
theorem WP.share1 (J : St → Prop) (hy : ∀ s, J s → WP P c y Q s) (h : (∀ s, J s → WP P c y Q s) → WP P c (.seq x1 y) Q s) : WP P c (.seq x1 y) Q s := h hy
theorem WP.share2 (J : St → Prop) (hy : ∀ s, J s → WP P c y Q s) (h : (∀ s, J s → WP P c y Q s) → WP P c (.seq x1 (.seq x2 y)) Q s) : WP P c (.seq x1 (.seq x2 y)) Q s := h hy
theorem WP.share3 (J : St → Prop) (hy : ∀ s, J s → WP P c y Q s) (h : (∀ s, J s → WP P c y Q s) → WP P c (.seq x1 (.seq x2 (.seq x3 y))) Q s) : WP P c (.seq x1 (.seq x2 (.seq x3 y))) Q s := h hy
theorem WP.share4 (J : St → Prop) (hy : ∀ s, J s → WP P c y Q s) (h : (∀ s, J s → WP P c y Q s) → WP P c (.seq x1 (.seq x2 (.seq x3 (.seq x4 y)))) Q s) : WP P c (.seq x1 (.seq x2 (.seq x3 (.seq x4 y)))) Q s := h hy
theorem WP.share5 (J : St → Prop) (hy : ∀ s, J s → WP P c y Q s) (h : (∀ s, J s → WP P c y Q s) → WP P c (.seq x1 (.seq x2 (.seq x3 (.seq x4 (.seq x5 y))))) Q s) : WP P c (.seq x1 (.seq x2 (.seq x3 (.seq x4 (.seq x5 y))))) Q s := h hy
theorem WP.share6 (J : St → Prop) (hy : ∀ s, J s → WP P c y Q s) (h : (∀ s, J s → WP P c y Q s) → WP P c (.seq x1 (.seq x2 (.seq x3 (.seq x4 (.seq x5 (.seq x6 y)))))) Q s) : WP P c (.seq x1 (.seq x2 (.seq x3 (.seq x4 (.seq x5 (.seq x6 y)))))) Q s := h hy
/-- .. told with less. -/
theorem share_keep {N : Nat} {rs : List AV} {H : Heap} {J : St → Prop} (bs : List Bool) (hJ : ∀ s, J s → WP P c y Q s) (h : J (stL N (keepL bs rs) H)) : WP P c y Q (stL N rs H) :=
  WP.tell (tell_keep bs (Sub.refl _)) (hJ _ h)
end
theorem view_sl {α : Type} {b e sz len : Nat} {f : α → List AV} {l : List α} {H : Heap} (hb : H b = some ⟨e, sz, l.map f⟩) (hl : len = l.length) : view H (.sl b sz 0 len) = .ro (l.map f) := by
  subst hl
  simp [view, view1, hb, List.take_of_length_le]
theorem view_own {α : Type} {N e sz : Nat} {f : α → List AV} {l : List α} {H : Heap} {x : AV} (h : OwnL N e sz f l x H) : view H x = .ro (l.map f) := by
  rcases h with ⟨rfl, rfl⟩ | ⟨b, _, rfl, hb⟩
  · rfl
  · exact view_sl hb rfl
theorem view_v (x : Value) {H : Heap} : view H (.v x) = .v x := rfl
end Go.AF
namespace Go.AF
open Go
theorem upd_under {H : Heap} {b b2 : Nat} {k : Blk} {k2 : Option Blk} (hb : H b = none) (hne : b2 ≠ b) : ((H.upd b (some k)).upd b2 k2).upd b none = H.upd b2 k2 := by
  funext c
  by_cases h1 : c = b
  · subst h1; simp [Heap.upd, hb, Ne.symm hne]
  · simp [Heap.upd, h1]
theorem upd_under2 {H : Heap} {b b2 b3 : Nat} {k : Blk} {k2 k3 : Option Blk} (hb : H b = none) (hne : b2 ≠ b) (hne3 : b3 ≠ b) : (((H.upd b (some k)).upd b2 k2).upd b3 k3).upd b none = (H.upd b2 k2).upd b3 k3 := by
  funext c
  by_cases h1 : c = b
  · subst h1; simp [Heap.upd, hb, Ne.symm hne, Ne.symm hne3]
  · simp [Heap.upd, h1]
section
variable {P : Program} {c : Ctx P} {N : Nat} {rs : List AV} {H : Heap} {Q : Exit → St → Prop} {code : Code} {b T n b2 b3 sz : Nat} {k2 k3 : Option Blk} {cs : List AV} {rows : List (List AV)}
theorem WP.roP1 (hb : H b = none) (hN : N ≤ b) (hl : cs.length = n) (hne : b2 ≠ b) (h : WP P c code Q (stL N (rs.map (frP b cs)) (H.upd b2 k2))) : WP P c code Q (stL N rs ((H.upd b (some ⟨T, n, [cs]⟩)).upd b2 k2)) := by
  subst hl
  refine WP.roK (k := ⟨T, cs.length, [cs]⟩) (frP b cs) (frP_dv b T cs) (by rw [Heap.upd_ne _ _ (Ne.symm hne), Heap.upd_self]) hN ?_
  rw [upd_under hb hne]
  exact h
theorem WP.roP2 (hb : H b = none) (hN : N ≤ b) (hl : cs.length = n) (hne : b2 ≠ b) (hne3 : b3 ≠ b) (h : WP P c code Q (stL N (rs.map (frP b cs)) ((H.upd b2 k2).upd b3 k3))) : WP P c code Q (stL N rs (((H.upd b (some ⟨T, n, [cs]⟩)).upd b2 k2).upd b3 k3)) := by
  subst hl
  refine WP.roK (k := ⟨T, cs.length, [cs]⟩) (frP b cs) (frP_dv b T cs) (by rw [Heap.upd_ne _ _ (Ne.symm hne3), Heap.upd_ne _ _ (Ne.symm hne), Heap.upd_self]) hN ?_
  rw [upd_under2 hb hne hne3]
  exact h
theorem WP.roS1 (hb : H b = none) (hN : N ≤ b) (hne : b2 ≠ b) (h : WP P c code Q (stL N (rs.map (frS b sz rows)) (H.upd b2 k2))) : WP P c code Q (stL N rs ((H.upd b (some ⟨T, sz, rows⟩)).upd b2 k2)) := by
  refine WP.roK (k := ⟨T, sz, rows⟩) (frS b sz rows) (frS_dv b T sz rows) (by rw [Heap.upd_ne _ _ (Ne.symm hne), Heap.upd_self]) hN ?_
  rw [upd_under hb hne]
  exact h
end
end Go.AF
namespace Go.AF
open Go
section
variable {P : Program} {c : Ctx P} {N : Nat} {rs : List AV} {H : Heap} {Q : Exit → St → Prop} {code : Code}
theorem WP.roKi {b : Nat} {k : Blk} (rs' : List AV) (hlen : rs'.length = rs.length) (hg : ∀ (i : Nat) (h1 : i < rs.length) (h2 : i < rs'.length) {w : World} {S : Nat → Prop} {u : Value}, Rep w S (dv (only b k) 1 rs[i]) u → Rep w S rs[i] u → Rep w S rs'[i] u)
    (hk : H b = some k) (hN : N ≤ b) (h : WP P c code Q (stL N rs' (H.upd b none))) : WP P c code Q (stL N rs H) := by
  refine WP.tell (fun S a w hr => ?_) h
  have h1 := hr.freeze (s := stL N rs H) (fun c => decide (c = b)) 1 (fun c hc _ => by
    have : c = b := by simpa using hc
    subst this; exact hN)
  have e1 : (stL N rs H).H.on (fun c => decide (c = b)) = only b k := by
    funext c
    by_cases hc : c = b
    · subst hc; rw [only_self]; simp [Heap.on, stL, hk]
    · simp [Heap.on, hc, only, Heap.upd, noHeap]
  have e2 : (stL N rs H).H.off (fun c => decide (c = b)) = H.upd b none := by
    funext c
    by_cases hc : c = b <;> simp [Heap.off, hc, Heap.upd, stL]
  rw [e1, e2] at h1
  refine ⟨_, h1.base, h1.defers, ?_, h1.frm, h1.low, h1.high, fun i hi => ?_, h1.ok⟩
  · rw [hr.size]; simp [stL, hlen]
  · have hi2 : i < rs'.length := hi
    have hi' : i < rs.length := by rw [← hlen]; exact hi2
    have hx : (stL N rs H).t i = rs[i] := by show (rs[i]?).getD .any = _; rw [List.getElem?_eq_getElem hi']; rfl
    have hy : (stL N rs' (H.upd b none)).t i = rs'[i] := by
      show ((rs')[i]?).getD .any = _
      rw [List.getElem?_eq_getElem hi2]; rfl
    rw [hy]
    have a1 := h1.reps i hi'
    have a2 := hr.reps i hi'
    simp only [hx] at a1 a2
    exact hg i hi' hi2 a1 (a2.mono (fun _ h => .inl h) (fun _ _ => rfl) (Grow.refl w))
/-- A list that was made is only read from now on. -/
theorem WP.roOwn {α : Type} {e sz : Nat} {f : α → List AV} {l : List α} {x : AV} (i : Nat) (hi : rs[i]? = some x) (hO : OwnL N e sz f l x H) (h : ∀ H', (∀ c k, H c = some k → Apart x c → H' c = some k) → WP P c code Q (stL N (rs.set i (.ro (l.map f))) H')) : WP P c code Q (stL N rs H) := by
  have hi' := (List.getElem?_eq_some_iff.1 hi).1
  have hx := (List.getElem?_eq_some_iff.1 hi).2
  rcases hO with ⟨rfl, rfl⟩ | ⟨b, hN, rfl, hb⟩
  · refine WP.tell (s' := stL N (rs.set i (.ro (List.map f []))) H) (fun S a w hr => ⟨S, hr.base, hr.defers, ?_, hr.frm, hr.low, hr.high, fun j hj => ?_, hr.ok⟩) (h H fun _ _ hc _ => hc)
    · rw [hr.size]; simp [stL]
    · have hj' : j < rs.length := by simpa [stL] using hj
      have a2 := hr.reps j hj'
      simp only [stL] at a2 ⊢
      rw [List.getElem?_set]
      by_cases e : i = j
      · subst e
        rw [hi] at a2
        simp only [if_true, hi', Option.getD_some] at a2 ⊢
        generalize a.tmps.getD i undef = u at a2 ⊢
        cases a2
        exact .roNil none 0
      · rw [if_neg e]; exact a2
  · refine WP.roKi (k := ⟨e, sz, l.map f⟩) _ (by simp) (fun j h1 h2 {w S u} a1 a2 => ?_) hb hN (h _ fun c k hc ha => ?_)
    · rw [List.getElem_set]
      split
      · rename_i e; subst e
        rw [hx] at a1
        simp only [dv, only_self, true_and, List.length_map, Nat.zero_add, Nat.le_refl, if_true, List.drop_zero] at a1
        have : (l.map f).take l.length = l.map f := List.take_of_length_le (by simp)
        rw [this] at a1
        simpa using a1
      · exact a2
    · rw [Heap.upd_ne _ _ (fun e => ha _ _ _ (by rw [e]))]
      exact hc
end
end Go.AF
namespace Go.AF
open Go
section
variable {P : Program} {N n : Nat} {rs : List AV} {H : Heap} {K : List AV → Prop} {l : List ResultVar}
theorem resF_tmp {t : Tmp} {x : AV} (hx : dv (new N H) n (getL rs (.tmp t)) = x) (h : resF P N n rs H l fun xs => K (x :: xs)) : resF P N n rs H (.tmp t :: l) K := by
  subst hx; exact h
theorem resF_cell {a : Tmp} {t T sz b : Nat} {ti : TI} {row : List AV} (ht : tiOf P t = some ti) (hx : getL rs (.tmp a) = .pt b sz 0 0) (hN : N ≤ b) (hb : H b = some ⟨T, sz, [row]⟩) (hsz : row.length = ti.size) (hagg : ti.kind.agg = true)
    (h : resF P N (n + 1) rs H l fun xs => K (.agg (row.map (dv (new N H) n)) :: xs)) : resF P N (n + 1) rs H (.cell a t :: l) K := by
  refine ⟨ti, ht, fun h => (by rw [hagg] at h; cases h), ?_⟩
  rw [hx, dv_pt hN hb]
  simp only [loadK, List.drop_zero, List.length_map, hagg, if_true]
  refine ⟨by omega, ?_⟩
  rw [List.take_of_length_le (by simp [hsz])]
  exact h
end
end Go.AF
