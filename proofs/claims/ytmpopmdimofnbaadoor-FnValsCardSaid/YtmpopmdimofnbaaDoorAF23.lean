import Derived.Test.YtmpopmdimofnbaaDoorAF22
/-! Lists that a call is making. -/
namespace Go.AF
set_option linter.unusedVariables false
set_option linter.unusedSimpArgs false
open Go

/-- One number a row. -/
def ri (n : Int) : List AV := [.v (.int .i64 n)]
def rb (b : Bool) : List AV := [.v (.bool b)]
def rs' (s : ByteArray) : List AV := [.v (.string s)]

/-- All but the block of x is as it was. -/
def Keeps (x : AV) (H H' : Heap) : Prop := ∀ c k, H c = some k → (∀ sz o n, x ≠ .sl c sz o n) → H' c = some k
/-- A slice that does not lie in a block. -/
def Apart (x : AV) (c : Nat) : Prop := ∀ sz o n, x ≠ .sl c sz o n
theorem fact_upd {H : Heap} {b c : Nat} {k : Blk} {k' : Option Blk} (h : H c = some k) (hb : H b = none) : (H.upd b k') c = some k := by
  rw [Heap.upd_ne _ _ (fun e => by subst e; rw [hb] at h; cases h)]
  exact h
theorem ne_fact {H : Heap} {b c : Nat} {k : Blk} (h : H c = some k) (hb : H b = none) : c ≠ b := fun e => by subst e; rw [hb] at h; cases h

section
variable {α : Type} {N e sz : Nat} {f : α → List AV} {l m : List α} {x : AV} {H : Heap}
theorem OwnL.nil : OwnL N e sz f [] .nil H := .inl ⟨rfl, rfl⟩
theorem OwnL.mk {b : Nat} (hN : N ≤ b) (hb : H b = some ⟨e, sz, l.map f⟩) : OwnL N e sz f l (.sl b sz 0 l.length) H := .inr ⟨b, hN, rfl, hb⟩
theorem OwnL.upd {b : Nat} {k : Option Blk} (h : OwnL N e sz f l x H) (hb : H b = none) : OwnL N e sz f l x (H.upd b k) := by
  rcases h with h | ⟨c, h1, h2, h3⟩
  · exact .inl h
  · refine .inr ⟨c, h1, h2, ?_⟩
    rw [Heap.upd_ne _ _ (fun hc => ?_)]
    · exact h3
    · subst hc; rw [hb] at h3; cases h3
theorem OwnL.keeps {H' : Heap} {y : AV} (h : OwnL N e sz f l x H) (hk : Keeps y H H') (hne : ∀ b s o n, x = .sl b s o n → ∀ s' o' n', y ≠ .sl b s' o' n') : OwnL N e sz f l x H' := by
  rcases h with h | ⟨c, h1, h2, h3⟩
  · exact .inl h
  · exact .inr ⟨c, h1, h2, hk c _ h3 (hne c _ _ _ h2)⟩
theorem OwnL.len (h : OwnL N e sz f l x H) : avLen x = some l.length := by
  rcases h with ⟨rfl, rfl⟩ | ⟨c, h1, rfl, h3⟩
  · rfl
  · rfl
theorem OwnL.noStr (h : OwnL N e sz f l x H) (q : ByteArray) : x ≠ .v (.string q) := by
  rcases h with ⟨rfl, rfl⟩ | ⟨c, h1, rfl, h3⟩ <;> intro h <;> cases h
/-- From now on it is only read. -/
theorem OwnL.dv (h : OwnL N e sz f l x H) (n : Nat) (hf : ∀ y, (f y).map (dv (new N H) n) = f y) : dv (new N H) (n + 1) x = .ro (l.map f) := by
  rcases h with ⟨rfl, rfl⟩ | ⟨c, h1, rfl, h3⟩
  · rfl
  · have e1 : new N H c = some ⟨e, sz, l.map f⟩ := by simp [new, h3, Nat.not_lt.2 h1]
    simp only [Go.AF.dv, e1, List.length_map, Nat.zero_add, Nat.le_refl, and_self, if_true, List.drop_zero]
    have : (l.map f).take l.length = l.map f := by rw [List.take_of_length_le (by simp)]
    rw [this, List.map_map]
    congr 1
    apply List.map_congr_left
    intro y _
    exact hf y
theorem OwnL.ret {l' : List α} (h : OwnL N e sz f l x H) (n : Nat) (hf : ∀ y, (f y).map (Go.AF.dv (new N H) n) = f y) (hl : l = l') : Go.AF.dv (new N H) (n + 1) x = .ro (l'.map f) := by
  subst hl
  exact h.dv n hf
theorem OwnL.rows (h : OwnL N e sz f l x H) : srcRows H sz x = some (l.map f) := by
  rcases h with ⟨rfl, rfl⟩ | ⟨c, h1, rfl, h3⟩
  · rfl
  · simp [srcRows, h3, List.take_of_length_le]
end

theorem ri_dv {H : Heap} {n : Nat} (y : Int) : (ri y).map (dv H n) = ri y := by
  cases n <;> rfl
theorem rb_dv {H : Heap} {n : Nat} (y : Bool) : (rb y).map (dv H n) = rb y := by
  cases n <;> rfl
theorem rs_dv {H : Heap} {n : Nat} (y : ByteArray) : (rs' y).map (dv H n) = rs' y := by
  cases n <;> rfl
theorem ri_cell (y : Int) : (ri y).length = 1 ∧ (ri y).all AV.cell = true := ⟨rfl, rfl⟩
theorem rb_cell (y : Bool) : (rb y).length = 1 ∧ (rb y).all AV.cell = true := ⟨rfl, rfl⟩
theorem rs_cell (y : ByteArray) : (rs' y).length = 1 ∧ (rs' y).all AV.cell = true := ⟨rfl, rfl⟩

section
variable {P : Program} {N : Nat} {rs : List AV} {H : Heap} {K : AV → Heap → Prop}
theorem oAppO {α : Type} {f : α → List AV} {l : List α} {xo so : Operand} {t tx e : Nat} {ti tie tix : TI} {x : AV} (m : List α) (ht : tiOf P t = some ti) (hk : ti.kind = .slice e) (hte : tiOf P e = some tie) (htx : tiOf P tx = some tix) (hsrc : isSrc tix)
    (hz : Nat.ble 1 tie.size = true) (hzl : tie.zero.length = tie.size) (hO : OwnL N e tie.size f l x H) (hx : getL rs xo = x) (hs : srcRows H tie.size (getL rs so) = some (m.map f)) (hf : ∀ y, (f y).length = tie.size ∧ (f y).all AV.cell = true)
    (hb : (l.length + m.length) * tie.bytes ≤ 140737488355328) (hb2 : l.length + m.length ≤ 4611686018427387904) (hm : m ≠ [])
    (h : ∀ x' H', OwnL N e tie.size f (l ++ m) x' H' → (∀ c k, H c = some k → Apart x c → H' c = some k ∧ Apart x' c) → K x' H') : gA P (.call { callee := .builtin .append, args := #[xo, so], argTypes := #[t, tx] }) (getL rs) H N K := by
  refine bApp ht hk hte htx hsrc ?_
  have hz := Nat.le_of_ble_eq_true hz
  refine ⟨hz, hzl, m.map f, hs, fun r hr => ?_, ?_⟩
  · obtain ⟨y, _, rfl⟩ := List.mem_map.1 hr
    exact hf y
  · rw [hx]
    have hlen : (m.map f).length = m.length := List.length_map ..
    rcases hO with ⟨rfl, rfl⟩ | ⟨c, h1, rfl, h3⟩
    · simp only [List.length_nil, Nat.zero_add] at hb hb2
      refine ⟨by rw [hlen]; exact hb, by rw [hlen]; exact hb2, fun hn => absurd (List.map_eq_nil_iff.1 hn) hm, fun _ b hbn hNb => h _ _ (.inr ⟨b, hNb, by simp, by rw [Heap.upd_self]; simp⟩) fun c k hc hne => ?_⟩
      have hcb : c ≠ b := fun e => by subst e; rw [hbn] at hc; cases hc
      rw [Heap.upd_ne _ _ hcb]
      exact ⟨hc, fun s o n e => by cases e; exact hcb rfl⟩
    · refine ⟨rfl, rfl, _, h3, rfl, rfl, by simp, by rw [hlen]; exact hb, by rw [hlen]; exact hb2, fun b' hb' => h _ _ (.inr ⟨b', ?_, by simp, ?_⟩) fun c' k hc' hne => ?_⟩
      · rcases hb' with rfl | ⟨_, h4⟩
        · exact h1
        · exact h4
      · rw [Heap.upd_self]
        simp only [List.map_append, Option.some.injEq, Blk.mk.injEq, true_and]
        rw [List.take_of_length_le (by simp)]
      · have n1 : c' ≠ c := fun e => hne _ _ _ (by rw [e])
        have n2 : c' ≠ b' := by
          rcases hb' with rfl | ⟨h5, _⟩
          · exact n1
          · intro e; subst e; rw [h5] at hc'; cases hc'
        rw [Heap.upd_ne _ _ n2, Heap.upd_ne _ _ n1]
        exact ⟨hc', fun s o n e => by cases e; exact n2 rfl⟩
/-- A slice literal of one row, that is put behind. -/
theorem src_one {b e sz : Nat} {row : List AV} : srcRows (H.upd b (some ⟨e, sz, [row]⟩)) sz (.sl b sz 0 1) = some [row] := by
  simp [srcRows, Heap.upd_self]
theorem bLenO {α : Type} {f : α → List AV} {l : List α} {xo : Operand} {t e e' sz : Nat} {ti : TI} {x : AV} (ht : tiOf P t = some ti) (hk : ti.kind = .slice e) (hx : getL rs xo = x) (hO : OwnL N e' sz f l x H) (h : K (.v (.int .i64 l.length)) H) : gA P (.call { callee := .builtin .len, args := #[xo], argTypes := #[t] }) (getL rs) H N K :=
  bLenS (n := l.length) ht hk (by rw [hx]; exact hO.len) (fun q => by rw [hx]; exact hO.noStr q) h
/-- An element's address. -/
theorem oIdxO {α : Type} {f : α → List AV} {l : List α} {xo io : Operand} {t e e' : Nat} {ti tie : TI} {x : AV} {ik : IntKind} {i : Int} (ht : tiOf P t = some ti) (hk : ti.kind = .slice e) (hte : tiOf P e = some tie) (hx : getL rs xo = x) (hi : getL rs io = .v (.int ik i)) (hO : OwnL N e' tie.size f l x H) (h0 : 0 ≤ i ∧ i < l.length)
    (h : ∀ b, N ≤ b → x = .sl b tie.size 0 l.length → H b = some ⟨e', tie.size, l.map f⟩ → K (.pt b tie.size i.toNat 0) H) : gA P (.indexAddr t xo io) (getL rs) H N K := by
  refine ⟨ti, e, tie, ht, hk, hte, ?_⟩
  rw [hx, hi]
  rcases hO with ⟨rfl, rfl⟩ | ⟨c, h1, rfl, h3⟩
  · simp at h0; omega
  · refine ⟨rfl, h0, ?_⟩
    have := h c h1 rfl h3
    simpa using this
/-- Such an element is read. -/
theorem load_row {α : Type} [Inhabited α] {f : α → List AV} {l : List α} {b e sz : Nat} {i : Int} (hb : H b = some ⟨e, sz, l.map f⟩) (h0 : i.toNat < l.length) : ∃ k, H b = some k ∧ k.sz = sz ∧ k.rows[i.toNat]? = some (f (gt l i)) := ⟨_, hb, rfl, map_get h0⟩
end
end Go.AF
namespace Go.AF
open Go
section
variable {P : Program} {N : Nat} {rs : List AV} {H : Heap} {K : AV → Heap → Prop}
theorem oBS0 {α : Type} (f : α → List AV) {T e : Nat} {ti tie : TI} (ht : tiOf P T = some ti) (hk : ti.kind = .slice e) (hte : tiOf P e = some tie) (hz : Nat.ble 1 tie.size = true)
    (h : ∀ x H', OwnL N e tie.size f [] x H' → (∀ c k, H c = some k → H' c = some k ∧ Apart x c) → K x H') : gA P (.buildSlice T 0 #[]) (getL rs) H N K := by
  have hz := Nat.le_of_ble_eq_true hz
  refine ⟨ti, e, tie, ht, hk, hte, hz, by omega, [], by simp [fillA], rfl, by simp, fun b hb hN => h _ _ (.inr ⟨b, hN, rfl, by rw [Heap.upd_self]; simp [chunk]⟩) fun c k hc => ?_⟩
  have hcb : c ≠ b := fun e => by subst e; rw [hb] at hc; cases hc
  rw [Heap.upd_ne _ _ hcb]
  exact ⟨hc, fun s o n e => by cases e; exact hcb rfl⟩
theorem WP.genH {P : Program} {c : Ctx P} {N : Nat} {rs : List AV} {H : Heap} {Q : Exit → St → Prop} {code : Code} (Φ : Heap → Prop) (h0 : Φ H) (h : ∀ H', Φ H' → WP P c code Q (stL N rs H')) : WP P c code Q (stL N rs H) := h H h0
end
end Go.AF
namespace Go.AF
open Go
theorem dv_v {H : Heap} {n : Nat} (x : Value) : dv H n (.v x) = .v x := by cases n <;> rfl
theorem dv_ro {H : Heap} {n : Nat} (x : List (List AV)) : dv H n (.ro x) = .ro x := by cases n <;> rfl
theorem dv_rp {H : Heap} {n : Nat} (x : List AV) : dv H n (.rp x) = .rp x := by cases n <;> rfl
theorem dv_any {H : Heap} {n : Nat} : dv H n .any = .any := by cases n <;> rfl
theorem dv_nil {H : Heap} {n : Nat} : dv H (n + 1) .nil = .ro [] := rfl
theorem dv_agg {H : Heap} {n : Nat} (x : List AV) : dv H (n + 1) (.agg x) = .agg (x.map (dv H n)) := rfl
theorem lit_dv {N e sz n len b : Nat} {H : Heap} {rows : List (List AV)} (hN : N ≤ b) (hl : rows.length = len) : dv (new N (H.upd b (some ⟨e, sz, rows⟩))) (n + 1) (.sl b sz 0 len) = .ro (rows.map (List.map (dv (new N (H.upd b (some ⟨e, sz, rows⟩))) n))) := by
  have e1 : new N (H.upd b (some ⟨e, sz, rows⟩)) b = some ⟨e, sz, rows⟩ := by simp [new, Nat.not_lt.2 hN, Heap.upd_self]
  subst hl
  simp [dv, e1]
end Go.AF
