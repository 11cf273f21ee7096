import Derived.Test.YtmpopmdimofnbaaDoorAF5
import Derived.Deep.Upon
/-! append, slice literals, copy. -/
namespace Go.AF
set_option linter.unusedVariables false
set_option linter.unusedSimpArgs false
open Go

section
variable {P : Program} {w : World} {c : Ctx P} {S : Nat → Prop} {s : St} {a : Act} {t : Nat} {ti : TI}

/-- What is known of a block is forgotten. -/
theorem Rel.drop (h : Rel c S s a w) (b : Nat) : Rel c S { s with H := s.H.upd b none } a w := by
  have hs : ∀ d k, (s.H.upd b none) d = some k → s.H d = some k := by
    intro d k hk
    simp only [Heap.upd] at hk
    split at hk
    · cases hk
    · exact hk
  exact ⟨h.base, h.defers, h.size, ⟨h.frm.size, h.frm.old, fun d k hk => h.frm.dom d k (hs d k hk), h.frm.grow⟩, h.low, h.high, h.reps, ⟨fun d k hk => h.ok.sep d k (hs d k hk), h.ok.low, fun d k hk => h.ok.blk d k (hs d k hk)⟩⟩

/-- A block is told as it stands, otherwise. -/
theorem Rel.retell (h : Rel c S s a w) {b : Nat} {k k' : Blk} (hk : s.H b = some k) (hb : BlkRep w S b k') : Rel c S { s with H := s.H.upd b (some k') } a w := by
  refine ⟨h.base, h.defers, h.size, ⟨h.frm.size, h.frm.old, fun d q hq => ?_, h.frm.grow⟩, h.low, h.high, h.reps, ⟨fun d q hq => ?_, h.ok.low, fun d q hq => ?_⟩⟩
  all_goals
    simp only [Heap.upd] at hq
    split at hq
  · subst_vars; exact h.frm.dom _ k hk
  · exact h.frm.dom d q hq
  · subst_vars; exact h.ok.sep _ k hk
  · exact h.ok.sep d q hq
  · subst_vars; cases hq; exact hb
  · exact h.ok.blk d q hq

theorem upd_upd (H : Heap) (b : Nat) (x y : Option Blk) : (H.upd b x).upd b y = H.upd b y := by
  funext d; simp only [Heap.upd]; split <;> rfl
theorem upd_comm (H : Heap) {b d : Nat} (x y : Option Blk) (h : b ≠ d) : (H.upd b x).upd d y = (H.upd d y).upd b x := by
  funext q; simp only [Heap.upd]; split <;> split <;> simp_all

def u8row (b : UInt8) : List AV := [.v (.int .u8 b.toNat)]
def srcRows (H : Heap) (es : Nat) : AV → Option (List (List AV))
  | .ro rows => some rows
  | .sl b sz off n => match H b with
    | some k => if k.sz = es ∧ sz = es ∧ off + n ≤ k.rows.length then some ((k.rows.drop off).take n) else none
    | none => none
  | .nil => some []
  | .v (.string str) => if es = 1 then some (str.data.toList.map u8row) else none
  | _ => none

theorem src_sound {es : Nat} {x : AV} {v : Value} {news : List (List AV)} {tx : Nat} {tix : TI} (h0 : 0 < es) (hok : HeapOk w S s.H) (hx : Rep w S x v) (hs : srcRows s.H es x = some news) (hn : ∀ r ∈ news, r.length = es ∧ r.all AV.cell = true)
    (htx : tiOf P tx = some tix) (hkd : (∃ e, tix.kind = .slice e) ∨ tix.kind = .str) : ∃ us, Src P es tx v news.length us w ∧ Cells w S (flat news) us := by
  have hkd' : (∃ e', P.underlying tx = some (.slice e')) ∨ P.underlying tx = some .string := by
    obtain ⟨i, d, z, g1, g2, g3, g4, g5, g6, g7⟩ := tiOf_spec htx
    rcases hkd with ⟨e, he⟩ | he
    · exact .inl ⟨e, ti_slice htx he⟩
    · rw [he] at g7
      right
      cases d <;> simp [tkOf] at g7
      exact g2
  have mk : ∀ (A : Addr) (n c : Nat) (us : List Value), us.length = n * es → (∀ j u, us[j]? = some u → w.cell? (A.add j) = some u) → (∀ u ∈ us, u.oneCell' = true) → Src P es tx (.slice (some A) n c) n us w := by
    intro A n c us hl hu h1
    exact ⟨hkd', fun _ => rfl, run_firstCells_some w es n A n c us hl hu, run_firstCells_some w.drew es n A n c us hl (by simpa using hu), hl, h1⟩
  have mk0 : ∀ (A : Option Addr) (c : Nat), Src P es tx (.slice A 0 c) 0 [] w := by
    intro A c
    cases A with
    | none => exact ⟨hkd', fun _ => rfl, run_firstCells_none w es 0 0 c, run_firstCells_none w.drew es 0 0 c, by simp, fun _ h => by cases h⟩
    | some A => exact mk A 0 c [] (by simp) (fun j u h => by simp at h) (fun _ h => by cases h)
  cases hx with
  | roNil A c =>
    simp only [srcRows, Option.some.injEq] at hs
    subst hs
    exact ⟨[], mk0 A c, rfl, fun j x hj => by simp [flat] at hj⟩
  | nil =>
    simp only [srcRows, Option.some.injEq] at hs
    subst hs
    exact ⟨[], mk0 none 0, rfl, fun j x hj => by simp [flat] at hj⟩
  | ro b o c sz rows us hc hS hr hu hx =>
    simp only [srcRows, Option.some.injEq] at hs
    subst hs
    by_cases hne : rows = []
    · subst hne
      exact ⟨[], mk0 _ c, rfl, fun j x hj => by simp [flat] at hj⟩
    · obtain ⟨r0, hm⟩ := List.exists_mem_of_ne_nil rows hne
      obtain rfl : sz = es := (hr r0 hm).symm.trans (hn r0 hm).1
      have hd : ∀ q, q < rows.length * sz → q / sz < rows.length ∧ q % sz < sz := fun q hq => ⟨Nat.div_lt_of_lt_mul (by rw [Nat.mul_comm]; exact hq), Nat.mod_lt _ h0⟩
      have hcells : Cells w S (flat rows) ((List.range (rows.length * sz)).map fun q => us (q / sz) (q % sz)) := by
        refine ⟨by simp [flat_length _ _ hr], fun q x hq => ?_⟩
        obtain ⟨i, row, j, e1, e2, rfl⟩ := flat_inv _ _ hr q x hq
        have hlt : i * sz + j < rows.length * sz := by have := (List.getElem?_eq_some_iff.1 hq).1; rwa [flat_length _ _ hr] at this
        have hj : j < sz := by have := (List.getElem?_eq_some_iff.1 e2).1; rw [hr _ (List.mem_of_getElem? e1)] at this; exact this
        have hdiv : (i * sz + j) / sz = i := by rw [Nat.mul_comm, Nat.mul_add_div h0, Nat.div_eq_of_lt hj, Nat.add_zero]
        have hmod : (i * sz + j) % sz = j := by rw [Nat.mul_comm, Nat.mul_add_mod, Nat.mod_eq_of_lt hj]
        have hrep := hx i row e1 j x e2
        refine ⟨us i j, by simp [List.getElem?_range hlt, hdiv, hmod], hrep, hrep.cell (List.all_eq_true.1 (hn row (List.mem_of_getElem? e1)).2 x (List.mem_of_getElem? e2))⟩
      refine ⟨_, mk ⟨b, o, none⟩ rows.length c _ (by simp) (fun q u hq => ?_) hcells.one, hcells⟩
      by_cases hlt : q < rows.length * sz
      · simp only [List.getElem?_map, List.getElem?_range hlt, Option.map_some, Option.some.injEq] at hq
        subst hq
        obtain ⟨h1, h2⟩ := hd q hlt
        have := hu _ _ h1 h2
        rw [add_none]
        rw [show q / sz * sz + q % sz = q by rw [Nat.mul_comm]; exact Nat.div_add_mod q sz] at this
        exact this
      · rw [List.getElem?_eq_none (by simp; omega)] at hq
        cases hq
  | sl b sz off n o c hl ho arr ty fz hb ha =>
    simp only [srcRows] at hs
    split at hs
    · rename_i k hk
      split at hs
      · rename_i hc
        obtain ⟨h1, rfl, h2⟩ := hc
        simp only [Option.some.injEq] at hs
        subst hs
        obtain ⟨arr', e1, _⟩ := hok.blk b k hk
        obtain ⟨hcs, hsz, hr⟩ := (hok.blk b k hk).cells e1
        have hlen : ((k.rows.drop off).take n).length = n := by simp; omega
        rw [hlen]
        have hsub := (hcs.drop (off * k.sz)).take (n * k.sz)
        rw [← flat_drop _ _ _ hr, ← flat_take _ _ _ (fun row hm => hr row (List.mem_of_mem_drop hm))] at hsub
        by_cases hn0 : n = 0
        · subst hn0
          exact ⟨[], mk0 _ c, rfl, fun j x hj => by simp [flat] at hj⟩
        · have ho' := ho (by omega)
          have hA : arr'.toList.length = arr'.size := Array.length_toList
          have hmul : off * k.sz + n * k.sz ≤ k.rows.length * k.sz := by rw [← Nat.add_mul]; exact Nat.mul_le_mul_right _ h2
          refine ⟨_, mk ⟨b, o, none⟩ n c _ ?_ (fun q u hq => ?_) hsub.one, hsub⟩
          · rw [hsub.1, flat_length _ k.sz (fun row hm => hr row (List.mem_of_mem_drop (List.mem_of_mem_take hm))), hlen, h1]
          · have hlt : q < n * k.sz := by have := (List.getElem?_eq_some_iff.1 hq).1; simp at this; omega
            rw [List.getElem?_take_of_lt hlt, List.getElem?_drop, List.getElem?_take_of_lt (by omega), Array.getElem?_toList] at hq
            rw [add_none, cell_blk e1, ho', ← h1]
            exact hq
      · cases hs
    · cases hs
  | v =>
    cases v <;> simp only [srcRows] at hs <;> try cases hs
    rename_i str
    split at hs
    · rename_i h1
      subst h1
      simp only [Option.some.injEq] at hs
      subst hs
      have hl : (str.data.toList.map u8row).length = str.size := by simp
      rw [hl]
      refine ⟨byteCells str, ⟨hkd', fun _ => rfl, firstCells_string str w, firstCells_string str w.drew, by rw [byteCells_length, Nat.mul_one], fun u hu => by obtain ⟨_, _, rfl⟩ := List.mem_map.1 hu; rfl⟩, ?_, ?_⟩
      · rw [byteCells_length, flat_length _ 1 (fun row hm => by obtain ⟨b, _, rfl⟩ := List.mem_map.1 hm; rfl), hl, Nat.mul_one]
      · intro q x hq
        obtain ⟨i, row, j, e1, e2, rfl⟩ := flat_inv _ 1 (fun row hm => by obtain ⟨b, _, rfl⟩ := List.mem_map.1 hm; rfl) q x hq
        obtain ⟨b, hb, rfl⟩ : ∃ b, str.data.toList[i]? = some b ∧ u8row b = row := by simpa [Option.map_eq_some_iff] using e1
        cases j with
        | zero =>
          simp [u8row] at e2
          subst e2
          exact ⟨.int .u8 b.toNat, by simp only [byteCells, List.getElem?_map, Nat.mul_one, Nat.add_zero, hb, Option.map_some], .v _, rfl⟩
        | succ j => simp [u8row] at e2
    · cases hs
  | any => cases hs
  | rp => cases hs
  | pt => cases hs
  | agg => cases hs
  | tup => cases hs
  | fn => cases hs

theorem zero_size {e : Nat} {tie : TI} (hte : tiOf P e = some tie) (hz : tie.zero.length = tie.size) : ∃ i z, P.info? e = some i ∧ i.zero = some z ∧ i.size = tie.size ∧ i.bytes = tie.bytes ∧ z.cells.size = tie.size := by
  obtain ⟨i, d', z, g1, g2, g3, g4, g5, g6, g7⟩ := tiOf_spec hte
  exact ⟨i, z, g1, g3, g4.symm, g5.symm, by rw [← hz, g6, List.length_map, Array.length_toList]⟩

theorem zeroCells_size (z : Array Value) (n : Nat) : (Builtin.zeroCells z n).size = n * z.size := by simp [Builtin.zeroCells]

def apK (ti : TI) (e : Nat) (x src : AV) (H : Heap) (N : Nat) (K : AV → Heap → Prop) : Prop :=
  0 < ti.size ∧ ti.zero.length = ti.size ∧ ∃ news, srcRows H ti.size src = some news ∧ (∀ r ∈ news, r.length = ti.size ∧ r.all AV.cell = true) ∧
    match x with
    | .nil => news.length * ti.bytes ≤ 140737488355328 ∧ news.length ≤ 4611686018427387904 ∧ (news = [] → K .nil H) ∧ (news ≠ [] → ∀ b, H b = none → N ≤ b → K (.sl b ti.size 0 news.length) (H.upd b (some ⟨e, ti.size, news⟩)))
    | .sl b sz off len => sz = ti.size ∧ off = 0 ∧ ∃ k, H b = some k ∧ k.sz = ti.size ∧ k.ty = e ∧ len ≤ k.rows.length ∧ (len + news.length) * ti.bytes ≤ 140737488355328 ∧ len + news.length ≤ 4611686018427387904 ∧
      ∀ b', (b' = b ∨ H b' = none ∧ N ≤ b') → K (.sl b' ti.size 0 (len + news.length)) ((H.upd b none).upd b' (some ⟨e, ti.size, k.rows.take len ++ news⟩))
    | _ => False

theorem apK_sound {e tx ty : Nat} {tie tix : TI} {x y : AV} {u v : Value} {d : Option Tmp} {K : St → Prop} (ht : tiOf P t = some ti) (hs : ti.kind = .slice e) (hte : tiOf P e = some tie) (htx : tiOf P tx = some tix) (hkd : (∃ e, tix.kind = .slice e) ∨ tix.kind = .str)
    (h : Rel c S s a w) (hx : Rep w S x u) (hy : Rep w S y v) (hd : s.fits d) (hk : apK tie e x y s.H s.N (s.out d K)) : ∃ s' r w', K s' ∧ (Builtin.append_ #[t, tx] ty #[u, v]).run P w = .ok r w' ∧ Rel c S s' (a.put d r) w' := by
  obtain ⟨h0, hz, news, hsrc, hn, hk⟩ := hk
  have hun := ti_slice ht hs
  obtain ⟨i, z, g1, g2, g3, g4, g5⟩ := zero_size hte hz
  obtain ⟨us, hS, hcn⟩ := src_sound h0 h.ok hy hsrc hn htx hkd
  have hS' : Src P i.size tx v news.length us w := by rw [g3]; exact hS
  have hrn : ∀ r ∈ news, r.length = tie.size := fun r hm => (hn r hm).1
  have hdrew : Rel c S s a w.drew := h.heap rfl ⟨rfl, rfl, rfl⟩
  split at hk
  · obtain ⟨hb1, hb2, hk0, hk1⟩ := hk
    cases hx
    by_cases hne : news = []
    · subst hne
      have hus : us = [] := by have := hcn.1; simp [flat] at this; exact this
      subst hus
      exact ⟨_, _, _, hk0 rfl, run_append_nothing w t tx ty e i hun g1 none 0 0 (Nat.le_refl _) v hS', h.put hd .nil⟩
    · have hpos : 0 < news.length := List.length_pos_iff.2 hne
      have hrun := run_append_grow_src (ty := ty) w t tx e i z hun g1 g2 none 0 0 [] (by simp [run_firstCells_none]) v news.length us hS' (by omega) (by omega) (by
        have := nextslicecap_le (need := news.length) (old := 0) (by omega)
        have h2 := Nat.mul_le_mul_right i.bytes this
        rw [g4] at h2 ⊢
        rw [Nat.mul_assoc] at h2
        rw [Nat.zero_add]
        omega)
      obtain ⟨hnew, hN, hrel⟩ := hdrew.alloc (ty := e) (arr := (([] ++ us).toArray ++ Builtin.zeroCells z.cells (grownCap w (0 + news.length) 0 e - (0 + news.length)))) (sz := tie.size) (rows := news) (us := us) hrn (by simp; rfl) (hcn.mono (fun _ h => h) (fun b _ => rfl) ⟨Nat.le_refl _, fun b arr ty fz hb => ⟨arr, hb, rfl⟩, ⟨rfl, rfl, rfl⟩⟩)
      refine ⟨_, _, _, hk1 hne _ hnew hN, hrun, hrel.put hd ?_⟩
      simp only [Nat.zero_add]
      have hcap := grownCap_ge w (0 + news.length) 0 e
      refine .sl _ _ _ _ 0 _ (by simpa using hcap) (fun _ => by simp) _ e (0, 0) (alloc_new w.drew _) ?_
      have hul : us.length = news.length * tie.size := by rw [hcn.1, flat_length _ _ hrn]
      simp only [Array.size_append, List.size_toArray, List.nil_append, zeroCells_size, g5, hul, Nat.zero_add] at hcap ⊢
      rw [← Nat.add_mul]
      exact Nat.mul_le_mul_right _ (by omega)
  · rename_i b sz off len
    obtain ⟨rfl, rfl, k, hb, hks, hkt, hlen, hb1, hb2, hk⟩ := hk
    cases hx with
    | sl _ _ _ _ o cap hl ho arr0 ty0 fz0 hbb ha =>
      obtain ⟨arr, e1, _⟩ := h.ok.blk b k hb
      obtain ⟨hcs, hsz, hr⟩ := (h.ok.blk b k hb).cells e1
      rw [hbb] at e1
      cases e1
      rw [hks] at hcs hsz hr
      have hA : arr0.toList.length = arr0.size := Array.length_toList
      have hlenm : len * tie.size ≤ k.rows.length * tie.size := Nat.mul_le_mul_right _ hlen
      have hul : us.length = news.length * tie.size := by rw [hcn.1, flat_length _ _ hrn]
      have hcold : Cells w S (flat (k.rows.take len)) (arr0.toList.take (len * tie.size)) := by
        have := hcs.take (len * tie.size)
        rw [← flat_take _ _ _ hr, List.take_take, Nat.min_eq_left hlenm] at this
        exact this
      have hrows : ∀ row ∈ k.rows.take len ++ news, row.length = tie.size := by
        intro row hm
        rcases List.mem_append.1 hm with hm | hm
        · exact hr row (List.mem_of_mem_take hm)
        · exact hrn row hm
      have hall : Cells w S (flat (k.rows.take len ++ news)) (arr0.toList.take (len * tie.size) ++ us) := by rw [flat_append]; exact hcold.append hcn
      by_cases hne : news = []
      · subst hne
        have hus : us = [] := by have := hcn.1; simp [flat] at this; exact this
        subst hus
        have hrel := h.retell hb (k' := ⟨e, tie.size, k.rows.take len ++ []⟩) (blk_of_cells (rest := arr0.toList.drop (len * tie.size)) (by rw [hkt] at hbb; exact hbb) hrows hall (by simp))
        rw [← upd_upd s.H b none] at hrel
        refine ⟨_, _, _, hk b (.inl rfl), run_append_nothing w t tx ty e i hun g1 (some ⟨b, o, none⟩) len cap hl v hS', hrel.put hd ?_⟩
        exact .sl b tie.size 0 len o cap hl ho arr0 _ _ hbb ha
      · have hpos : 0 < news.length := List.length_pos_iff.2 hne
        by_cases hroom : len + news.length ≤ cap
        · have ho' : o = 0 := by have := ho (by omega); simpa using this
          subst ho'
          have hfit : len * tie.size + us.length ≤ arr0.size := by
            have := Nat.mul_le_mul_right tie.size hroom
            rw [Nat.zero_add] at ha
            rw [Nat.add_mul] at this
            omega
          have hst := run_storeCells_at P b (len * tie.size) k.ty us 0 arr0 w hbb (by omega) hcn.one
          simp only [Nat.add_zero] at hst
          have hrun : (Builtin.append_ #[t, tx] ty #[.slice (some ⟨b, 0, none⟩) len cap, v]).run P w = .ok (.slice (some ⟨b, 0, none⟩) (len + news.length) cap) (w.setRow b (arr0.toList.take (len * tie.size) ++ us ++ arr0.toList.drop (len * tie.size + us.length)).toArray) := by
            rcases hS'.kind with ⟨e', hk'⟩ | hk' <;> simp [Builtin.append_, run_underlying hun, run_underlying hk', sizeOf, typeInfo, g1, hS'.len, hroom, hS.cells, Addr.add_lit, g3, hst]
          have hrel := h.setRow hb (cur := arr0) (new := (arr0.toList.take (len * tie.size) ++ us ++ arr0.toList.drop (len * tie.size + us.length)).toArray) hbb (by simp; omega) (rows := k.rows.take len ++ news) (by rw [hks]; exact hrows) (us := arr0.toList.take (len * tie.size) ++ us) (rest := arr0.toList.drop (len * tie.size + us.length)) (by simp) hall
          rw [← upd_upd s.H b none, hks, hkt] at hrel
          refine ⟨_, _, _, hk b (.inl rfl), hrun, hrel.put hd ?_⟩
          refine .sl b tie.size 0 _ 0 cap hroom (fun _ => by simp) _ _ _ (setRow_self' hbb) ?_
          have hnew : (arr0.toList.take (len * tie.size) ++ us ++ arr0.toList.drop (len * tie.size + us.length)).toArray.size = arr0.size := by simp; omega
          rw [hnew]
          exact ha
        · have hold : (Builtin.firstCells i.size len (.slice (some ⟨b, o, none⟩) len cap)).run P w.drew = .ok (arr0.toList.take (len * tie.size)).toArray w.drew := by
            refine run_firstCells_some w.drew i.size len _ len cap _ (by rw [g3]; simp; omega) (fun j q hj => ?_)
            have hlt : j < len * tie.size := by have := (List.getElem?_eq_some_iff.1 hj).1; simp at this; omega
            have hl0 : 0 < len := by rcases Nat.eq_zero_or_pos len with h | h; · rw [h, Nat.zero_mul] at hlt; omega
                                     · exact h
            have ho' : o = 0 := by have := ho (by omega); simpa using this
            rw [List.getElem?_take_of_lt hlt, Array.getElem?_toList] at hj
            rw [add_none, ho', Nat.zero_add]
            show w.drew.cell? _ = _
            have : w.drew.cell? ⟨b, j, none⟩ = w.cell? ⟨b, j, none⟩ := rfl
            rw [this, cell_blk hbb]
            exact hj
          have hrun := run_append_grow_src (ty := ty) w t tx e i z hun g1 g2 (some ⟨b, o, none⟩) len cap _ hold v news.length us hS' (by omega) (by omega) (by
            have := nextslicecap_le (need := len + news.length) (old := cap) (by omega)
            have h2 := Nat.mul_le_mul_right i.bytes this
            rw [g4] at h2 ⊢
            rw [Nat.mul_assoc] at h2
            omega)
          obtain ⟨hnew, hN, hrel⟩ := hdrew.alloc (ty := e) (arr := ((arr0.toList.take (len * tie.size) ++ us).toArray ++ Builtin.zeroCells z.cells (grownCap w (len + news.length) cap e - (len + news.length)))) (sz := tie.size) (rows := k.rows.take len ++ news) (us := arr0.toList.take (len * tie.size) ++ us) hrows (by simp; rfl) (hall.mono (fun _ h => h) (fun b _ => rfl) ⟨Nat.le_refl _, fun b arr ty fz hb => ⟨arr, hb, rfl⟩, ⟨rfl, rfl, rfl⟩⟩)
          have hne' : b ≠ w.heap.size := by rintro rfl; rw [show s.H w.heap.size = none from hnew] at hb; cases hb
          have hrel2 := hrel.drop b
          rw [upd_comm s.H (b := w.drew.heap.size) (d := b) _ _ (Ne.symm hne')] at hrel2
          refine ⟨_, _, _, hk w.heap.size (.inr ⟨hnew, hN⟩), hrun, hrel2.put hd ?_⟩
          have hcap := grownCap_ge w (len + news.length) cap e
          refine .sl _ _ _ _ 0 _ hcap (fun _ => by simp) _ e (0, 0) (alloc_new w.drew _) ?_
          have hol : (arr0.toList.take (len * tie.size)).length = len * tie.size := by simp; omega
          simp only [Array.size_append, List.size_toArray, List.length_append, zeroCells_size, g5, hul, hol, Nat.zero_add]
          rw [← Nat.add_mul, ← Nat.add_mul]
          exact Nat.mul_le_mul_right _ (by omega)
  · exact hk.elim
end
end Go.AF
