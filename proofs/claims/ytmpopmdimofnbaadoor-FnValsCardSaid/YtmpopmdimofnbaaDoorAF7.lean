import Derived.Test.YtmpopmdimofnbaaDoorAF6
/-! Structs and slice literals, copy, the other builtins; contracts. -/
namespace Go.AF
set_option linter.unusedVariables false
set_option linter.unusedSimpArgs false
open Go

section
variable {P : Program} {w : World} {c : Ctx P} {S : Nat → Prop} {s : St} {a : Act} {t : Nat} {ti : TI}

/-- Parts of a literal and their values. -/
def Parts (w : World) (S : Nat → Prop) (ps : List (Nat × AV)) (qs : List (Nat × Value)) : Prop := qs.length = ps.length ∧ ∀ (j : Nat) (p : Nat × AV) (q : Nat × Value), ps[j]? = some p → qs[j]? = some q → p.1 = q.1 ∧ Rep w S p.2 q.2

theorem parts_get (h : Rel c S s a w) (ps : List (Nat × Operand)) : Parts w S (ps.map fun p => (p.1, s.get p.2)) (ps.map fun p => (p.1, a.eval p.2)) := by
  refine ⟨by simp, fun j p q hp hq => ?_⟩
  simp only [List.getElem?_map, Option.map_eq_some_iff] at hp hq
  obtain ⟨x, hx, rfl⟩ := hp
  obtain ⟨y, hy, rfl⟩ := hq
  rw [hx] at hy
  cases hy
  exact ⟨rfl, h.get _⟩

def placeOf (fs : List (Nat × Nat × Nat)) (i : Nat) : Option (Nat × Nat) := (fs[i]?).map fun g => (g.1, g.2.2)

def buildK (ti : TI) (ps : List (Nat × AV)) (K : AV → Prop) : Prop :=
  match ti.kind with
  | .struct fs => (fs.all fun g => g.2.2 != 0) = true ∧ ∃ out, fillA (placeOf fs) ti.zero ps = some out ∧ K (.agg out)
  | _ => False

theorem mapM_places (fl : List Field) (h : (fl.map fun f => (f.offset, f.type, P.cellsOf f.type)).all (fun g => g.2.2 != 0) = true) :
    fl.mapM (fun f => (P.info? f.type).map fun i => (f.offset, i.size)) = some (fl.map fun f => (f.offset, P.cellsOf f.type)) := by
  induction fl with
  | nil => rfl
  | cons f r ih =>
    simp only [List.map_cons, List.all_cons, Bool.and_eq_true] at h
    have h1 : P.cellsOf f.type ≠ 0 := by simpa using h.1
    cases hi : P.info? f.type with
    | none => simp [Program.cellsOf, hi] at h1
    | some i =>
      rw [List.mapM_cons, ih h.2]
      simp [hi, Program.cellsOf]

theorem buildK_sound {ps : List (Nat × AV)} {qs : Array (Nat × Value)} {K : AV → Prop} (ht : tiOf P t = some ti) (hp : Parts w S ps qs.toList) (hk : buildK ti ps K) : ∃ y v, K y ∧ (Instr.build t qs).run P w = .ok v w ∧ Rep w S y v := by
  unfold buildK at hk
  split at hk
  · rename_i fs hfs
    obtain ⟨hall, out, hf, hk⟩ := hk
    obtain ⟨fl, hu, rfl⟩ := ti_struct ht hfs
    obtain ⟨i, d, z, g1, g2, g3, g4, g5, g6, g7⟩ := tiOf_spec ht
    have hz : Vals w S ti.zero z.cells.toList := by
      rw [g6]
      refine ⟨by simp, fun j x u hx hu => ?_⟩
      simp only [List.getElem?_map, Option.map_eq_some_iff] at hx
      obtain ⟨u', h1, rfl⟩ := hx
      rw [hu] at h1
      cases h1
      exact rep_constCell u
    obtain ⟨arr, h1, h2⟩ := fillA_sound ps qs.toList ti.zero out z.cells hp.1 hp.2 hz hf
    have hb : P.built t qs.toList = some arr := by
      simp only [Program.built, g1, hu, g3, mapM_places (P := P) fl.toList hall]
      rw [← h1]
      congr 1
      funext i
      simp [placeOf]
      rfl
    refine ⟨_, _, hk, run_build w t qs arr hb, ?_⟩
    have := Rep.agg (W := w) (S := S) out arr.toList h2.1.symm (fun j x u hx hu => h2.2 j x u hx hu)
    simpa using this
  · exact hk.elim

def chunk (sz n : Nat) (xs : List AV) : List (List AV) := (List.range n).map fun i => (xs.drop (i * sz)).take sz
theorem chunk_len (sz n : Nat) (xs : List AV) (h : xs.length = n * sz) : ∀ r ∈ chunk sz n xs, r.length = sz := by
  intro r hr
  obtain ⟨i, hi, rfl⟩ := List.mem_map.1 hr
  have hi' := List.mem_range.1 hi
  have := Nat.mul_le_mul_right sz (show i + 1 ≤ n by omega)
  rw [Nat.succ_mul] at this
  simp; omega
theorem flat_chunk (sz : Nat) : ∀ (n : Nat) (xs : List AV), xs.length = n * sz → flat (chunk sz n xs) = xs := by
  intro n
  induction n with
  | zero => intro xs h; simp at h; simp [chunk, flat, h]
  | succ n ih =>
    intro xs h
    have h2 := ih (xs.drop sz) (by simp [h, Nat.succ_mul])
    have e : chunk sz (n + 1) xs = xs.take sz :: chunk sz n (xs.drop sz) := by
      simp only [chunk, List.range_succ_eq_map, List.map_cons, Nat.zero_mul, List.drop_zero, List.map_map]
      congr 1
      apply List.map_congr_left
      intro i _
      simp only [Function.comp, List.drop_drop, Nat.succ_mul]
      rw [Nat.add_comm]
    rw [e]
    simp only [flat, List.flatten_cons] at h2 ⊢
    rw [h2, List.take_append_drop]

def bsK (ti : TI) (e n : Nat) (ps : List (Nat × AV)) (H : Heap) (N : Nat) (K : AV → Heap → Prop) : Prop :=
  0 < ti.size ∧ n * ti.size ≤ 16777216 ∧ ∃ out, fillA (fun i => some (i * ti.size, ti.size)) (List.replicate (n * ti.size) .any) ps = some out ∧ out.all AV.cell = true ∧ out.length = n * ti.size ∧
    ∀ b, H b = none → N ≤ b → K (.sl b ti.size 0 n) (H.upd b (some ⟨e, ti.size, chunk ti.size n out⟩))

theorem Vals.cells {xs : List AV} {us : List Value} (h : Vals w S xs us) (hc : xs.all AV.cell = true) : Cells w S xs us := by
  refine ⟨h.1, fun j x hj => ?_⟩
  have hlt : j < us.length := by rw [h.1]; exact (List.getElem?_eq_some_iff.1 hj).1
  have hr := h.2 j x _ hj (List.getElem?_eq_getElem hlt)
  exact ⟨_, List.getElem?_eq_getElem hlt, hr, hr.cell (List.all_eq_true.1 hc x (List.mem_of_getElem? hj))⟩

theorem bsK_sound {e n : Nat} {tie : TI} {ps : List (Nat × AV)} {qs : Array (Nat × Value)} {d : Option Tmp} {K : St → Prop} (ht : tiOf P t = some ti) (hs : ti.kind = .slice e) (hte : tiOf P e = some tie) (h : Rel c S s a w) (hp : Parts w S ps qs.toList) (hd : s.fits d)
    (hk : bsK tie e n ps s.H s.N (s.out d K)) : ∃ s' r w', K s' ∧ (Instr.buildSlice t n qs).run P w = .ok r w' ∧ Rel c S s' (a.put d r) w' := by
  obtain ⟨h0, h24, out, hf, hc, hol, hk⟩ := hk
  have hun := ti_slice ht hs
  obtain ⟨i, d', z, g1, g2, g3, g4, g5, g6, g7⟩ := tiOf_spec hte
  obtain ⟨arr0, harr0, hsz0⟩ : ∃ arr0 : Array Value, arr0 = (Array.range (n * i.size)).map (z.cells[· % z.cells.size]!) ∧ arr0.size = n * i.size := ⟨_, rfl, by simp⟩
  have hv0 : Vals w S (List.replicate (n * tie.size) .any) arr0.toList := by
    refine ⟨by simp [hsz0, g4], fun j x u hx hu => ?_⟩
    rw [List.getElem?_replicate] at hx
    split at hx
    · cases hx; exact .any _
    · cases hx
  obtain ⟨arr, h1, h2⟩ := fillA_sound ps qs.toList _ out arr0 hp.1 hp.2 hv0 hf
  have hrun : (Instr.buildSlice t n qs).run P w = .ok (.slice (some ⟨w.heap.size, 0, none⟩) n n) (w.alloc (.cells arr e)) := by
    by_cases hn : n = 0
    · subst hn
      have h3 : arr0 = #[] := by apply Array.eq_empty_of_size_eq_zero; rw [hsz0, Nat.zero_mul]
      rw [h3] at h1
      simp [Instr.buildSlice, run_underlying hun, sizeOf, typeInfo, g1, newRow]
      have e0 : Array.map (fun _ : Nat => (default : Value)) (Array.range 0) = #[] := by simp
      rw [e0]
      simp only [← g4, h1]
      simp
    · refine run_buildSlice w t e n qs arr i z hun g1 g3 (by rw [← g4]; omega) (by rw [← g4]; intro h9; rcases Nat.mul_eq_zero.1 h9 with h9 | h9 <;> omega) ?_
      rw [← harr0, ← g4]
      exact h1
  have hcells := h2.cells hc
  obtain ⟨hn, hN, hrel⟩ := h.alloc (arr := arr) (ty := e) (sz := tie.size) (rows := chunk tie.size n out) (us := arr.toList) (rest := []) (chunk_len _ _ _ hol) (by simp) (by rw [flat_chunk _ _ _ hol]; exact hcells)
  refine ⟨_, _, _, hk _ hn hN, hrun, hrel.put hd ?_⟩
  refine .sl _ _ _ _ 0 _ (Nat.le_refl _) (fun _ => by simp) arr e (0, 0) (alloc_new w _) ?_
  have : arr.size = n * tie.size := by rw [← Array.length_toList, h2.1, hol]
  rw [this, Nat.zero_add]
  exact Nat.le_refl _

/-! copy of whole sources of one cell an element. -/
def cpK (ti : TI) (x src : AV) (H : Heap) (K : AV → Heap → Prop) : Prop :=
  ti.size = 1 ∧ ∃ news, srcRows H 1 src = some news ∧ (∀ r ∈ news, r.length = 1 ∧ r.all AV.cell = true) ∧
    match x with
    | .sl b sz off len => sz = 1 ∧ ∃ k, H b = some k ∧ k.sz = 1 ∧ off + len ≤ k.rows.length ∧ news.length ≤ len ∧
        K (.v (.int .i64 news.length)) (H.upd b (some ⟨k.ty, 1, splice k.rows off news⟩))
    | _ => False

theorem flat_singles (rows : List (List AV)) (h : ∀ r ∈ rows, r.length = 1) (off : Nat) (news : List (List AV)) (hn : ∀ r ∈ news, r.length = 1) : flat (splice rows off news) = splice (flat rows) off (flat news) := by
  have e1 := flat_take rows 1 off h
  have e2 := flat_drop rows 1 (off + news.length) h
  have e3 := flat_length news 1 hn
  simp only [Nat.mul_one] at e1 e2 e3
  simp only [splice, flat_append, e1, e2, e3]

theorem cpK_sound {e tx ty : Nat} {tie tix : TI} {x y : AV} {u v : Value} {d : Option Tmp} {K : St → Prop} (ht : tiOf P t = some ti) (hs : ti.kind = .slice e) (hte : tiOf P e = some tie) (htx : tiOf P tx = some tix) (hkd : (∃ e, tix.kind = .slice e) ∨ tix.kind = .str)
    (h : Rel c S s a w) (hx : Rep w S x u) (hy : Rep w S y v) (hd : s.fits d) (hk : cpK tie x y s.H (s.out d K)) : ∃ s' r w', K s' ∧ (Builtin.copy_ #[t, tx] ty #[u, v]).run P w = .ok r w' ∧ Rel c S s' (a.put d r) w' := by
  obtain ⟨h1, news, hsrc, hn, hk⟩ := hk
  have hun := ti_slice ht hs
  obtain ⟨us, hS, hcn⟩ := src_sound (s := s) (by omega) h.ok hy hsrc hn htx hkd
  have hrn : ∀ r ∈ news, r.length = 1 := fun r hm => (hn r hm).1
  have hul : us.length = news.length := by rw [hcn.1, flat_length _ _ hrn, Nat.mul_one]
  split at hk
  · rename_i b sz off len
    obtain ⟨rfl, k, hb, hks, hle, hnl, hk⟩ := hk
    cases hx with
    | sl _ _ _ _ o cap hl ho arr0 ty0 fz0 hbb ha =>
      obtain ⟨arr, e1, _⟩ := h.ok.blk b k hb
      obtain ⟨hcs, hsz, hr⟩ := (h.ok.blk b k hb).cells e1
      rw [hbb] at e1
      cases e1
      rw [hks] at hcs hsz hr
      simp only [Nat.mul_one] at hsz ha hcs ho
      have hsi := ti_size (w := w) hte
      rw [h1] at hsi
      have hmin : Nat.min news.length len = news.length := Nat.min_eq_left hnl
      have hA : arr0.toList.length = arr0.size := Array.length_toList
      by_cases hcap : 0 < cap
      · have ho' := ho hcap
        subst ho'
        have hst := run_storeCells_at P b o k.ty us 0 arr0 w hbb (by omega) hcn.one
        simp only [Nat.add_zero] at hst
        have hrun : (Builtin.copy_ #[t, tx] ty #[.slice (some ⟨b, o, none⟩) len cap, v]).run P w = .ok (goInt news.length) (w.setRow b (splice arr0.toList o us).toArray) := by
          simp only [splice]
          simp [Builtin.copy_, run_underlying hun, hsi, hS.len, hmin, hS.cells]
          have hst' : (storeCells ⟨b, o, none⟩ us).run P w = _ := hst
          simp [hst']
        have hT : (arr0.toList.take k.rows.length).length = k.rows.length := by rw [List.length_take]; omega
        have hspl : splice arr0.toList o us = splice (arr0.toList.take k.rows.length) o us ++ arr0.toList.drop k.rows.length := by
          apply List.ext_getElem?
          intro q
          have hle1 : o + us.length ≤ arr0.toList.length := by omega
          have hle2 : o + us.length ≤ (arr0.toList.take k.rows.length).length := by omega
          rw [splice_get hle1]
          by_cases hq : q < k.rows.length
          · rw [List.getElem?_append_left (by rw [splice_length hle2]; omega), splice_get hle2, List.getElem?_take_of_lt hq]
          · rw [if_neg (by omega), List.getElem?_append_right (by rw [splice_length hle2]; omega), splice_length hle2, List.getElem?_drop]
            congr 1
            omega
        have hfn : (flat news).length = news.length := by rw [flat_length _ _ hrn, Nat.mul_one]
        have hfr : (flat k.rows).length = k.rows.length := by rw [flat_length _ _ hr, Nat.mul_one]
        have hrel := h.setRow hb (cur := arr0) (new := (splice arr0.toList o us).toArray) hbb (by simp only [List.size_toArray]; rw [splice_length (by omega)]; exact hA) (rows := splice k.rows o news)
          (by intro row hm; rw [hks]; simp only [splice, List.mem_append] at hm; rcases hm with (hm | hm) | hm
              · exact hr row (List.mem_of_mem_take hm)
              · exact hrn row hm
              · exact hr row (List.mem_of_mem_drop hm)) hspl
          (by rw [flat_singles k.rows hr o news hrn]; exact hcs.splice hcn (by omega))
        rw [hks] at hrel
        exact ⟨_, _, _, hk, hrun, hrel.put hd (.v _)⟩
      · have hlen0 : len = 0 := by omega
        have hn0 : news = [] := List.eq_nil_of_length_eq_zero (by omega)
        subst hn0
        have hus : us = [] := List.eq_nil_of_length_eq_zero (by simpa using hul)
        subst hus
        have hrun : (Builtin.copy_ #[t, tx] ty #[.slice (some ⟨b, o, none⟩) len cap, v]).run P w = .ok (goInt 0) w := by
          have hc0 := hS.cells
          simp at hc0
          simp [Builtin.copy_, run_underlying hun, hsi, hS.len, hlen0, hc0, storeCells]
        have hrel := h.retell hb (k' := ⟨k.ty, 1, splice k.rows off []⟩) (by
          have e : splice k.rows off ([] : List (List AV)) = k.rows := by simp [splice]
          rw [e]
          have := h.ok.blk b k hb
          obtain ⟨ty', sz', rows'⟩ := k
          simp only at hks
          subst hks
          exact this)
        exact ⟨_, _, _, hk, hrun, hrel.put hd (.v _)⟩
  · exact hk.elim

/-! Bytes to a string. -/
def cvS (H : Heap) (x : AV) (K : AV → Prop) : Prop := (∀ q, x ≠ .v (.string q)) ∧ ∃ bs : List UInt8, srcRows H 1 x = some (bs.map u8row) ∧ K (.v (.string ⟨bs.toArray⟩))

theorem push_all : ∀ (bs : List UInt8) (r : ByteArray), (bs.map fun b => ((b.toNat : Nat) : Int)).foldl (fun r n => r.push (UInt8.ofNat n.toNat)) r = ⟨r.data ++ bs.toArray⟩ := by
  intro bs
  induction bs with
  | nil => intro r; simp
  | cons b bs ih =>
    intro r
    simp only [List.map_cons, List.foldl_cons, ih]
    congr 1
    simp [ByteArray.push]

theorem flat_u8 (bs : List UInt8) : flat (bs.map u8row) = bs.map fun b => .v (.int .u8 b.toNat) := by
  induction bs with
  | nil => rfl
  | cons b bs ih => simp only [flat, List.map_cons, List.flatten_cons] at ih ⊢; rw [ih]; rfl

theorem cvS_sound {src dst e : Nat} {tis ti tie : TI} {x : AV} {v : Value} {K : AV → Prop} (hs : tiOf P src = some tis) (hd : tiOf P dst = some ti) (hks : tis.kind = .slice e) (hkd : ti.kind = .str) (hte : tiOf P e = some tie) (hke : tie.kind = .int .u8)
    (h : Rel c S s a w) (hx : Rep w S x v) (hk : cvS s.H x K) : ∃ y r, K y ∧ (convert src dst v).run P w = .ok r w ∧ Rep w S y r := by
  obtain ⟨hns, bs, h1, h2⟩ := hk
  obtain ⟨us, h3, h4⟩ := src_sound (s := s) (tx := src) (by decide) h.ok hx h1 (fun r hr => by
    obtain ⟨b, _, rfl⟩ := List.mem_map.1 hr
    exact ⟨rfl, rfl⟩) hs (.inl ⟨e, hks⟩)
  rw [flat_u8] at h4
  have hus : us = bs.map fun b => Value.int .u8 b.toNat := by
    apply List.ext_getElem?
    intro j
    have hl : us.length = bs.length := by rw [h4.1]; simp
    by_cases hj : j < bs.length
    · obtain ⟨u, hu, hr, _⟩ := h4.2 j (.v (.int .u8 (bs[j]).toNat)) (by simp [hj])
      rw [hu, rep_v hr]
      simp [hj]
    · rw [List.getElem?_eq_none (by omega), List.getElem?_eq_none (by simp; omega)]
  have hun := ti_slice hs hks
  have hue : P.underlying e = some (.int .u8) := by
    obtain ⟨i, d, z, g1, g2, g3, g4, g5, g6, g7⟩ := tiOf_spec hte
    rw [hke] at g7
    cases d <;> simp [tkOf] at g7
    subst g7
    exact g2
  have hud : P.underlying dst = some .string := by
    obtain ⟨i, d, z, g1, g2, g3, g4, g5, g6, g7⟩ := tiOf_spec hd
    rw [hkd] at g7
    cases d <;> simp [tkOf] at g7
    exact g2
  have key : ∀ (A : Option Addr) (n cp : Nat), v = .slice A n cp → n = bs.length → ∃ y r, K y ∧ (convert src dst v).run P w = .ok r w ∧ Rep w S y r := by
    intro A n cp hv hn
    refine ⟨_, .string ⟨bs.toArray⟩, h2, ?_, .v _⟩
    subst hv
    rw [run_convert_bytes_string w src dst e A n cp hun hue hud]
    cases A with
    | none =>
      have hb : bs = [] := by
        have h5 := h3.cells
        simp only [Builtin.firstCells, Sem.run_pure, Result.ok.injEq, and_true] at h5
        rw [hus] at h5
        have := congrArg Array.size h5
        simp at this
        exact List.length_eq_zero_iff.1 this.symm
      subst hb
      rfl
    | some A =>
      have hload : (loadCells A n).run P w = .ok ((bs.map fun b => ((b.toNat : Nat) : Int)).map (Value.int .u8)).toArray w := by
        have h5 := h3.cells
        simp only [Builtin.firstCells, List.length_map, Nat.mul_one] at h5
        rw [hn, h5, hus]
        simp [Function.comp_def]
      rw [run_bytesToString w A n cp _ hload, push_all]
      simp
  cases hx with
  | sl b sz off n o c hl ho arr ty fz hb ha =>
    refine key _ _ _ rfl ?_
    simp only [srcRows] at h1
    split at h1
    · split at h1
      · rename_i hc
        simp only [Option.some.injEq] at h1
        have := congrArg List.length h1
        simp at this
        omega
      · cases h1
    · cases h1
  | nil =>
    refine key _ _ _ rfl ?_
    simp only [srcRows, Option.some.injEq] at h1
    have := congrArg List.length h1
    simpa using this
  | roNil A c =>
    refine key _ _ _ rfl ?_
    simp only [srcRows, Option.some.injEq] at h1
    have := congrArg List.length h1
    simpa using this
  | ro b o c sz rows us hc hS hr hu hx =>
    refine key _ _ _ rfl ?_
    simp only [srcRows, Option.some.injEq] at h1
    have := congrArg List.length h1
    simpa using this
  | v => 
    cases v <;> simp only [srcRows] at h1 <;> try cases h1
    exact absurd rfl (hns _)
  | _ => cases h1

/-! Contracts. -/
/-- Called with what reads so, own blocks being handed over: it returns what post tells; what else there was stays. -/
def CallsA (P : Program) (f : FuncId) (xs : List AV) (H : Heap) (post : AV → Heap → Prop) : Prop :=
  ∀ (W : World) (S : Nat → Prop) (us : List Value), Vals W S xs us → HeapOk W S H → Tabs P W S →
    Calls P f us.toArray W fun e W' => ∃ v r H' S', e = .returned v ∧ post r H' ∧ Rep W' S' r v ∧ HeapOk W' S' H' ∧ (∀ b, S b → S' b) ∧ (∀ b, S' b → S b ∨ W.heap.size ≤ b) ∧ Frm ⟨W, S, fun b => (H b).isSome = true⟩ W' H'

def callable (P : Program) (f : FuncId) : Bool :=
  match P.funcs[f]? with
  | some fn => !(fn.name == "runtime.NumGoroutine") && fn.body.isSome
  | none => false

theorem callable_run {f : FuncId} (h : callable P f = true) (us : Array Value) : (callFunc f us).run P w = .ok (.enter f us) w := by
  unfold callable at h
  split at h
  · rename_i fn hf
    simp only [Bool.and_eq_true, Bool.not_eq_true'] at h
    obtain ⟨body, hb⟩ := Option.isSome_iff_exists.1 h.2
    have h1 : fn.name ≠ "runtime.NumGoroutine" := by simpa using h.1
    simp [callFunc, hf, h1, hb]
  · cases h
end
end Go.AF
