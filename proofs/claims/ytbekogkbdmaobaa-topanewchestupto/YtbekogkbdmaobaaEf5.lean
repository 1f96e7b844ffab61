/- Each operation of the machine does what the resolved operation says (second part: memory, numbers, structs, slices). No conditions. -/
import Derived.Test.YtbekogkbdmaobaaEf4
namespace Go.EF
open Go Go.RowKit

def OpOK (P : Program) (G : Gh) (st : St) (x : AV) (w : World) (s : Sem Next) : Prop :=
  ∃ nx y w' G', s.run P w = .ok nx w' ∧ (nx = .value y ∨ (nx = .skip ∧ y = undef)) ∧ G.le G' ∧ Rel P G' st w' ∧ VRel G' x y

section
variable {P : Program} {G : Gh} {st : St} {w : World} {x : AV}

theorem OpOK.same {s : Sem Value} {y : Value} (h : s.run P w = .ok y w) (hR : Rel P G st w) (hv : VRel G x y) : OpOK P G st x w (do pure (Next.value (← s))) :=
  ⟨.value y, y, w, G, by simp [h], .inl rfl, .refl _, hR, hv⟩

theorem OpOK.val {s : Sem Value} {y : Value} {w' : World} {G' : Gh} {st' : St} (h : s.run P w = .ok y w') (hle : G.le G') (hR : Rel P G' st' w') (hv : VRel G' x y) : OpOK P G st' x w (do pure (Next.value (← s))) :=
  ⟨.value y, y, w', G', by simp [h], .inl rfl, hle, hR, hv⟩

theorem OpOK.unit {s : Sem Unit} {w' : World} {G' : Gh} {st' : St} (h : s.run P w = .ok () w') (hle : G.le G') (hR : Rel P G' st' w') : OpOK P G st' .junk w (do s; pure Next.skip) :=
  ⟨.skip, undef, w', G', by simp [h], .inr ⟨rfl, rfl⟩, hle, hR, by simp [VRel]⟩

/-! ### loads -/
theorem loadVar_agg {t : TypeId} {sz b off : Nat} {vs : Array Value} {e : TypeId} {fr : Nat × Nat} (hg : tagg P t = some true) (hs : tsize P t = some sz) (hb : w.heap[b]? = some (.cells vs e fr)) (ho : off + sz ≤ vs.size) :
    (loadVar t ⟨b, off, none⟩).run P w = .ok (.agg (vs.extract off (off + sz))) w := by
  simp [loadVar, run_isAgg_of hg, run_sizeOf_of hs, run_loadCells hb ho]

theorem loadVar_one {t : TypeId} {b off : Nat} {vs : Array Value} {e : TypeId} {fr : Nat × Nat} {y : Value} (hg : tagg P t = some false) (hb : w.heap[b]? = some (.cells vs e fr)) (ho : vs[off]? = some y) :
    (loadVar t ⟨b, off, none⟩).run P w = .ok y w := by
  simp [loadVar, run_isAgg_of hg, cell_of_block hb, ho]

theorem extract_list (vs : Array Value) (off sz : Nat) : (vs.extract off (off + sz)).toList = (vs.toList.drop off).take sz := by
  simp only [Array.toList_extract, List.extract_eq_drop_take']
  rw [List.drop_take]; congr 1; omega

theorem getCells_block {g : Bool} {cs : List AV} {vs : Array Value} {sz off : Nat} {t e : TypeId} {b : Nat} {fr : Nat × Nat} (h : getCells cs g sz off = some x) (r : VRels G cs vs.toList) (hg : tagg P t = some g) (hs : tsize P t = some sz)
    (hb : w.heap[b]? = some (.cells vs e fr)) : ∃ y, (loadVar t ⟨b, off, none⟩).run P w = .ok y w ∧ VRel G x y := by
  unfold getCells at h
  cases g with
  | true =>
    simp only [if_true] at h
    split at h
    · rename_i hc; cases h
      have hl := r.length
      refine ⟨_, loadVar_agg hg hs hb (by simp at hl; omega), ?_⟩
      simp only [VRel]
      exact ⟨_, rfl, by rw [extract_list]; exact (r.drop off).take sz⟩
    · cases h
  | false =>
    simp only [Bool.false_eq_true, if_false] at h
    obtain ⟨y, h1, h2⟩ := r.get off x h
    exact ⟨y, loadVar_one hg hb (by simpa using h1), h2⟩

theorem getCells_pre {g : Bool} {cs : List AV} {vs : Array Value} {sz off : Nat} {t e : TypeId} {b : Nat} {fr : Nat × Nat} (h : getCells cs g sz off = some x) (r : VRels G cs (vs.toList.take cs.length)) (hg : tagg P t = some g) (hs : tsize P t = some sz)
    (hb : w.heap[b]? = some (.cells vs e fr)) : ∃ y, (loadVar t ⟨b, off, none⟩).run P w = .ok y w ∧ VRel G x y := by
  unfold getCells at h
  have hlr := r.length
  rw [List.length_take] at hlr
  cases g with
  | true =>
    simp only [if_true] at h
    split at h
    · rename_i hc; cases h
      have hl : cs.length ≤ vs.toList.length := by omega
      refine ⟨_, loadVar_agg hg hs hb (by simp at hl; omega), ?_⟩
      simp only [VRel]
      refine ⟨_, rfl, ?_⟩
      have := (r.drop off).take sz
      rw [List.drop_take, List.take_take, Nat.min_eq_left (by omega)] at this
      rw [extract_list]; exact this
    · cases h
  | false =>
    simp only [Bool.false_eq_true, if_false] at h
    obtain ⟨y, h1, h2⟩ := r.get off x h
    rw [List.getElem?_take] at h1
    split at h1
    · exact ⟨y, loadVar_one hg hb (by simpa using h1), h2⟩
    · cases h1

theorem fz_block (hR : Rel P G st w) {b o : Nat} {ys : List Value} (hf : FzAt G b o ys) (hne : ys ≠ []) :
    ∃ vs t fr, w.heap[b]? = some (.cells vs t fr) ∧ ∀ i y, ys[i]? = some y → vs[o + i]? = some y := by
  cases ys with
  | nil => exact absurd rfl hne
  | cons y ys =>
    obtain ⟨vs, t, fr, h1, _⟩ := hR.fzok b (o + 0) y (hf 0 y rfl)
    refine ⟨vs, t, fr, h1, fun i z e => ?_⟩
    obtain ⟨vs', t', fr', h1', h2⟩ := hR.fzok b (o + i) z (hf i z e)
    rw [h1] at h1'; cases h1'; exact h2

theorem fz_extract {vs : Array Value} {o off sz : Nat} {ys : List Value} (h : ∀ i y, ys[i]? = some y → vs[o + i]? = some y) (hl : off + sz ≤ ys.length) : o + off + sz ≤ vs.size ∨ sz = 0 := by
  cases sz with
  | zero => exact .inr rfl
  | succ sz =>
    refine .inl ?_
    have h1 : off + sz < ys.length := by omega
    have := h (off + sz) _ (List.getElem?_eq_getElem h1)
    have := (Array.getElem?_eq_some_iff.1 this).1
    omega

theorem fz_drop {vs : Array Value} {o off sz : Nat} {ys : List Value} (h : ∀ i y, ys[i]? = some y → vs[o + i]? = some y) (hl : off + sz ≤ ys.length) : (vs.extract (o + off) (o + off + sz)).toList = (ys.drop off).take sz := by
  rw [extract_list]
  apply List.ext_getElem?
  intro i
  rw [List.getElem?_take, List.getElem?_take]
  by_cases hi : i < sz
  · rw [if_pos hi, if_pos hi, List.getElem?_drop, List.getElem?_drop]
    have h1 : off + i < ys.length := by omega
    rw [List.getElem?_eq_getElem h1]
    have := h (off + i) _ (List.getElem?_eq_getElem h1)
    rw [Array.getElem?_toList, ← this]; congr 1; omega
  · rw [if_neg hi, if_neg hi]

theorem getCells_fz {g : Bool} {cs : List AV} {ys : List Value} {sz off : Nat} {t : TypeId} {b o : Nat} (h : getCells cs g sz off = some x) (r : VRels G cs ys) (hg : tagg P t = some g) (hs : tsize P t = some sz)
    (hR : Rel P G st w) (hf : FzAt G b o ys) : ∃ y, (loadVar t ⟨b, o + off, none⟩).run P w = .ok y w ∧ VRel G x y := by
  unfold getCells at h
  have hl := r.length
  cases g with
  | true =>
    simp only [if_true] at h
    split at h
    · rename_i hc; cases h
      obtain ⟨vs, e, fr, h1, h2⟩ := fz_block hR hf (fun e => by subst e; simp at hl; subst hl; simp at hc; omega)
      rcases fz_extract h2 (off := off) (sz := sz) (by omega) with h3 | h3
      · refine ⟨_, loadVar_agg hg hs h1 h3, ?_⟩
        simp only [VRel]
        exact ⟨_, rfl, by rw [fz_drop h2 (by omega)]; exact (r.drop off).take sz⟩
      · omega
    · cases h
  | false =>
    simp only [Bool.false_eq_true, if_false] at h
    obtain ⟨y, h1, h2⟩ := r.get off x h
    obtain ⟨vs, e, fr, h3, h4⟩ := fz_block hR hf (fun e => by subst e; simp at h1)
    exact ⟨y, loadVar_one hg h3 (h4 off y h1), h2⟩

theorem ok_load {t : TypeId} {g : Bool} {sz : Nat} {a : AV} {ya : Value} (hg : tagg P t = some g) (hs : tsize P t = some sz) (hR : Rel P G st w) (ra : VRel G a ya) (h : loadS st g sz a = some x) :
    OpOK P G st x w (do pure (Next.value (← Instr.loadAt t ya))) := by
  cases a <;> simp only [loadS, reduceCtorEq] at h
  · rename_i a off
    simp only [VRel] at ra; obtain ⟨b, h1, rfl⟩ := ra
    split at h
    · rename_i cs hcs
      obtain ⟨b', vs, e, h2, h3, h4⟩ := hR.obj _ _ _ hcs h1
      rw [h1] at h2; cases h2
      obtain ⟨y, h5, h6⟩ := getCells_block h h4 hg hs h3
      exact OpOK.same (by simpa [Instr.loadAt, Instr.sureAddr] using h5) hR h6
    · rename_i cs hcs
      obtain ⟨b', vs, e, h2, h3, h4, h5⟩ := hR.obj _ _ _ hcs h1
      rw [h1] at h2; cases h2
      obtain ⟨y, h5, h6⟩ := getCells_pre h h5 hg hs h3
      exact OpOK.same (by simpa [Instr.loadAt, Instr.sureAddr] using h5) hR h6
    · cases h
  · rename_i cs off
    simp only [VRel] at ra; obtain ⟨b, o, ys, rfl, h2, h3⟩ := ra
    obtain ⟨y, h5, h6⟩ := getCells_fz h h3 hg hs hR h2
    exact OpOK.same (by simpa [Instr.loadAt, Instr.sureAddr] using h5) hR h6

/-! ### stores -/
theorem toArray_splice (vs : Array Value) (o : Nat) (ys : List Value) : (spliceA vs o ys).toList = splice vs.toList o ys := by simp [spliceA]

theorem put_cells (hR : Rel P G st w) {a b : Nat} {cs xs : List AV} {vs : Array Value} {t : TypeId} {ys : List Value} (o : Nat) (hcs : st.get a = some (.cells cs)) (hmu : G.mu a = some b) (hb : w.heap[b]? = some (.cells vs t (0, 0))) (hv : VRels G cs vs.toList)
    (hx : VRels G xs ys) : Rel P G (st.set a (.cells (splice cs o xs))) (w.putObj b (.cells (spliceA vs o ys) t (0, 0))) := by
  refine hR.put_obj _ _ hmu (by intro l s e; cases e) ⟨b, _, t, hmu, World.putObj_heap_same (Array.getElem?_eq_some_iff.1 hb).1, ?_⟩ (fun rec e => by rw [hb] at e; cases e) (fun d e => by rw [hb] at e; cases e)
  rw [toArray_splice]; exact hv.splice hx o

theorem take_splice {α : Type} {vs : List α} {o n : Nat} {ys : List α} (h : o + ys.length ≤ n) (hn : n ≤ vs.length) : (splice vs o ys).take n = splice (vs.take n) o ys := by
  apply List.ext_getElem?
  intro i
  rw [List.getElem?_take, splice_get (by omega), splice_get (by simp; omega)]
  by_cases hi : i < n
  · simp only [hi, if_true, List.getElem?_take]
  · have : ¬ i < o := by omega
    have h2 : ¬ i < o + ys.length := by omega
    simp [hi, this, h2, List.getElem?_take]

theorem put_vec (hR : Rel P G st w) {a b : Nat} {cs xs : List AV} {vs : Array Value} {t : TypeId} {ys : List Value} (o : Nat) (hcs : st.get a = some (.vec cs)) (hmu : G.mu a = some b) (hb : w.heap[b]? = some (.cells vs t (0, 0))) (hl : cs.length ≤ vs.size) (hv : VRels G cs (vs.toList.take cs.length))
    (hx : VRels G xs ys) (ho : o + ys.length ≤ cs.length) : Rel P G (st.set a (.vec (splice cs o xs))) (w.putObj b (.cells (spliceA vs o ys) t (0, 0))) := by
  have hlx := hx.length
  have hlen : (splice cs o xs).length = cs.length := splice_length (by omega)
  refine hR.put_obj _ _ hmu (by intro l s e; cases e) ⟨b, _, t, hmu, World.putObj_heap_same (Array.getElem?_eq_some_iff.1 hb).1, ?_, ?_⟩ (fun rec e => by rw [hb] at e; cases e) (fun d e => by rw [hb] at e; cases e)
  · rw [hlen, ← Array.length_toList, toArray_splice, splice_length (by simp; omega)]; simpa using hl
  · rw [hlen, toArray_splice, take_splice ho (by simpa using hl)]; exact hv.splice hx o

theorem ok_store {t : TypeId} {sz : Nat} {a v : AV} {ya yv : Value} {st' : St} (hs : tsize P t = some sz) (hR : Rel P G st w) (ra : VRel G a ya) (rv : VRel G v yv) (h : storeS st sz a v = some st') :
    OpOK P G st' .junk w (do Instr.storeAt t ya yv; pure Next.skip) := by
  cases a <;> simp only [storeS, reduceCtorEq] at h
  rename_i a off
  simp only [VRel] at ra; obtain ⟨b, h1, rfl⟩ := ra
  split at h
  · rename_i cs hcs
    split at h
    · rename_i hc; cases h
      obtain ⟨c1, c2, c3, c4⟩ := hc
      obtain ⟨b', vs, e, h2, h3, h4⟩ := hR.obj _ _ _ hcs h1
      rw [h1] at h2; cases h2
      have rc := cells_rel c1 rv
      have hl := rc.length
      have hl4 := h4.length
      refine OpOK.unit ?_ (.refl _) (put_cells hR off hcs h1 h3 h4 rc)
      have hsz : yv.cells.size = sz := by simp at hl; omega
      simp only [Instr.storeAt, Instr.sureAddr, Sem.run_bind, Sem.run_pure, Result.andThen_ok, storeVar, run_sizeOf_of hs, hsz, ne_eq, not_true_eq_false, if_false]
      exact run_storeCells yv.cells.toList 0 w b off vs e h3 (ones_rel c2 rc) (by simp at *; omega)
    · cases h
  · rename_i cs hcs
    split at h
    · rename_i hc; cases h
      obtain ⟨c1, c2, c3, c4⟩ := hc
      obtain ⟨b', vs, e, h2, h3, h5, h4⟩ := hR.obj _ _ _ hcs h1
      rw [h1] at h2; cases h2
      have rc := cells_rel c1 rv
      have hl := rc.length
      refine OpOK.unit ?_ (.refl _) (put_vec hR off hcs h1 h3 h5 h4 rc (by omega))
      have hsz : yv.cells.size = sz := by simp at hl; omega
      simp only [Instr.storeAt, Instr.sureAddr, Sem.run_bind, Sem.run_pure, Result.andThen_ok, storeVar, run_sizeOf_of hs, hsz, ne_eq, not_true_eq_false, if_false]
      exact run_storeCells yv.cells.toList 0 w b off vs e h3 (ones_rel c2 rc) (by simp at *; omega)
    · cases h
  · cases h

/-! ### new variables -/
theorem new_cells (hR : Rel P G st w) {cs : List AV} {vs : Array Value} (t : TypeId) (hv : VRels G cs vs.toList) :
    ∃ G', G.le G' ∧ Rel P G' (st.alloc (.cells cs)) (w.alloc (.cells vs t)) ∧ G'.mu st.next = some w.heap.size := by
  obtain ⟨G', h1, h2, h3, _⟩ := hR.alloc_obj (.cells cs) (.cells vs t) (by intro l s e; cases e) (fun G' hle hmu => ⟨_, vs, t, hmu, World.alloc_heap_new _ _, hv.mono hle⟩)
  exact ⟨G', h1, h2, h3⟩

theorem ok_alloc {t : TypeId} {z : List AV} (hz : tzero P t = some z) (hR : Rel P G st w) : OpOK P G (st.alloc (.cells z)) (.ptr st.next 0) w (do pure (Next.value (← Instr.alloc t true (.tuple #[])))) := by
  obtain ⟨v, i, _, _, _, h1, h2⟩ := tzero_run hz
  obtain ⟨G', g1, g2, g3⟩ := new_cells hR t (h2 G)
  refine OpOK.val (y := .pointer (some ⟨w.heap.size, 0, none⟩)) ?_ g1 g2 (by simp [VRel, g3])
  simp [Instr.alloc, h1, newVar, newRow]

theorem ok_box {t : TypeId} {v : AV} {y : Value} (hv : v.boxable = true) (hR : Rel P G st w) (r : VRel G v y) : OpOK P G (st.alloc (.cells v.cells)) (.ptr st.next 0) w (do pure (Next.value (← Instr.box t y))) := by
  obtain ⟨G', g1, g2, g3⟩ := new_cells hR t (cells_rel hv r)
  refine OpOK.val (y := .pointer (some ⟨w.heap.size, 0, none⟩)) ?_ g1 g2 (by simp [VRel, g3])
  simp [Instr.box, newVar, newRow]

/-! ### iterators over strings -/
theorem ok_srange {t : TypeId} {s : ByteArray} {y : Value} (ht : P.underlying t = some .string) (hR : Rel P G st w) (r : VRel G (.v (.string s)) y) : OpOK P G (st.alloc (.sit s 0)) (.ptr st.next 0) w (do pure (Next.value (← Instr.range t y))) := by
  simp only [VRel] at r; subst r
  obtain ⟨G', h1, h2, h3, _⟩ := hR.alloc_obj (.sit s 0) (.stringIter s 0) (by intro l s e; cases e) (fun G' hle hmu => ⟨_, hmu, World.alloc_heap_new _ _⟩)
  refine OpOK.val (y := .pointer (some ⟨w.heap.size, 0, none⟩)) ?_ h1 h2 (by simp [VRel, h3])
  simp [Instr.range, run_underlying_of ht]

theorem ok_snext {ty : TypeId} {s : ByteArray} {a pos : Nat} {y : Value} (hR : Rel P G st w) (r : VRel G (.ptr a 0) y) (hs : st.get a = some (.sit s pos)) :
    (pos < s.size → OpOK P G (st.set a (.sit s (pos + (Utf8.decode s pos).2))) (.tup [.bool true, .int pos, .v (.int .i32 (Utf8.decode s pos).1)]) w (do pure (Next.value (← Instr.next y true ty)))) ∧
    (¬ pos < s.size → OpOK P G st (.tup [.bool false]) w (do pure (Next.value (← Instr.next y true ty)))) := by
  simp only [VRel] at r; obtain ⟨b, hmu, rfl⟩ := r
  obtain ⟨b', q1, q2⟩ := hR.obj _ _ _ hs hmu
  rw [hmu] at q1; cases q1
  have hb := (Array.getElem?_eq_some_iff.1 q2).1
  have hg : (getObj b).run P w = .ok (.stringIter s pos) w := by simp [getObj, Sem.run, q2]
  have hset : ∀ o, (setObj b o).run P w = .ok () (w.putObj b o) := fun o => by simp [setObj, Sem.run, q2, World.putObj]
  constructor
  · intro hp
    refine OpOK.val (y := .tuple #[.bool true, goInt pos, .int .i32 (Utf8.decode s pos).1]) ?_ (.refl _) (hR.put_obj (.sit s (pos + (Utf8.decode s pos).2)) (.stringIter s (pos + (Utf8.decode s pos).2)) hmu (by intro l s e; cases e) ⟨b, hmu, World.putObj_heap_same hb⟩ (fun rec e => by rw [q2] at e; cases e) (fun x e => by rw [q2] at e; cases e)) ?_
    · simp [Instr.next, hg, hset, hp]
    · simp [VRel, VRels, goInt]
  · intro hp
    refine OpOK.val (y := .tuple #[.bool false]) ?_ (.refl _) hR (by simp [VRel, VRels])
    simp [Instr.next, hg, hp]

/-! ### build -/
theorem foldl_splice (vs : Array Value) : ∀ (us : List Value) (k off : Nat) (cs : Array Value), off + k + us.length ≤ cs.size →
    ((us.zipIdx k).foldl (fun cs (c, j) => cs.setIfInBounds (off + j) c) cs).toList = splice cs.toList (off + k) us
  | [], k, off, cs, _ => by simp [splice_nil]
  | u :: us, k, off, cs, h => by
    simp only [List.length_cons] at h
    simp only [List.zipIdx_cons, List.foldl_cons]
    rw [foldl_splice vs us (k + 1) off _ (by simp; omega), splice_cons (by simp; omega)]
    simp [Nat.add_assoc]

theorem fill_rel {G : Gh} {N : Nat} {fr : Nat → AV} {a : Act} (hF : FrRel G N fr a.tmps) (pl : Nat → Option (Nat × Nat)) : ∀ (parts : List (Nat × Operand)) (ps : List (Nat × Nat × Opd)) (cs cs' : List AV) (vs : Array Value),
    compParts pl parts = some ps → fillA (·.ev fr) cs ps = some cs' → VRels G cs vs.toList →
    ∃ vs', Instr.fill pl vs (parts.map fun (i, x) => (i, a.eval x)) = some vs' ∧ VRels G cs' vs'.toList
  | [], ps, cs, cs', vs, h1, h2, h3 => by
    simp only [compParts, Option.some.injEq] at h1; subst h1
    simp only [fillA, Option.some.injEq] at h2; subst h2
    exact ⟨vs, rfl, h3⟩
  | (i, o) :: parts, ps, cs, cs', vs, h1, h2, h3 => by
    simp only [compParts] at h1
    split at h1
    · rename_i off sz o' r e1 e2 e3; cases h1
      simp only [fillA] at h2
      split at h2
      · rename_i hc
        obtain ⟨c1, c2, c3⟩ := hc
        have rv := opd_rel (a := a) e2 hF
        have rc := cells_rel c1 rv
        have hl := rc.length; have hl3 := h3.length
        have hsz : (a.eval o).cells.size = sz := by simp at hl; omega
        have hoff : off + sz ≤ vs.size := by simp at hl3; omega
        obtain ⟨vs', g1, g2⟩ := fill_rel hF pl parts r _ cs' ((a.eval o).cells.zipIdx.foldl (fun cs (c, j) => cs.setIfInBounds (off + j) c) vs) e3 h2 (by
          rw [← Array.foldl_toList, Array.toList_zipIdx, foldl_splice vs _ 0 off vs (by simp; omega)]
          exact h3.splice rc off)
        refine ⟨vs', ?_, g2⟩
        simp only [List.map_cons, Instr.fill, e1]
        rw [if_neg (by simp [hsz]; omega)]
        exact g1
      · cases h2
    · cases h1

theorem mapM_some_get {α β : Type} (f : α → Sem β) (g : α → Option β) (hfg : ∀ a b, g a = some b → ∀ w, (f a).run P w = .ok b w) : ∀ (l : List α) (l' : List β), l.mapM g = some l' → ∀ w, (l.mapM f).run P w = .ok l' w
  | [], l', h, w => by simp at h; subst h; simp
  | a :: l, l', h, w => by
    simp only [List.mapM_cons, Option.bind_eq_bind, Option.bind_eq_some_iff, Option.pure_def, Option.some.injEq] at h
    obtain ⟨b, h1, l'', h2, rfl⟩ := h
    simp [List.mapM_cons, hfg a b h1, mapM_some_get f g hfg l l'' h2]

end
end Go.EF
