/- Runs of the machine's small operations over a block of cells that is known whole; steps of the relation. No conditions. -/
import Derived.Test.YtbekogkbdmaobaaEf2
namespace Go.EF
open Go Go.RowKit

theorem add_none (b o n : Nat) : (⟨b, o, none⟩ : Addr).add n = ⟨b, o + n, none⟩ := by
  unfold Addr.add; split
  · subst n; rfl
  · rfl

def spliceA (cs : Array Value) (o : Nat) (vs : List Value) : Array Value := (splice cs.toList o vs).toArray

theorem splice_length {α : Type} {cs : List α} {o : Nat} {xs : List α} (h : o + xs.length ≤ cs.length) : (splice cs o xs).length = cs.length := by
  unfold splice; simp; omega

theorem splice_get {α : Type} {cs : List α} {o : Nat} {xs : List α} (h : o + xs.length ≤ cs.length) (i : Nat) :
    (splice cs o xs)[i]? = if i < o then cs[i]? else if i < o + xs.length then xs[i - o]? else cs[i]? := by
  unfold splice
  rw [List.append_assoc, List.getElem?_append]
  have hl : (cs.take o).length = o := by simp; omega
  rw [hl]
  by_cases h1 : i < o
  · rw [if_pos h1, if_pos h1, List.getElem?_take_of_lt h1]
  · rw [if_neg h1, if_neg h1, List.getElem?_append]
    by_cases h2 : i < o + xs.length
    · rw [if_pos h2, if_pos (by omega)]
    · rw [if_neg h2, if_neg (by omega), List.getElem?_drop]
      congr 1; omega

theorem splice_nil {α : Type} (cs : List α) (o : Nat) : splice cs o [] = cs := by unfold splice; simp

theorem splice_cons {α : Type} {cs : List α} {o : Nat} {x : α} {xs : List α} (h : o + (xs.length + 1) ≤ cs.length) : splice cs o (x :: xs) = splice (cs.set o x) (o + 1) xs := by
  apply List.ext_getElem?
  intro i
  rw [splice_get (by simpa using h), splice_get (by simp; omega)]
  simp only [List.length_cons, List.getElem?_set]
  by_cases h1 : i < o
  · rw [if_pos h1, if_pos (by omega), if_neg (by omega)]
  · by_cases h2 : i = o
    · subst h2
      rw [if_neg h1, if_pos (by omega), if_pos (by omega), if_pos rfl, if_pos (by omega)]; simp
    · rw [if_neg h1, if_neg (by omega : ¬ i < o + 1)]
      by_cases h3 : i < o + (xs.length + 1)
      · rw [if_pos h3, if_pos (by omega)]
        obtain ⟨k, hk⟩ : ∃ k, i - o = k + 1 := ⟨i - o - 1, by omega⟩
        rw [hk, List.getElem?_cons_succ]; congr 1; omega
      · rw [if_neg h3, if_neg (by omega), if_neg (by omega)]

theorem cell_of_block {w : World} {b o : Nat} {cs : Array Value} {t : TypeId} {fr : Nat × Nat} (h : w.heap[b]? = some (.cells cs t fr)) : w.cell? ⟨b, o, none⟩ = cs[o]? := by
  simp [World.cell?, h]

theorem frozen_of_block {w : World} {b o : Nat} {cs : Array Value} {t : TypeId} (h : w.heap[b]? = some (.cells cs t (0, 0))) : w.frozen? ⟨b, o, none⟩ = false := by
  simp [World.frozen?, h]

theorem setCell_put {w : World} {b o : Nat} {cs : Array Value} {t : TypeId} {v : Value} (h : w.heap[b]? = some (.cells cs t (0, 0))) :
    w.setCell ⟨b, o, none⟩ v = w.putObj b (.cells (cs.setIfInBounds o v) t (0, 0)) := by
  have hb : b < w.heap.size := (Array.getElem?_eq_some_iff.1 h).1
  unfold World.setCell World.putObj
  congr 1
  apply Array.ext_getElem?
  intro i
  rw [Array.getElem?_modify, Array.getElem?_setIfInBounds]
  by_cases hi : b = i
  · subst hi; rw [if_pos rfl, if_pos rfl, h, if_pos hb]; rfl
  · simp [hi]

theorem putObj_put {w : World} {b : Nat} {o o' : Obj} : (w.putObj b o).putObj b o' = w.putObj b o' := by
  unfold World.putObj; congr 1; simp

theorem putObj_self {w : World} {b : Nat} {o : Obj} (h : w.heap[b]? = some o) : w.putObj b o = w := by
  have : w.heap.setIfInBounds b o = w.heap := by
    apply Array.ext_getElem?
    intro i
    rw [Array.getElem?_setIfInBounds]
    by_cases hi : b = i
    · subst hi; rw [if_pos rfl, if_pos (Array.getElem?_eq_some_iff.1 h).1, h]
    · rw [if_neg hi]
  unfold World.putObj; rw [this]

theorem run_storeCells {P : Program} : ∀ (vs : List Value) (i : Nat) (w : World) (b o : Nat) (cs : Array Value) (t : TypeId), w.heap[b]? = some (.cells cs t (0, 0)) →
    (∀ v ∈ vs, v.oneCell' = true) → o + i + vs.length ≤ cs.size →
    (storeCells ⟨b, o, none⟩ vs i).run P w = .ok () (w.putObj b (.cells (spliceA cs (o + i) vs) t (0, 0)))
  | [], i, w, b, o, cs, t, h, _, _ => by
    unfold storeCells spliceA; rw [splice_nil]; simp only [Sem.run_pure, Array.toArray_toList]; rw [putObj_self h]
  | v :: vs, i, w, b, o, cs, t, h, h1, h2 => by
    have hb : b < w.heap.size := (Array.getElem?_eq_some_iff.1 h).1
    simp only [List.length_cons] at h2
    unfold storeCells
    rw [Sem.run_bind, add_none, run_store _ _ _ _ _ (h1 v (List.mem_cons_self ..)), cell_of_block h]
    have hlt : o + i < cs.size := by omega
    rw [Array.getElem?_eq_getElem hlt]
    simp only [frozen_of_block h, Bool.false_eq_true, if_false, Result.andThen_ok, setCell_put h]
    rw [run_storeCells vs (i + 1) _ b o (cs.setIfInBounds (o + i) v) t (World.putObj_heap_same hb) (fun x hx => h1 x (List.mem_cons_of_mem _ hx)) (by simp; omega), putObj_put]
    congr 3
    unfold spliceA
    rw [splice_cons (by simp; omega)]
    simp [Nat.add_assoc]

theorem run_loadCellsFrom {P : Program} : ∀ (n i : Nat) (acc : Array Value) (w : World) (b o : Nat) (cs : Array Value) (t : TypeId) (fr : Nat × Nat), w.heap[b]? = some (.cells cs t fr) →
    o + i + n ≤ cs.size → (loadCellsFrom ⟨b, o, none⟩ i n acc).run P w = .ok (acc ++ cs.extract (o + i) (o + i + n)) w
  | 0, i, acc, w, b, o, cs, t, fr, h, hn => by simp [loadCellsFrom]; omega
  | n + 1, i, acc, w, b, o, cs, t, fr, h, hn => by
    unfold loadCellsFrom
    have hlt : o + i < cs.size := by omega
    rw [Sem.run_bind, add_none, run_load, cell_of_block h, Array.getElem?_eq_getElem hlt]
    simp only [Result.andThen_ok]
    rw [run_loadCellsFrom n (i + 1) _ w b o cs t fr h (by omega)]
    congr 1
    apply Array.ext_getElem?
    intro k
    simp only [Array.getElem?_append, Array.size_push, Array.getElem?_push, Array.getElem?_extract]
    by_cases h1 : k < acc.size
    · rw [if_pos (by omega), if_neg (by omega), if_pos h1]
    · by_cases h2 : k = acc.size
      · subst h2; rw [if_pos (by omega), if_pos rfl, if_neg (by omega)]; simp only [Nat.sub_self, Nat.add_zero]; rw [if_pos (by omega), Array.getElem?_eq_getElem hlt]
      · rw [if_neg (by omega), if_neg h1]
        by_cases h3 : k - acc.size < n + 1
        · rw [if_pos (by omega), if_pos (by omega)]; congr 1; omega
        · rw [if_neg (by omega), if_neg (by omega)]

theorem run_loadCells {P : Program} {n : Nat} {w : World} {b o : Nat} {cs : Array Value} {t : TypeId} {fr : Nat × Nat} (h : w.heap[b]? = some (.cells cs t fr)) (hn : o + n ≤ cs.size) :
    (loadCells ⟨b, o, none⟩ n).run P w = .ok (cs.extract o (o + n)) w := by
  unfold loadCells; rw [run_loadCellsFrom n 0 #[] w b o cs t fr h (by omega)]; simp

/-! ### VRels, by places -/
theorem VRels.length {G : Gh} : ∀ {xs : List AV} {ys : List Value}, VRels G xs ys → xs.length = ys.length
  | [], ys, h => by simp only [VRels] at h; subst h; rfl
  | x :: xs, ys, h => by
    simp only [VRels] at h; obtain ⟨y, ys', rfl, _, h⟩ := h; simp [VRels.length h]

theorem VRels.get {G : Gh} : ∀ {xs : List AV} {ys : List Value}, VRels G xs ys → ∀ (i : Nat) (x : AV), xs[i]? = some x → ∃ y, ys[i]? = some y ∧ VRel G x y
  | [], ys, h, i, x, e => by simp at e
  | x :: xs, ys, h, i, z, e => by
    simp only [VRels] at h; obtain ⟨y, ys', rfl, hy, h⟩ := h
    cases i with
    | zero => simp at e; subst e; exact ⟨y, by simp, hy⟩
    | succ i => simp at e; obtain ⟨y', e', hy'⟩ := VRels.get h i z e; exact ⟨y', by simpa using e', hy'⟩

theorem VRels.of_get {G : Gh} : ∀ {xs : List AV} {ys : List Value}, xs.length = ys.length → (∀ (i : Nat) (x : AV) (y : Value), xs[i]? = some x → ys[i]? = some y → VRel G x y) → VRels G xs ys
  | [], ys, hl, _ => by simp only [VRels]; cases ys with | nil => rfl | cons => simp at hl
  | x :: xs, [], hl, _ => by simp at hl
  | x :: xs, y :: ys, hl, h => by
    simp only [VRels]
    exact ⟨y, ys, rfl, h 0 x y (by simp) (by simp), VRels.of_get (by simpa using hl) fun i a b ha hb => h (i + 1) a b (by simpa using ha) (by simpa using hb)⟩

theorem VRels.rel {G : Gh} {xs : List AV} {ys : List Value} (h : VRels G xs ys) {i : Nat} {x : AV} {y : Value} (hx : xs[i]? = some x) (hy : ys[i]? = some y) : VRel G x y := by
  obtain ⟨y', e, r⟩ := h.get i x hx
  rw [hy] at e; cases e; exact r

theorem VRels.append {G : Gh} {xs xs' : List AV} {ys ys' : List Value} (h : VRels G xs ys) (h' : VRels G xs' ys') : VRels G (xs ++ xs') (ys ++ ys') := by
  have l1 := h.length; have l2 := h'.length
  refine VRels.of_get (by simp [l1, l2]) fun i x y hx hy => ?_
  rw [List.getElem?_append] at hx hy
  by_cases hi : i < xs.length
  · rw [if_pos hi] at hx; rw [if_pos (by omega)] at hy; exact h.rel hx hy
  · rw [if_neg hi] at hx; rw [if_neg (by omega)] at hy; rw [← l1] at hy; exact h'.rel hx hy

theorem VRels.take {G : Gh} {xs : List AV} {ys : List Value} (h : VRels G xs ys) (n : Nat) : VRels G (xs.take n) (ys.take n) := by
  refine VRels.of_get (by simp [h.length]) fun i x y hx hy => ?_
  rw [List.getElem?_take] at hx hy
  by_cases hi : i < n
  · rw [if_pos hi] at hx hy; exact h.rel hx hy
  · rw [if_neg hi] at hx; cases hx

theorem VRels.drop {G : Gh} {xs : List AV} {ys : List Value} (h : VRels G xs ys) (n : Nat) : VRels G (xs.drop n) (ys.drop n) := by
  refine VRels.of_get (by simp [h.length]) fun i x y hx hy => ?_
  rw [List.getElem?_drop] at hx hy
  exact h.rel hx hy

theorem VRels.splice {G : Gh} {xs zs : List AV} {ys us : List Value} (h : VRels G xs ys) (hz : VRels G zs us) (o : Nat) : VRels G (splice xs o zs) (splice ys o us) := by
  unfold EF.splice; rw [hz.length]
  exact ((h.take o).append hz).append (h.drop _)

theorem VRels.rep {G : Gh} {xs : List AV} {ys : List Value} (h : VRels G xs ys) : ∀ n, VRels G (rep xs n) (rep ys n)
  | 0 => by simp [EF.rep, VRels]
  | n + 1 => h.append (VRels.rep h n)

theorem ObjRel.mono {P : Program} {G G' : Gh} {w w' : World} {a : Nat} {o : AObj} (hG : G.le G') (hb : ∀ b, G.mu a = some b → w'.heap[b]? = w.heap[b]?) (h : ObjRel P G w a o) : ObjRel P G' w' a o := by
  cases o with
  | cells cs =>
    obtain ⟨b, vs, t, h1, h2, h3⟩ := h
    exact ⟨b, vs, t, hG.mu _ _ h1, by rw [hb b h1]; exact h2, h3.mono hG⟩
  | vec cs =>
    obtain ⟨b, vs, t, h1, h2, h4, h3⟩ := h
    exact ⟨b, vs, t, hG.mu _ _ h1, by rw [hb b h1]; exact h2, h4, h3.mono hG⟩
  | arr => trivial
  | map es clock =>
    obtain ⟨b, rs, h1, h2, h3⟩ := h
    refine ⟨b, rs, hG.mu _ _ h1, by rw [hb b h1]; exact h2, ?_⟩
    clear h2
    revert h3; generalize rs.toList = l
    induction es generalizing l with
    | nil => exact id
    | cons e es ih => rintro ⟨r, rs', e1, e2, e3, e4, e5⟩; exact ⟨r, rs', e1, e2, e3, e4.mono hG, ih _ e5⟩
  | sit s pos =>
    obtain ⟨b, h1, h2⟩ := h
    exact ⟨b, hG.mu _ _ h1, by rw [hb b h1]; exact h2⟩
  | loop s p fr N ps asg body =>
    obtain ⟨b, rec, h1, h2, h3, h4, h5, h6, h7, h8, h9⟩ := h
    exact ⟨b, rec, hG.mu _ _ h1, by rw [hb b h1]; exact h2, h3, h4, h5, h6, h7, ⟨h8.1, fun i => (h8.2 i).mono hG⟩, h9⟩

namespace St
theorem get_alloc_new (s : St) (o : AObj) : (s.alloc o).get s.next = some o := by simp [get, alloc, next]
theorem get_alloc_old (s : St) (o : AObj) {a : Nat} (h : a < s.next) : (s.alloc o).get a = s.get a := by
  simp only [get, alloc, next] at *; rw [List.getElem?_append_left h]
theorem next_alloc (s : St) (o : AObj) : (s.alloc o).next = s.next + 1 := by simp [next, alloc]
theorem next_set (s : St) (a : Nat) (o : AObj) : (s.set a o).next = s.next := by simp [next, set]
theorem get_set_same (s : St) {a : Nat} (o : AObj) (h : a < s.next) : (s.set a o).get a = some o := by simp only [get, set, next] at *; simp [h]
theorem get_set_ne (s : St) {a a' : Nat} (o : AObj) (h : a ≠ a') : (s.set a o).get a' = s.get a' := by simp only [get, set]; simp [h]
theorem lt_of_get {s : St} {a : Nat} {o : AObj} (h : s.get a = some o) : a < s.next := by
  simp only [get, next] at *
  exact (List.getElem?_eq_some_iff.1 h).1
theorem get_alloc (s : St) (o : AObj) (a : Nat) : (s.alloc o).get a = if a = s.next then some o else s.get a := by
  by_cases h : a = s.next
  · subst h; rw [get_alloc_new, if_pos rfl]
  · rw [if_neg h]
    by_cases h' : a < s.next
    · exact get_alloc_old s o h'
    · simp only [get, alloc, next] at *; rw [List.getElem?_append_right (by omega), List.getElem?_eq_none (by simp; omega), List.getElem?_eq_none (by omega)]
theorem get_set (s : St) (a : Nat) (o : AObj) (a' : Nat) : (s.set a o).get a' = if a' = a then (if a < s.next then some o else none) else s.get a' := by
  by_cases h : a' = a
  · subst h; rw [if_pos rfl]; by_cases h : a' < s.next
    · rw [if_pos h, get_set_same _ _ h]
    · rw [if_neg h]; simp only [get, set, next] at *; rw [List.getElem?_eq_none (by simp; omega)]
  · rw [if_neg h, get_set_ne _ _ (Ne.symm h)]
end St

/-! ### Steps of the relation -/
section steps
variable {P : Program} {G : Gh} {st : St} {w : World}

theorem Rel.hsize (h : Rel P G st w) : ¬ G.w0.kp w.heap.size := h.below.fresh (Nat.le_refl _)

/-- A draw. -/
theorem Rel.drewN (h : Rel P G st w) (n : Nat) : Rel P G st { w with drawn := w.drawn + n } where
  nxeq := h.nxeq
  below := ⟨h.below.os, h.below.tape, h.below.output, h.below.size, h.below.block⟩
  dom := h.dom
  adom := h.adom
  inj := h.inj
  fresh := h.fresh
  obj := fun a o b e hb => (h.obj a o b e hb).mono (.refl _) fun _ _ => rfl
  fzok := h.fzok
  fzmu := h.fzmu
  arr := h.arr
  arrinj := h.arrinj
  dfr := h.dfr
  lps := h.lps

/-- A new object, in a new block. -/
theorem Rel.alloc_obj (h : Rel P G st w) (o : AObj) (O : Obj) (hne : ∀ l s, o ≠ .arr l s)
    (hnew : ∀ G' : Gh, G.le G' → G'.mu st.next = some w.heap.size → ObjRel P G' (w.alloc O) st.next o) :
    ∃ G', G.le G' ∧ Rel P G' (st.alloc o) (w.alloc O) ∧ G'.mu st.next = some w.heap.size ∧ G'.dfr = G.dfr ∧ G'.lps = G.lps := by
  have hle : G.le { G with nx := G.nx + 1, mu := fun a => if a = st.next then some w.heap.size else G.mu a } :=
    ⟨rfl, Nat.le_succ _, fun a ha => by show (if a = st.next then _ else _) = _; rw [h.nxeq] at ha; rw [if_neg (by omega)], fun a b e => by have := h.dom a b e; show (if a = st.next then _ else _) = _; rw [if_neg (by omega)]; exact e, fun _ _ _ e => e, fun _ _ e => e, fun _ e => e, fun _ e => e⟩
  have hold : ∀ k, k < w.heap.size → (w.alloc O).heap[k]? = w.heap[k]? := fun k hk => Below.heap_alloc _ _ _ hk
  refine ⟨_, hle, ?_, if_pos rfl, rfl, rfl⟩
  refine { nxeq := by rw [St.next_alloc]; show G.nx + 1 = _; rw [h.nxeq], below := h.below.alloc O, dom := ?_, adom := ?_, inj := ?_, fresh := ?_, obj := ?_, fzok := ?_, fzmu := ?_, arr := ?_, arrinj := ?_, dfr := ?_, lps := ?_ }
  · intro a b e
    simp only at e; rw [St.next_alloc]
    by_cases ha : a = st.next
    · omega
    · rw [if_neg ha] at e; have := h.dom a b e; omega
  · intro a x e; rw [St.next_alloc]; have := h.adom a x e; omega
  · intro a a' b e e'
    simp only at e e'
    by_cases ha : a = st.next <;> by_cases ha' : a' = st.next
    · omega
    · rw [if_pos ha] at e; rw [if_neg ha'] at e'; cases e; have := (h.fresh a' _ e').2; omega
    · rw [if_neg ha] at e; rw [if_pos ha'] at e'; cases e'; have := (h.fresh a _ e).2; omega
    · rw [if_neg ha] at e; rw [if_neg ha'] at e'; exact h.inj a a' b e e'
  · intro a b e
    simp only at e; rw [World.size_alloc]
    by_cases ha : a = st.next
    · rw [if_pos ha] at e; cases e; exact ⟨h.hsize, by omega⟩
    · rw [if_neg ha] at e; have := h.fresh a b e; exact ⟨this.1, by omega⟩
  · intro a x b e hb
    rw [St.get_alloc] at e
    simp only at hb
    by_cases ha : a = st.next
    · rw [if_pos ha] at e; cases e; subst ha; exact hnew _ hle (if_pos rfl)
    · rw [if_neg ha] at e hb
      exact (h.obj a x b e hb).mono hle fun b hb => hold b (h.fresh a b hb).2
  · intro b o y e
    obtain ⟨vs, t, fr, h1, h2⟩ := h.fzok b o y e
    exact ⟨vs, t, fr, by rw [hold b (Array.getElem?_eq_some_iff.1 h1).1]; exact h1, h2⟩
  · intro a b o e
    simp only at e
    by_cases ha : a = st.next
    · rw [if_pos ha] at e; cases e
      cases hz : G.fz w.heap.size o with
      | none => rfl
      | some y => obtain ⟨vs, t, fr, h1, h2⟩ := h.fzok _ _ _ hz; have := (Array.getElem?_eq_some_iff.1 h1).1; omega
    · rw [if_neg ha] at e; exact h.fzmu a b o e
  · intro a sz e
    rw [St.get_alloc] at e
    by_cases ha : a = st.next
    · rw [if_pos ha] at e; cases e; exact absurd rfl (hne _ _)
    · rw [if_neg ha] at e
      obtain ⟨b, n, cap, vs, t, h1, h2, h3, h4, h5, h6, h7⟩ := h.arr a sz e
      have hb := (Array.getElem?_eq_some_iff.1 h2).1
      refine ⟨b, n, cap, vs, t, h1, by rw [hold b hb]; exact h2, h3, h4, h5, h6, fun a' => ?_⟩
      simp only
      by_cases ha' : a' = st.next
      · rw [if_pos ha']; intro e; cases e; omega
      · rw [if_neg ha']; exact h7 a'
  · intro a a' s s' b n c n' c' e e'
    rw [St.get_alloc] at e e'
    by_cases ha : a = st.next
    · rw [if_pos ha] at e; cases e; exact absurd rfl (hne _ _)
    · rw [if_neg ha] at e
      by_cases ha' : a' = st.next
      · rw [if_pos ha'] at e'; cases e'; exact absurd rfl (hne _ _)
      · rw [if_neg ha'] at e'; exact h.arrinj a a' s s' b n c n' c' e e'
  · intro r hr
    obtain ⟨h1, h2⟩ := h.dfr r hr
    exact ⟨h1, by rw [hold r (Array.getElem?_eq_some_iff.1 h2).1]; exact h2⟩
  · intro r hr
    obtain ⟨h1, rec, h2⟩ := h.lps r hr
    exact ⟨h1, rec, by rw [hold r (Array.getElem?_eq_some_iff.1 h2).1]; exact h2⟩

/-- A new block that no object stands for (a frozen row, a block of deferred calls): nothing turns. -/
theorem Rel.alloc_world (h : Rel P G st w) (O : Obj) : Rel P G st (w.alloc O) := by
  have hold : ∀ k, k < w.heap.size → (w.alloc O).heap[k]? = w.heap[k]? := fun k hk => Below.heap_alloc _ _ _ hk
  refine { nxeq := h.nxeq, below := h.below.alloc O, dom := h.dom, adom := h.adom, inj := h.inj, fresh := ?_, obj := ?_, fzok := ?_, fzmu := h.fzmu, arr := ?_, arrinj := h.arrinj, dfr := ?_, lps := ?_ }
  · intro a b e; rw [World.size_alloc]; have := h.fresh a b e; exact ⟨this.1, by omega⟩
  · intro a x b e hb; exact (h.obj a x b e hb).mono (.refl _) fun b hb => hold b (h.fresh a b hb).2
  · intro b o y e
    obtain ⟨vs, t, fr, h1, h2⟩ := h.fzok b o y e
    exact ⟨vs, t, fr, by rw [hold b (Array.getElem?_eq_some_iff.1 h1).1]; exact h1, h2⟩
  · intro a sz e
    obtain ⟨b, n, cap, vs, t, h1, h2, h3⟩ := h.arr a sz e
    exact ⟨b, n, cap, vs, t, h1, by rw [hold b (Array.getElem?_eq_some_iff.1 h2).1]; exact h2, h3⟩
  · intro r hr
    obtain ⟨h1, h2⟩ := h.dfr r hr
    exact ⟨h1, by rw [hold r (Array.getElem?_eq_some_iff.1 h2).1]; exact h2⟩
  · intro r hr
    obtain ⟨h1, rec, h2⟩ := h.lps r hr
    exact ⟨h1, rec, by rw [hold r (Array.getElem?_eq_some_iff.1 h2).1]; exact h2⟩

/-- The object a, and the block for which it stands, turn. -/
theorem Rel.put_obj (h : Rel P G st w) {a b : Nat} (o : AObj) (O : Obj) (hmu : G.mu a = some b) (hne : ∀ l s, o ≠ .arr l s)
    (hnew : ObjRel P G (w.putObj b O) a o) (hl : ∀ rec, w.heap[b]? = some (.loop rec) → ∃ rec', O = .loop rec') (hd : ∀ x, w.heap[b]? ≠ some (.deferred x)) :
    Rel P G (st.set a o) (w.putObj b O) := by
  have hb := h.fresh a b hmu
  have hold : ∀ k, k ≠ b → (w.putObj b O).heap[k]? = w.heap[k]? := fun k hk => World.putObj_heap_other hk
  refine { nxeq := by rw [St.next_set]; exact h.nxeq, below := ?_, dom := ?_, adom := ?_, inj := h.inj, fresh := ?_, obj := ?_, fzok := ?_, fzmu := h.fzmu, arr := ?_, arrinj := ?_, dfr := ?_, lps := ?_ }
  · exact h.below.step rfl rfl rfl (by simp) fun k hk => hold k (fun e => hb.1 (e ▸ hk))
  · intro a b e; rw [St.next_set]; exact h.dom a b e
  · intro a b e; rw [St.next_set]; exact h.adom a b e
  · intro a b e; rw [World.putObj_size]; exact h.fresh a b e
  · intro a' x bx e hbx
    by_cases ha : a' = a
    · subst ha; rw [St.get_set, if_pos rfl] at e
      split at e
      · cases e; exact hnew
      · cases e
    · rw [St.get_set, if_neg ha] at e
      refine (h.obj a' x bx e hbx).mono (.refl _) fun b' hb' => hold b' fun eb => ha ?_
      subst eb; exact h.inj a' a b' hb' hmu
  · intro b' o' y e
    obtain ⟨vs, t, fr, h1, h2⟩ := h.fzok b' o' y e
    refine ⟨vs, t, fr, ?_, h2⟩
    rw [hold b' fun eb => ?_]
    · exact h1
    · subst eb; rw [h.fzmu a b' o' hmu] at e; cases e
  · intro a' sz e
    have e' : st.get a' = some (.arr true sz) := by
      by_cases ha : a' = a
      · subst ha; rw [St.get_set, if_pos rfl] at e
        split at e
        · cases e; exact absurd rfl (hne _ _)
        · cases e
      · rw [St.get_set, if_neg ha] at e; exact e
    obtain ⟨b', n, cap, vs, t, h1, h2, h3, h4, h5, h6, h7⟩ := h.arr a' sz e'
    exact ⟨b', n, cap, vs, t, h1, by rw [hold b' fun eb => h7 a (by rw [eb]; exact hmu)]; exact h2, h3, h4, h5, h6, h7⟩
  · intro a1 a2 s s' b1 n c n' c' e e'
    have g : ∀ x sz, (st.set a o).get x = some (.arr true sz) → st.get x = some (.arr true sz) := fun x sz e => by
      by_cases ha : x = a
      · subst ha; rw [St.get_set, if_pos rfl] at e
        split at e
        · cases e; exact absurd rfl (hne _ _)
        · cases e
      · rw [St.get_set, if_neg ha] at e; exact e
    exact h.arrinj a1 a2 s s' b1 n c n' c' (g _ _ e) (g _ _ e')
  · intro r hr
    obtain ⟨h1, h2⟩ := h.dfr r hr
    exact ⟨h1, by rw [hold r fun eb => hd _ (by rw [← eb]; exact h2)]; exact h2⟩
  · intro r hr
    obtain ⟨h1, rec, h2⟩ := h.lps r hr
    by_cases eb : r = b
    · subst eb; obtain ⟨rec', e⟩ := hl rec h2; exact ⟨h1, rec', by rw [World.putObj_heap_same hb.2, e]⟩
    · exact ⟨h1, rec, by rw [hold r eb]; exact h2⟩
end steps

end Go.EF
