/- Each operation of the machine does what the resolved operation says (first part). No conditions. -/
import Derived.Test.YtbekogkbdmaobaaEf3
namespace Go.EF
open Go Go.RowKit

section steps2
variable {P : Program} {G : Gh} {st : St} {w : World}

/-- A new block whose first m cells are frozen. -/
theorem Rel.alloc_frozen (h : Rel P G st w) (vs : Array Value) (t : TypeId) (m : Nat) :
    ∃ G', G.le G' ∧ Rel P G' st (w.alloc (.cells vs t)) ∧ FzAt G' w.heap.size 0 (vs.toList.take m) ∧ (∀ o, m ≤ o → G'.fz w.heap.size o = none) ∧ G'.mu = G.mu ∧ G'.arr = G.arr := by
  have hn : ∀ o, G.fz w.heap.size o = none := fun o => by
    cases hz : G.fz w.heap.size o with
    | none => rfl
    | some y => obtain ⟨vs, t, fr, h1, h2⟩ := h.fzok _ _ _ hz; have := (Array.getElem?_eq_some_iff.1 h1).1; omega
  have hold : ∀ k, k < w.heap.size → (w.alloc (.cells vs t)).heap[k]? = w.heap[k]? := fun k hk => Below.heap_alloc _ _ _ hk
  have hle : G.le { G with fz := fun b o => if b = w.heap.size then (if o < m then vs[o]? else none) else G.fz b o } :=
    ⟨rfl, Nat.le_refl _, fun _ _ => rfl, fun _ _ e => e, fun b o y e => by
      show (if _ then _ else _) = _
      by_cases hb : b = w.heap.size
      · subst hb; rw [hn o] at e; cases e
      · rw [if_neg hb]; exact e, fun _ _ e => e, fun _ e => e, fun _ e => e⟩
  have h1 := h.alloc_world (.cells vs t)
  refine ⟨_, hle, ?_, ?_, ?_, rfl, rfl⟩
  · refine { nxeq := h1.nxeq, below := h1.below, dom := h1.dom, adom := h1.adom, inj := h1.inj, fresh := h1.fresh, obj := fun a o b e hb => (h1.obj a o b e hb).mono hle fun _ _ => rfl, fzok := ?_, fzmu := ?_, arr := ?_, arrinj := h1.arrinj, dfr := h1.dfr, lps := h1.lps }
    · intro b o y e
      simp only at e
      by_cases hb : b = w.heap.size
      · subst hb; rw [if_pos rfl] at e
        by_cases ho : o < m
        · rw [if_pos ho] at e; exact ⟨vs, t, (0, 0), World.alloc_heap_new _ _, e⟩
        · rw [if_neg ho] at e; cases e
      · rw [if_neg hb] at e; exact h1.fzok b o y e
    · intro a b o e
      show (if _ then _ else _) = _
      have := (h.fresh a b e).2
      rw [if_neg (by omega)]; exact h.fzmu a b o e
    · intro a sz e
      obtain ⟨b, n, cap, vs', t', h1, h2, h3, h4, h5, h6, h7⟩ := h1.arr a sz e
      refine ⟨b, n, cap, vs', t', h1, h2, h3, h4, h5, fun o ho => ?_, h7⟩
      show (if _ then _ else _) = _
      obtain ⟨b', n', cap', vs'', t'', g1, g2, _⟩ := h.arr a sz e
      rw [h1] at g1; cases g1
      have := (Array.getElem?_eq_some_iff.1 g2).1
      rw [if_neg (by omega)]; exact h6 o ho
  · intro i y e
    show (if _ then _ else _) = _
    rw [if_pos rfl, Nat.zero_add]
    rw [List.getElem?_take] at e
    by_cases hi : i < m
    · rw [if_pos hi] at e ⊢; simpa using e
    · rw [if_neg hi] at e; cases e
  · intro o ho
    show (if _ then _ else _) = _
    rw [if_pos rfl, if_neg (by omega)]

/-- A growing row that lies in a block of its own becomes an object. -/
theorem Rel.add_arr (h : Rel P G st w) {b n cap sz : Nat} {vs : Array Value} {t : TypeId} (h2 : w.heap[b]? = some (.cells vs t (0, 0))) (h3 : cap * sz ≤ vs.size) (h4 : n ≤ cap)
    (h5 : ¬ G.w0.kp b) (h6 : ∀ o, n * sz ≤ o → G.fz b o = none) (h7 : ∀ a', G.mu a' ≠ some b) (h8 : ∀ a' s' n' c', st.get a' = some (.arr true s') → G.arr a' ≠ some (b, n', c')) :
    ∃ G', G.le G' ∧ Rel P G' (st.alloc (.arr true sz)) w ∧ G'.arr st.next = some (b, n, cap) ∧ G'.fz = G.fz := by
  have hle : G.le { G with nx := G.nx + 1, arr := fun a => if a = st.next then some (b, n, cap) else G.arr a } :=
    ⟨rfl, Nat.le_succ _, fun _ _ => rfl, fun _ _ e => e, fun _ _ _ e => e, fun a x e => by have := h.adom a x e; show (if a = st.next then _ else _) = _; rw [if_neg (by omega)]; exact e, fun _ e => e, fun _ e => e⟩
  refine ⟨_, hle, ?_, if_pos rfl, rfl⟩
  refine { nxeq := by rw [St.next_alloc]; show G.nx + 1 = _; rw [h.nxeq], below := h.below, dom := ?_, adom := ?_, inj := h.inj, fresh := h.fresh, obj := ?_, fzok := h.fzok, fzmu := h.fzmu, arr := ?_, arrinj := ?_, dfr := h.dfr, lps := h.lps }
  · intro a b e; rw [St.next_alloc]; have := h.dom a b e; omega
  · intro a x e; rw [St.next_alloc]; simp only at e
    by_cases ha : a = st.next
    · omega
    · rw [if_neg ha] at e; have := h.adom a x e; omega
  · intro a x b e hb
    rw [St.get_alloc] at e
    by_cases ha : a = st.next
    · rw [if_pos ha] at e; cases e; trivial
    · rw [if_neg ha] at e; exact (h.obj a x b e hb).mono hle fun _ _ => rfl
  · intro a s e
    rw [St.get_alloc] at e
    by_cases ha : a = st.next
    · rw [if_pos ha] at e; cases e; exact ⟨b, n, cap, vs, t, if_pos ha, h2, h3, h4, h5, h6, h7⟩
    · rw [if_neg ha] at e
      obtain ⟨b', n', c', vs', t', g1, g⟩ := h.arr a s e
      exact ⟨b', n', c', vs', t', by simp only; rw [if_neg ha]; exact g1, g⟩
  · intro a a' s s' b1 n1 c1 n1' c1' e e' g g'
    rw [St.get_alloc] at e e'
    simp only at g g'
    by_cases ha : a = st.next <;> by_cases ha' : a' = st.next
    · omega
    · rw [if_neg ha'] at e' g'; rw [if_pos ha] at g; cases g; exact absurd g' (h8 _ _ _ _ e')
    · rw [if_neg ha] at e g; rw [if_pos ha'] at g'; cases g'; exact absurd g (h8 _ _ _ _ e)
    · rw [if_neg ha] at e g; rw [if_neg ha'] at e' g'; exact h.arrinj a a' s s' b1 n1 c1 n1' c1' e e' g g'

/-- A growing row is given up. -/
theorem Rel.kill_arr (h : Rel P G st w) (a sz : Nat) (hs : ∃ s, st.get a = some (.arr true s)) : Rel P G (st.set a (.arr false sz)) w := by
  have g : ∀ x s, (st.set a (.arr false sz)).get x = some (.arr true s) → st.get x = some (.arr true s) := fun x s e => by
    rw [St.get_set] at e
    by_cases hx : x = a
    · rw [if_pos hx] at e; split at e <;> cases e
    · rw [if_neg hx] at e; exact e
  refine { nxeq := by rw [St.next_set]; exact h.nxeq, below := h.below, dom := ?_, adom := ?_, inj := h.inj, fresh := h.fresh, obj := ?_, fzok := h.fzok, fzmu := h.fzmu, arr := fun x s e => h.arr x s (g _ _ e), arrinj := fun x x' s s' b n c n' c' e e' => h.arrinj x x' s s' b n c n' c' (g _ _ e) (g _ _ e'), dfr := h.dfr, lps := h.lps }
  · intro x b e; rw [St.next_set]; exact h.dom x b e
  · intro x b e; rw [St.next_set]; exact h.adom x b e
  · intro x o b e hb
    rw [St.get_set] at e
    by_cases hx : x = a
    · rw [if_pos hx] at e
      split at e
      · cases e; trivial
      · cases e
    · rw [if_neg hx] at e; exact h.obj x o b e hb

/-- A growing row grows in its place: cells behind its end are written; they are frozen; the new row is an object of its own. -/
theorem Rel.grow (h : Rel P G st w) {a sz b n cap k : Nat} {ys : List Value} {vs : Array Value} {t : TypeId} (hs : st.get a = some (.arr true sz)) (ha : G.arr a = some (b, n, cap))
    (hw : w.heap[b]? = some (.cells vs t (0, 0))) (hy : ys.length = k * sz) (hk : n + k ≤ cap) :
    ∃ G', G.le G' ∧ Rel P G' ((st.set a (.arr false sz)).alloc (.arr true sz)) (w.putObj b (.cells (spliceA vs (n * sz) ys) t (0, 0))) ∧
      G'.arr st.next = some (b, n + k, cap) ∧ FzAt G' b (n * sz) ys := by
  obtain ⟨b', n', cap', vs', t', g1, g2, g3, g4, g5, g6, g7⟩ := h.arr a sz hs
  rw [ha] at g1; cases g1; rw [hw] at g2; cases g2
  have hroom : n * sz + ys.length ≤ vs.toList.length := by
    have : (n + k) * sz ≤ cap * sz := Nat.mul_le_mul_right _ hk
    rw [Nat.add_mul] at this
    rw [hy]; simp; omega
  have hblt := (Array.getElem?_eq_some_iff.1 hw).1
  have hsz : (spliceA vs (n * sz) ys).size = vs.size := by unfold spliceA; simp only [List.size_toArray]; rw [splice_length hroom]; simp
  have hold : ∀ x, x ≠ b → (w.putObj b (.cells (spliceA vs (n * sz) ys) t (0, 0))).heap[x]? = w.heap[x]? := fun x hx => World.putObj_heap_other hx
  have hnewb : (w.putObj b (.cells (spliceA vs (n * sz) ys) t (0, 0))).heap[b]? = some (.cells (spliceA vs (n * sz) ys) t (0, 0)) := World.putObj_heap_same hblt
  have hget : ∀ i, (spliceA vs (n * sz) ys)[i]? = if i < n * sz then vs[i]? else if i < n * sz + ys.length then ys[i - n * sz]? else vs[i]? := fun i => by
    unfold spliceA; rw [List.getElem?_toArray, splice_get hroom]; simp
  -- first the cells are written, the new ones frozen
  have hle : G.le { G with fz := fun b' o => if b' = b ∧ n * sz ≤ o ∧ o < n * sz + ys.length then ys[o - n * sz]? else G.fz b' o } :=
    ⟨rfl, Nat.le_refl _, fun _ _ => rfl, fun _ _ e => e, fun b' o y e => by
      show (if _ then _ else _) = _
      by_cases hb : b' = b ∧ n * sz ≤ o ∧ o < n * sz + ys.length
      · obtain ⟨rfl, h1, _⟩ := hb; rw [g6 o h1] at e; cases e
      · rw [if_neg hb]; exact e, fun _ _ e => e, fun _ e => e, fun _ e => e⟩
  have hnot : ∀ a' s', (st.set a (.arr false sz)).get a' = some (.arr true s') → a' ≠ a ∧ st.get a' = some (.arr true s') := fun a' s' e => by
    rw [St.get_set] at e
    by_cases hx : a' = a
    · rw [if_pos hx] at e; split at e <;> cases e
    · rw [if_neg hx] at e; exact ⟨hx, e⟩
  have hk1 := h.kill_arr a sz ⟨_, hs⟩
  have hR : Rel P { G with fz := fun b' o => if b' = b ∧ n * sz ≤ o ∧ o < n * sz + ys.length then ys[o - n * sz]? else G.fz b' o } (st.set a (.arr false sz)) (w.putObj b (.cells (spliceA vs (n * sz) ys) t (0, 0))) := by
    refine { nxeq := hk1.nxeq, below := ?_, dom := hk1.dom, adom := hk1.adom, inj := hk1.inj, fresh := ?_, obj := ?_, fzok := ?_, fzmu := ?_, arr := ?_, arrinj := hk1.arrinj, dfr := ?_, lps := ?_ }
    · exact h.below.step rfl rfl rfl (by simp) fun x hx => hold x (fun e => absurd (e ▸ hx) ‹¬ G.w0.kp b›)
    · intro x b' e; rw [World.putObj_size]; exact h.fresh x b' e
    · intro x o bx e hbx
      exact (hk1.obj x o bx e hbx).mono hle fun b' hb' => hold b' fun eb => g7 x (by rw [← eb]; exact hb')
    · intro b' o y e
      simp only at e
      by_cases hb : b' = b ∧ n * sz ≤ o ∧ o < n * sz + ys.length
      · rw [if_pos hb] at e; obtain ⟨rfl, h1, h2⟩ := hb
        exact ⟨_, t, (0, 0), hnewb, by rw [hget, if_neg (by omega), if_pos h2]; exact e⟩
      · rw [if_neg hb] at e
        obtain ⟨vs', t', fr, e1, e2⟩ := h.fzok b' o y e
        by_cases hb' : b' = b
        · subst hb'; rw [hw] at e1; cases e1
          refine ⟨_, t, (0, 0), hnewb, ?_⟩
          rw [hget]
          by_cases h1 : o < n * sz
          · rw [if_pos h1]; exact e2
          · rw [g6 o (by omega)] at e; cases e
        · exact ⟨vs', t', fr, by rw [hold b' hb']; exact e1, e2⟩
    · intro x b' o e
      show (if _ then _ else _) = _
      rw [if_neg (fun hb => g7 x (by rw [← hb.1]; exact e))]; exact h.fzmu x b' o e
    · intro x s e
      obtain ⟨hx, e⟩ := hnot x s e
      obtain ⟨b', n', c', vs', t', f1, f2, f3, f4, f5, f6, f7⟩ := h.arr x s e
      have hb' : b' ≠ b := fun eb => hx (by subst eb; exact h.arrinj x a s sz _ _ _ _ _ e hs f1 ha)
      refine ⟨b', n', c', vs', t', f1, by rw [hold b' hb']; exact f2, f3, f4, f5, fun o ho => ?_, f7⟩
      show (if _ then _ else _) = _
      rw [if_neg (fun hb => hb' hb.1)]; exact f6 o ho
    · intro r hr
      obtain ⟨h1, h2⟩ := h.dfr r hr
      exact ⟨h1, by rw [hold r fun eb => by rw [eb, hw] at h2; cases h2]; exact h2⟩
    · intro r hr
      obtain ⟨h1, rec, h2⟩ := h.lps r hr
      exact ⟨h1, rec, by rw [hold r fun eb => by rw [eb, hw] at h2; cases h2]; exact h2⟩
  obtain ⟨G', l1, l2, l3, l4⟩ := hR.add_arr (n := n + k) (cap := cap) (sz := sz) hnewb (by rw [hsz]; exact g3) hk g5 (fun o ho => by
      rw [Nat.add_mul] at ho
      show (if _ then _ else _) = _
      rw [if_neg (fun hb => by rw [hy] at hb; omega)]; exact g6 o (by omega)) g7 (fun a' s' n' c' e e' => by
      obtain ⟨hx, e⟩ := hnot a' s' e
      exact hx (h.arrinj a' a s' sz _ _ _ _ _ e hs e' ha))
  rw [St.next_set] at l3
  refine ⟨G', hle.trans l1, l2, l3, fun i y e => ?_⟩
  rw [l4]
  show (if _ then _ else _) = _
  have hi : i < ys.length := (List.getElem?_eq_some_iff.1 e).1
  rw [if_pos ⟨rfl, by omega, by omega⟩]
  rw [show n * sz + i - n * sz = i from by omega]; exact e
end steps2

/-! ### Operands -/
theorem VRels.ofMap {G : Gh} (f : Value → AV) (hf : ∀ v, VRel G (f v) v) : ∀ l : List Value, VRels G (l.map f) l
  | [] => by simp [VRels]
  | v :: l => by simp only [List.map_cons, VRels]; exact ⟨v, l, rfl, hf v, VRels.ofMap f hf l⟩

theorem VRel.nil (G : Gh) : VRel G (.list .exact [] 0) (.slice none 0 0) := by
  simp only [VRel]; exact ⟨none, 0, rfl, Nat.le_refl _, rfl, [], by simp [VRels], fun h => absurd rfl h⟩

theorem VRel.ofV (G : Gh) (v : Value) : VRel G (ofV v) v := by
  unfold EF.ofV
  split
  · exact VRel.nil G
  · rename_i cs
    simp only [VRel]
    refine ⟨cs, rfl, VRels.ofMap _ (fun v => ?_) _⟩
    split
    · exact VRel.nil G
    · simp [VRel]
  · simp [VRel]

theorem opd_rel {G : Gh} {N : Nat} {fr : Nat → AV} {a : Act} {x : Operand} {o : Opd} (h : opd x = some o) (hF : FrRel G N fr a.tmps) : VRel G (o.ev fr) (a.eval x) := by
  cases x with
  | tmp t => simp only [opd, Option.some.injEq] at h; subst h; exact hF.2 t
  | const v => simp only [opd, Option.some.injEq] at h; subst h; exact VRel.ofV G v
  | global g => simp [opd] at h
  | func f => simp only [opd, Option.some.injEq] at h; subst h; simp [Opd.ev, Act.eval, VRel, VRels]

theorem opds_rel {G : Gh} {N : Nat} {fr : Nat → AV} {a : Act} (hF : FrRel G N fr a.tmps) {xs : Array Operand} {os : List Opd} (h : opds xs = some os) : VRels G (os.map (·.ev fr)) (xs.map a.eval).toList := by
  unfold opds at h
  rw [Array.toList_map]
  revert h; generalize xs.toList = l
  induction l generalizing os with
  | nil => intro h; simp at h; subst h; simp [VRels]
  | cons x l ih =>
    intro h
    simp only [List.mapM_cons, Option.bind_eq_bind, Option.bind_eq_some_iff, Option.pure_def, Option.some.injEq] at h
    obtain ⟨o, h1, os', h2, rfl⟩ := h
    simp only [List.map_cons, VRels]
    exact ⟨_, _, rfl, opd_rel h1 hF, ih h2⟩

theorem toVs_rel {G : Gh} : ∀ {xs : List AV} {ys vs : List Value}, toVs xs = some vs → VRels G xs ys → ys = vs
  | [], ys, vs, h, r => by simp only [toVs, Option.some.injEq] at h; simp only [VRels] at r; rw [r, ← h]
  | x :: xs, ys, vs, h, r => by
    simp only [toVs] at h
    simp only [VRels] at r
    obtain ⟨y, ys', rfl, h1, h2⟩ := r
    split at h
    · rename_i a as e1 e2; cases h
      rw [toVs_rel e2 h2]
      cases x <;> simp only [AV.toV1, Option.some.injEq, reduceCtorEq] at e1
      subst e1; simp only [VRel] at h1; rw [h1]
    · cases h

theorem toV_rel {G : Gh} {x : AV} {y v : Value} (h : x.toV = some v) (r : VRel G x y) : y = v := by
  cases x <;> simp only [AV.toV, Option.some.injEq, reduceCtorEq] at h
  · subst h; simpa [VRel] using r
  · rename_i cs
    simp only [VRel] at r
    obtain ⟨ys, rfl, r⟩ := r
    rw [Option.map_eq_some_iff] at h
    obtain ⟨vs, h1, rfl⟩ := h
    have := toVs_rel h1 r
    rw [← this]

theorem cells_rel {G : Gh} {x : AV} {y : Value} (h : x.boxable = true) (r : VRel G x y) : VRels G x.cells y.cells.toList := by
  cases x with
  | agg cs => simp only [VRel] at r; obtain ⟨ys, rfl, r⟩ := r; simpa [AV.cells, Value.cells] using r
  | junk => simp [AV.boxable, AV.one] at h
  | tup => simp [AV.boxable, AV.one] at h
  | v z =>
    simp only [VRel] at r; subst r
    have : y.cells = #[y] := by cases y <;> simp_all [AV.boxable, AV.one, Value.oneCell', Value.cells]
    simp [AV.cells, this, VRels, VRel]
  | ptr => simp only [VRel] at r; obtain ⟨b, h1, rfl⟩ := r; simp [AV.cells, Value.cells, VRels, VRel, h1]
  | lptr => have r' := r; simp only [VRel] at r; obtain ⟨b, o, ys, rfl, h1⟩ := r; simp only [AV.cells, Value.cells, VRels]; exact ⟨_, [], rfl, r', rfl⟩
  | list => have r' := r; simp only [VRel] at r; obtain ⟨b, o, rfl, h1⟩ := r; simp only [AV.cells, Value.cells, VRels]; exact ⟨_, [], rfl, r', rfl⟩
  | ms => have r' := r; simp only [VRel] at r; obtain ⟨b, h1, rfl⟩ := r; simp only [AV.cells, Value.cells, VRels]; exact ⟨_, [], rfl, r', rfl⟩
  | mx => have r' := r; simp only [VRel] at r; obtain ⟨b, c, h1, rfl⟩ := r; simp only [AV.cells, Value.cells, VRels]; exact ⟨_, [], rfl, r', rfl⟩
  | map => have r' := r; simp only [VRel] at r; obtain ⟨b, h1, rfl⟩ := r; simp only [AV.cells, Value.cells, VRels]; exact ⟨_, [], rfl, r', rfl⟩
  | fn => have r' := r; simp only [VRel] at r; obtain ⟨b, c, rfl, h1⟩ := r; simp only [AV.cells, Value.cells, VRels]; exact ⟨_, [], rfl, r', rfl⟩
  | yld => have r' := r; simp only [VRel] at r; obtain ⟨b, h1, rfl⟩ := r; simp only [AV.cells, Value.cells, VRels]; exact ⟨_, [], rfl, r', rfl⟩

theorem one_rel {G : Gh} {x : AV} {y : Value} (h : x.one = true) (r : VRel G x y) : y.oneCell' = true := by
  cases x with
  | agg cs => simp [AV.one] at h
  | junk => simp [AV.one] at h
  | tup => simp [AV.one] at h
  | v z => simp only [VRel] at r; subst r; simpa [AV.one] using h
  | ptr => simp only [VRel] at r; obtain ⟨b, h1, rfl⟩ := r; rfl
  | lptr => simp only [VRel] at r; obtain ⟨b, o, ys, rfl, h1⟩ := r; rfl
  | list => simp only [VRel] at r; obtain ⟨b, o, rfl, h1⟩ := r; rfl
  | ms => simp only [VRel] at r; obtain ⟨b, h1, rfl⟩ := r; rfl
  | mx => simp only [VRel] at r; obtain ⟨b, c, h1, rfl⟩ := r; rfl
  | map => simp only [VRel] at r; obtain ⟨b, h1, rfl⟩ := r; rfl
  | fn => simp only [VRel] at r; obtain ⟨b, c, rfl, h1⟩ := r; rfl
  | yld => simp only [VRel] at r; obtain ⟨b, h1, rfl⟩ := r; rfl

theorem ones_rel {G : Gh} {xs : List AV} {ys : List Value} (h : xs.all AV.one = true) (r : VRels G xs ys) : ∀ y ∈ ys, y.oneCell' = true := by
  intro y hy
  obtain ⟨i, hi⟩ := List.getElem?_of_mem hy
  have hlt : i < xs.length := by rw [r.length]; exact (List.getElem?_eq_some_iff.1 hi).1
  have hx : xs[i]? = some xs[i] := List.getElem?_eq_getElem hlt
  exact one_rel (List.all_eq_true.1 h _ (List.getElem_mem hlt)) (r.rel hx hi)

/-! ### Types -/
theorem run_underlying_of {P : Program} {t : TypeId} {d : TypeDesc} (h : P.underlying t = some d) (w : World) : (underlying t).run P w = .ok d w := by
  simp [underlying, h]
theorem run_sizeOf_of {P : Program} {t : TypeId} {n : Nat} (h : tsize P t = some n) (w : World) : (sizeOf t).run P w = .ok n w := by
  unfold tsize at h; rw [Option.map_eq_some_iff] at h; obtain ⟨i, h1, rfl⟩ := h
  simp [sizeOf, typeInfo, h1]
theorem run_isAgg_of {P : Program} {t : TypeId} {g : Bool} (h : tagg P t = some g) (w : World) : (isAgg t).run P w = .ok g w := by
  unfold tagg at h; rw [Option.map_eq_some_iff] at h; obtain ⟨d, h1, rfl⟩ := h
  simp only [isAgg, Sem.run_bind, run_underlying_of h1, Result.andThen_ok]
  cases d <;> rfl
theorem tzero_run {P : Program} {t : TypeId} {z : List AV} (h : tzero P t = some z) : ∃ v i, P.info? t = some i ∧ i.zero = some v ∧ v.cells.size = i.size ∧ (∀ w, (zeroValue t).run P w = .ok v w) ∧ ∀ G, VRels G z v.cells.toList := by
  unfold tzero at h
  split at h
  · rename_i i hi
    split at h
    · rename_i v hv
      split at h
      · rename_i hs; cases h
        refine ⟨v, i, hi, hv, hs, fun w => by simp [zeroValue, typeInfo, hi, hv], fun G => ?_⟩
        have r := VRel.ofV G v
        unfold EF.ofV at r ⊢
        split
        · simp [AV.cells, Value.cells, VRels, VRel.nil]
        · rename_i cs
          simp only [VRel] at r
          obtain ⟨ys, e, r⟩ := r; cases e
          simpa [AV.cells, Value.cells] using r
        · rename_i h1 h2
          have : v.cells = #[v] := by
            cases v with
            | agg cs => exact absurd rfl (h2 cs)
            | _ => rfl
          simp [AV.cells, this, VRels, VRel]
      · cases h
    · cases h
  · cases h

end Go.EF
