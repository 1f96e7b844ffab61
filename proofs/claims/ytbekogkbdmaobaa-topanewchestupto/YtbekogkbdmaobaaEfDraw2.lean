/- Regions that draw their order, second part: objects that are not placed yet; the machine's run, whatever the order. No conditions. -/
import Derived.Test.YtbekogkbdmaobaaEfDraw
namespace Go.EF
open Go Go.RowKit

section
variable {P : Program} {G : Gh} {st : St} {w : World}

/-- An object that stands for no block yet. -/
theorem Rel.unplaced (h : Rel P G st w) (z : List AV) : ∃ G', G.le G' ∧ Rel P G' (st.alloc (.cells z)) w ∧ G'.mu = G.mu ∧ G'.dfr = G.dfr ∧ G'.lps = G.lps := by
  have hle : G.le { G with nx := G.nx + 1 } := ⟨rfl, Nat.le_succ _, fun _ _ => rfl, fun _ _ e => e, fun _ _ _ e => e, fun _ _ e => e, fun _ e => e, fun _ e => e⟩
  have old : ∀ a sz, (st.alloc (.cells z)).get a = some (.arr true sz) → st.get a = some (.arr true sz) := fun a sz e => by
    rw [St.get_alloc] at e; split at e
    · cases e
    · exact e
  refine ⟨_, hle, ?_, rfl, rfl, rfl⟩
  refine { nxeq := by rw [St.next_alloc]; show G.nx + 1 = _; rw [h.nxeq], below := h.below, dom := fun a b e => by rw [St.next_alloc]; have := h.dom a b e; omega, adom := fun a b e => by rw [St.next_alloc]; have := h.adom a b e; omega, inj := h.inj, fresh := h.fresh, obj := ?_, fzok := h.fzok, fzmu := h.fzmu, arr := fun a sz e => h.arr a sz (old a sz e), arrinj := fun a a' s s' b n c n' c' e e' => h.arrinj a a' s s' b n c n' c' (old _ _ e) (old _ _ e'), dfr := h.dfr, lps := h.lps }
  intro a o b e hb
  rw [St.get_alloc] at e
  have hd := h.dom a b hb
  rw [if_neg (by omega)] at e
  exact (h.obj a o b e hb).mono hle fun _ _ => rfl

/-- Such an object is placed. -/
theorem Rel.place (h : Rel P G st w) {a : Nat} {z : List AV} (ha : st.get a = some (.cells z)) (hm : G.mu a = none) (vs : Array Value) (t : TypeId) (hv : VRels G z vs.toList) :
    ∃ G', G.sub G' ∧ G'.w0 = G.w0 ∧ G'.nx = G.nx ∧ (∀ a', a' ≠ a → G'.mu a' = G.mu a') ∧ G'.dfr = G.dfr ∧ G'.lps = G.lps ∧ Rel P G' st (w.alloc (.cells vs t)) ∧ G'.mu a = some w.heap.size := by
  have hsub : G.sub { G with mu := fun a' => if a' = a then some w.heap.size else G.mu a' } := by
    refine ⟨fun a' b e => ?_, fun _ _ _ e => e, fun _ _ e => e⟩
    show (if _ then _ else _) = _
    by_cases h1 : a' = a
    · subst h1; rw [hm] at e; cases e
    · rw [if_neg h1]; exact e
  have hold : ∀ k, k < w.heap.size → (w.alloc (.cells vs t)).heap[k]? = w.heap[k]? := fun k hk => Below.heap_alloc _ _ _ hk
  have h1 := h.alloc_world (.cells vs t)
  refine ⟨_, hsub, rfl, rfl, fun a' h => if_neg h, rfl, rfl, ?_, if_pos rfl⟩
  refine { nxeq := h.nxeq, below := h1.below, dom := ?_, adom := h.adom, inj := ?_, fresh := ?_, obj := ?_, fzok := h1.fzok, fzmu := ?_, arr := ?_, arrinj := h.arrinj, dfr := h1.dfr, lps := h1.lps }
  · intro a' b e; simp only at e
    by_cases ha' : a' = a
    · subst ha'; exact St.lt_of_get ha
    · rw [if_neg ha'] at e; exact h.dom a' b e
  · intro a1 a2 b e e'
    simp only at e e'
    by_cases ha1 : a1 = a <;> by_cases ha2 : a2 = a
    · omega
    · rw [if_pos ha1] at e; rw [if_neg ha2] at e'; cases e; have := (h.fresh a2 _ e').2; omega
    · rw [if_neg ha1] at e; rw [if_pos ha2] at e'; cases e'; have := (h.fresh a1 _ e).2; omega
    · rw [if_neg ha1] at e; rw [if_neg ha2] at e'; exact h.inj a1 a2 b e e'
  · intro a' b e
    simp only at e; rw [World.size_alloc]
    by_cases ha' : a' = a
    · rw [if_pos ha'] at e; cases e; exact ⟨h.hsize, by omega⟩
    · rw [if_neg ha'] at e; have := h.fresh a' b e; exact ⟨this.1, by omega⟩
  · intro a' x b e hb
    simp only at hb
    by_cases ha' : a' = a
    · subst ha'; rw [ha] at e; cases e
      exact ⟨w.heap.size, vs, t, if_pos rfl, World.alloc_heap_new _ _, VRels.mono' hsub _ _ hv⟩
    · rw [if_neg ha'] at hb
      have ho := h.obj a' x b e hb
      have hblk := hold b (h.fresh a' b hb).2
      cases x with
      | cells cs =>
        obtain ⟨b', vs', t', e1, e2, e3⟩ := ho
        rw [hb] at e1; cases e1
        exact ⟨b, vs', t', hsub.mu _ _ hb, by rw [hblk]; exact e2, VRels.mono' hsub _ _ e3⟩
      | vec cs =>
        obtain ⟨b', vs', t', e1, e2, e4, e3⟩ := ho
        rw [hb] at e1; cases e1
        exact ⟨b, vs', t', hsub.mu _ _ hb, by rw [hblk]; exact e2, e4, VRels.mono' hsub _ _ e3⟩
      | arr => trivial
      | map es clock =>
        obtain ⟨b', rs, e1, e2, e3⟩ := ho
        rw [hb] at e1; cases e1
        refine ⟨b, rs, hsub.mu _ _ hb, by rw [hblk]; exact e2, ?_⟩
        clear e2 e
        revert e3; generalize rs.toList = l
        induction es generalizing l with
        | nil => exact id
        | cons e es ih => rintro ⟨r, rs', e1, e2, e3, e4, e5⟩; exact ⟨r, rs', e1, e2, e3, VRel.mono' hsub _ _ e4, ih _ e5⟩
      | sit s pos =>
        obtain ⟨b', e1, e2⟩ := ho
        rw [hb] at e1; cases e1
        exact ⟨b, hsub.mu _ _ hb, by rw [hblk]; exact e2⟩
      | loop s p fr N ps asg body =>
        obtain ⟨b', rec, e1, e2, e3, e4, e5, e6, e7, e8, e9⟩ := ho
        rw [hb] at e1; cases e1
        exact ⟨b, rec, hsub.mu _ _ hb, by rw [hblk]; exact e2, e3, e4, e5, e6, e7, ⟨e8.1, fun i => VRel.mono' hsub _ _ (e8.2 i)⟩, e9⟩
  · intro a' b o e
    simp only at e
    by_cases ha' : a' = a
    · rw [if_pos ha'] at e; cases e
      cases hz : G.fz w.heap.size o with
      | none => rfl
      | some y => obtain ⟨vs, t, fr, h1, h2⟩ := h.fzok _ _ _ hz; have := (Array.getElem?_eq_some_iff.1 h1).1; omega
    · rw [if_neg ha'] at e; exact h.fzmu a' b o e
  · intro a' sz e
    obtain ⟨b, n, cap, vs', t', g1, g2, g3, g4, g5, g6, g7⟩ := h.arr a' sz e
    have hb := (Array.getElem?_eq_some_iff.1 g2).1
    refine ⟨b, n, cap, vs', t', g1, by rw [hold b hb]; exact g2, g3, g4, g5, g6, fun x => ?_⟩
    simp only
    by_cases hx : x = a
    · rw [if_pos hx]; intro e; cases e; omega
    · rw [if_neg hx]; exact g7 x

theorem preSt_rel : ∀ (als : List (Nat × Nat × List AV)) {G : Gh} {st : St}, Rel P G st w → ∃ G', G.le G' ∧ Rel P G' (preSt st als) w ∧ G'.mu = G.mu ∧ G'.dfr = G.dfr ∧ G'.lps = G.lps
  | [], G, st, h => ⟨G, .refl _, h, rfl, rfl, rfl⟩
  | x :: r, G, st, h => by
    obtain ⟨G1, h1, h2, h3, h4, h5⟩ := h.unplaced x.2.2
    obtain ⟨G2, g1, g2, g3, g4, g5⟩ := preSt_rel r h2
    exact ⟨G2, h1.trans g1, g2, g3.trans h3, g4.trans h4, g5.trans h5⟩

theorem preSt_old : ∀ (als : List (Nat × Nat × List AV)) (st : St) (a : Nat), a < st.next → (preSt st als).get a = st.get a
  | [], st, a, h => rfl
  | x :: r, st, a, h => by
    have := preSt_old r (st.alloc (.cells x.2.2)) a (by rw [St.next_alloc]; omega)
    rw [preSt, this, St.get_alloc_old _ _ h]

theorem allocsOf_spec : ∀ (l : List GOp) (st : St) (i : Nat), (∀ x ∈ allocsOf st.next i l, i ≤ x.1 ∧ st.next ≤ x.2.1 ∧ (preSt st (allocsOf st.next i l)).get x.2.1 = some (.cells x.2.2) ∧ ∃ g, l[x.1 - i]? = some g ∧ g.op = .alloc x.2.2) ∧
    (∀ x ∈ allocsOf st.next i l, ∀ y ∈ allocsOf st.next i l, x.1 = y.1 ↔ x.2.1 = y.2.1)
  | [], st, i => ⟨fun x hx => by simp [allocsOf] at hx, fun x hx => by simp [allocsOf] at hx⟩
  | g :: r, st, i => by
    have skip : (∀ z, g.op ≠ .alloc z) → (∀ x ∈ allocsOf st.next (i + 1) r, i ≤ x.1 ∧ st.next ≤ x.2.1 ∧ (preSt st (allocsOf st.next (i + 1) r)).get x.2.1 = some (.cells x.2.2) ∧ ∃ g', (g :: r)[x.1 - i]? = some g' ∧ g'.op = .alloc x.2.2) ∧
        (∀ x ∈ allocsOf st.next (i + 1) r, ∀ y ∈ allocsOf st.next (i + 1) r, x.1 = y.1 ↔ x.2.1 = y.2.1) := fun _ => by
      obtain ⟨h1, h2⟩ := allocsOf_spec r st (i + 1)
      refine ⟨fun x hx => ?_, h2⟩
      obtain ⟨g1, g2, g3, g', g4, g5⟩ := h1 x hx
      exact ⟨by omega, g2, g3, g', by rw [show x.1 - i = (x.1 - (i + 1)) + 1 from by omega]; simpa using g4, g5⟩
    unfold allocsOf
    split
    · rename_i z hz
      obtain ⟨h1, h2⟩ := allocsOf_spec r (st.alloc (.cells z)) (i + 1)
      rw [St.next_alloc] at h1 h2
      refine ⟨fun x hx => ?_, fun x hx y hy => ?_⟩
      · rcases List.mem_cons.1 hx with rfl | hx
        · refine ⟨Nat.le_refl _, Nat.le_refl _, ?_, g, by simp, hz⟩
          simp only [preSt]
          rw [preSt_old _ _ _ (by rw [St.next_alloc]; omega), St.get_alloc_new]
        · obtain ⟨g1, g2, g3, g', g4, g5⟩ := h1 x hx
          exact ⟨by omega, by omega, g3, g', by rw [show x.1 - i = (x.1 - (i + 1)) + 1 from by omega]; simpa using g4, g5⟩
      · rcases List.mem_cons.1 hx with rfl | hx <;> rcases List.mem_cons.1 hy with rfl | hy
        · simp
        · obtain ⟨g1, g2, _⟩ := h1 y hy; simp only; constructor <;> intro e <;> omega
        · obtain ⟨g1, g2, _⟩ := h1 x hx; simp only; constructor <;> intro e <;> omega
        · exact h2 x hx y hy
    · rename_i hz; exact skip hz
end

/-! ### what the check has found -/
theorem drawOK_spec {es : List (List Nat)} {l : List GOp} {bs : List (List Nat)} (h : drawOK es l bs = true) :
    (∀ i, i < l.length → ∀ j ∈ es.getD i [], j < i) ∧ (∀ i, i < l.length → ∀ j, (bs.getD i []).contains j = true → j ∈ es.getD i [] ∨ ∃ k ∈ es.getD i [], (bs.getD k []).contains j = true) ∧
    (∀ (i : Nat) (g : GOp), l[i]? = some g → g.op.kd = .alloc → g.guard = none ∧ g.dst.isSome = true) ∧ (∀ (i j : Nat) (g k : GOp), j < i → l[i]? = some g → l[j]? = some k → conflict g k = true → (bs.getD i []).contains j = true) := by
  unfold drawOK at h
  rw [List.all_eq_true] at h
  have H := fun i (hi : i < l.length) => h i (List.mem_range.2 hi)
  simp only [Bool.and_eq_true] at H
  refine ⟨fun i hi j hj => ?_, fun i hi j hj => ?_, fun i g hg hk => ?_, fun i j g k hji hg hk hc => ?_⟩
  · have := (List.all_eq_true.1 (H i hi).1.1) j hj; simpa using this
  · have := (List.all_eq_true.1 (H i hi).1.2) j (by simpa using hj)
    simp only [Bool.or_eq_true, List.any_eq_true] at this
    rcases this with h | ⟨k, h1, h2⟩
    · exact .inl (by simpa using h)
    · exact .inr ⟨k, h1, h2⟩
  · have hi := (List.getElem?_eq_some_iff.1 hg).1
    have := (H i hi).2
    rw [hg] at this
    simp only [Bool.and_eq_true, Bool.or_eq_true, decide_eq_true_eq] at this
    rcases this.1 with h | h
    · exact absurd hk h
    · exact ⟨by simpa using h.1, h.2⟩
  · have hi := (List.getElem?_eq_some_iff.1 hg).1
    have := (H i hi).2
    rw [hg] at this
    simp only [Bool.and_eq_true] at this
    have := (List.all_eq_true.1 this.2) j (List.mem_range.2 hji)
    rw [hk] at this
    simpa [hc] using this
end Go.EF
