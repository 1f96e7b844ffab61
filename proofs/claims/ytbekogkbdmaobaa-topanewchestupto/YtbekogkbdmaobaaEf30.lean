/- A call from a state of its own, carried over to another state: what it reads is frozen, what it writes is one object; what it answers is thawed. No conditions. -/
import Derived.Test.YtbekogkbdmaobaaEf29
namespace Go.EF
open Go Go.RowKit

mutual
/-- A value that holds no place. -/
def AV.free : AV → Bool
  | .v _ => true
  | .list own cs _ => (match own with | .tok _ => false | _ => true) && frees cs
  | .lptr cs _ => frees cs
  | .fn _ a b => frees a && frees b
  | .agg cs => frees cs
  | .tup cs => frees cs
  | _ => false
def frees : List AV → Bool
  | [] => true
  | x :: xs => x.free && frees xs
end

section
variable {G G' : Gh}
mutual
theorem vrel_free (hf : ∀ b o y, G.fz b o = some y → G'.fz b o = some y) : ∀ (x : AV) (y : Value), x.free = true → VRel G x y → VRel G' x y
  | .junk, _, h, _ => by simp [AV.free] at h
  | .ptr .., _, h, _ => by simp [AV.free] at h
  | .ms .., _, h, _ => by simp [AV.free] at h
  | .mx .., _, h, _ => by simp [AV.free] at h
  | .map .., _, h, _ => by simp [AV.free] at h
  | .yld .., _, h, _ => by simp [AV.free] at h
  | .v x, y, _, r => by simpa [VRel] using r
  | .lptr cs off, y, h, r => by
    simp only [AV.free] at h
    simp only [VRel] at r ⊢; obtain ⟨b, o, ys, h1, h2, h3⟩ := r
    exact ⟨b, o, ys, h1, fun i z e => hf _ _ _ (h2 i z e), vrels_free hf cs ys h h3⟩
  | .list own cs n, y, h, r => by
    simp only [AV.free, Bool.and_eq_true] at h
    simp only [VRel] at r ⊢; obtain ⟨base, cap, h1, h2, h3, ys, h4, h5⟩ := r
    refine ⟨base, cap, h1, h2, ?_, ys, vrels_free hf cs ys h.2 h4, fun e => let ⟨b, o, e1, e2⟩ := h5 e; ⟨b, o, e1, fun i z e => hf _ _ _ (e2 i z e)⟩⟩
    cases own with
    | any => trivial
    | exact => exact h3
    | tok a => simp at h
  | .fn f a b, y, h, r => by
    simp only [AV.free, Bool.and_eq_true] at h
    simp only [VRel] at r ⊢; obtain ⟨fa, ca, h1, h2, h3⟩ := r
    exact ⟨fa, ca, h1, vrels_free hf a _ h.1 h2, vrels_free hf b _ h.2 h3⟩
  | .agg cs, y, h, r => by
    simp only [AV.free] at h
    simp only [VRel] at r ⊢; obtain ⟨ys, h1, h2⟩ := r; exact ⟨ys, h1, vrels_free hf cs _ h h2⟩
  | .tup cs, y, h, r => by
    simp only [AV.free] at h
    simp only [VRel] at r ⊢; obtain ⟨ys, h1, h2⟩ := r; exact ⟨ys, h1, vrels_free hf cs _ h h2⟩
theorem vrels_free (hf : ∀ b o y, G.fz b o = some y → G'.fz b o = some y) : ∀ (xs : List AV) (ys : List Value), frees xs = true → VRels G xs ys → VRels G' xs ys
  | [], ys, _, r => by simpa [VRels] using r
  | x :: xs, ys, h, r => by
    simp only [frees, Bool.and_eq_true] at h
    simp only [VRels] at r ⊢; obtain ⟨y, ys', h1, h2, h3⟩ := r
    exact ⟨y, ys', h1, vrel_free hf x y h.1 h2, vrels_free hf xs ys' h.2 h3⟩
end
end

/-- The ghost of a state that holds one object alone. -/
def g0 (w : World) (bh : Nat) (fz0 : Nat → Nat → Option Value) : Gh :=
  { w0 := ⟨w, fun b => b < w.heap.size ∧ b ≠ bh, fun _ h => h.1⟩, nx := 1, mu := fun a => if a = 0 then some bh else none, fz := fz0, arr := fun _ => none, dfr := [], lps := [] }

section
variable {P : Program} {G : Gh} {st : St} {w : World}

theorem g0_rel (hR : Rel P G st w) {h bh : Nat} {c0 : List AV} (hh : st.get h = some (.cells c0)) (hmu : G.mu h = some bh) (hc : frees c0 = true) (fz0 : Nat → Nat → Option Value)
    (h1 : ∀ b o y, G.fz b o = some y → fz0 b o = some y) (h2 : ∀ b o y, fz0 b o = some y → ∃ vs t fr, w.heap[b]? = some (.cells vs t fr) ∧ vs[o]? = some y) (h3 : ∀ o, fz0 bh o = none) : Rel P (g0 w bh fz0) ⟨[.cells c0]⟩ w := by
  have mu0 : ∀ a b, (g0 w bh fz0).mu a = some b → a = 0 ∧ b = bh := by
    intro a b e
    simp only [g0] at e
    split at e
    · rename_i ha; cases e; exact ⟨ha, rfl⟩
    · cases e
  have fr := hR.fresh h bh hmu
  have noarr : ∀ a l s, (⟨[.cells c0]⟩ : St).get a ≠ some (.arr l s) := by
    intro a l s e
    cases a with
    | zero => simp [St.get] at e
    | succ a => simp [St.get] at e
  refine { nxeq := rfl, below := ⟨rfl, rfl, rfl, Nat.le_refl _, fun _ _ => rfl⟩, dom := ?_, adom := ?_, inj := ?_, fresh := ?_, obj := ?_, fzok := h2, fzmu := ?_, arr := ?_, arrinj := ?_, dfr := ?_, lps := ?_ }
  · intro a b e; obtain ⟨rfl, _⟩ := mu0 a b e; exact Nat.lt_succ_self _
  · intro a x e; simp [g0] at e
  · intro a a' b e e'; rw [(mu0 a b e).1, (mu0 a' b e').1]
  · intro a b e; obtain ⟨_, rfl⟩ := mu0 a b e; exact ⟨fun k => k.2 rfl, fr.2⟩
  · intro a o b e hb
    obtain ⟨rfl, rfl⟩ := mu0 a b hb
    have e' : o = .cells c0 := by simpa [St.get] using e.symm
    subst e'
    obtain ⟨b', vs, t, q1, q2, q3⟩ := hR.obj h _ _ hh hmu
    rw [hmu] at q1; cases q1
    exact ⟨b, vs, t, rfl, q2, vrels_free h1 c0 _ hc q3⟩
  · intro a b o e; obtain ⟨_, rfl⟩ := mu0 a b e; exact h3 o
  · intro a sz e; exact absurd e (noarr a _ _)
  · intro a a' s s' b n c n' c' e; exact absurd e (noarr a _ _)
  · intro r hr; simp [g0] at hr
  · intro r hr; simp [g0] at hr

/-- The ghost behind such a call: the caller's, some new objects, and what the call has frozen. -/
def trG (G G1 : Gh) (sz n : Nat) (bl : List Nat) : Gh :=
  { G with nx := n + bl.length, mu := fun a => if a < n then G.mu a else bl[a - n]?, fz := fun b o => if b < sz then G.fz b o else if bl.contains b then none else G1.fz b o, arr := fun a => if a < n then G.arr a else none }

theorem trG_le (hR : Rel P G st w) (G1 : Gh) (bl : List Nat) : G.le (trG G G1 w.heap.size st.next bl) := by
  refine ⟨rfl, ?_, fun a ha => ?_, fun a b e => ?_, fun b o y e => ?_, fun a x e => ?_, fun _ h => h, fun _ h => h⟩
  · show G.nx ≤ st.next + bl.length; rw [hR.nxeq]; omega
  · show (if a < st.next then _ else _) = _; rw [hR.nxeq] at ha; rw [if_pos ha]
  · show (if a < st.next then _ else _) = _; rw [if_pos (hR.dom a b e)]; exact e
  · obtain ⟨vs, t, fr, h1, _⟩ := hR.fzok b o y e
    show (if b < w.heap.size then _ else _) = _; rw [if_pos (Array.getElem?_eq_some_iff.1 h1).1]; exact e
  · show (if a < st.next then _ else _) = _; rw [if_pos (hR.adom a x e)]; exact e

theorem St.get_app {s : St} {os : List AObj} (a : Nat) : (⟨s.objs ++ os⟩ : St).get a = if a < s.next then s.get a else os[a - s.next]? := by
  unfold St.get St.next
  rw [List.getElem?_append]

theorem trG_rel (hR : Rel P G st w) {h bh : Nat} {c0 : List AV} (hh : st.get h = some (.cells c0)) (hmu : G.mu h = some bh) (oh : AObj) (hoh : noArr oh = true) {G1 : Gh} {stD : St} {w' : World} {lt : ∀ k, k < w.heap.size ∧ k ≠ bh → k < w.heap.size}
    (hw0 : G1.w0 = ⟨w, fun b => b < w.heap.size ∧ b ≠ bh, lt⟩) (hR1 : Rel P G1 stD w') (bl : List Nat) (objs : List AObj) (hlen : objs.length = bl.length) (hnd : bl.Nodup) (hbl : ∀ b ∈ bl, w.heap.size ≤ b ∧ b < w'.heap.size) (hna : ∀ o ∈ objs, noArr o = true)
    (hoh' : ObjRel P (trG G G1 w.heap.size st.next bl) w' h oh) (hobj : ∀ (i : Nat) o, objs[i]? = some o → ObjRel P (trG G G1 w.heap.size st.next bl) w' (st.next + i) o) :
    Rel P (trG G G1 w.heap.size st.next bl) ⟨(st.set h oh).objs ++ objs⟩ w' := by
  have hle := trG_le hR G1 bl
  have hbel := hR1.below
  rw [hw0] at hbel
  have hsz : w.heap.size ≤ w'.heap.size := hbel.size
  have same : ∀ k, k < w.heap.size → k ≠ bh → w'.heap[k]? = w.heap[k]? := fun k h1 h2 => hbel.block k ⟨h1, h2⟩
  have hn : (⟨(st.set h oh).objs ++ objs⟩ : St).next = st.next + bl.length := by
    have : (st.set h oh).next = st.next := St.next_set _ _ _
    unfold St.next at this ⊢; rw [List.length_append, this, hlen]
  have hnx : (st.set h oh).next = st.next := St.next_set _ _ _
  have hcell : ∃ vs t, w.heap[bh]? = some (.cells vs t (0, 0)) := by
    obtain ⟨b', vs, t, q1, q2, _⟩ := hR.obj h _ _ hh hmu; rw [hmu] at q1; cases q1; exact ⟨vs, t, q2⟩
  have mu1 : ∀ a b, (trG G G1 w.heap.size st.next bl).mu a = some b → (a < st.next ∧ G.mu a = some b ∧ b < w.heap.size) ∨ (st.next ≤ a ∧ bl[a - st.next]? = some b ∧ w.heap.size ≤ b ∧ b < w'.heap.size) := by
    intro a b e
    have e : (if a < st.next then G.mu a else bl[a - st.next]?) = some b := e
    split at e
    · rename_i ha; exact .inl ⟨ha, e, (hR.fresh a b e).2⟩
    · have := hbl b (List.mem_of_getElem? e); exact .inr ⟨by omega, e, this⟩
  have keep0 : ∀ k, G.w0.kp k → k < w.heap.size ∧ k ≠ bh := fun k hk => ⟨Nat.lt_of_lt_of_le (G.w0.lt k hk) hR.below.size, fun e => (hR.fresh h bh hmu).1 (e ▸ hk)⟩
  refine { nxeq := hn.symm, below := ?_, dom := ?_, adom := ?_, inj := ?_, fresh := ?_, obj := ?_, fzok := ?_, fzmu := ?_, arr := ?_, arrinj := ?_, dfr := ?_, lps := ?_ }
  · exact hR.below.step hbel.os hbel.tape hbel.output hsz fun k hk => same k (keep0 k hk).1 (keep0 k hk).2
  · intro a b e
    rw [hn]
    rcases mu1 a b e with ⟨h1, _⟩ | ⟨h1, h2, _⟩
    · omega
    · have := (List.getElem?_eq_some_iff.1 h2).1; omega
  · intro a x e
    rw [hn]
    have e : (if a < st.next then G.arr a else none) = some x := e
    split at e
    · omega
    · cases e
  · intro a a' b e e'
    rcases mu1 a b e with ⟨h1, h2, h3⟩ | ⟨h1, h2, h3, h4⟩ <;> rcases mu1 a' b e' with ⟨g1, g2, g3⟩ | ⟨g1, g2, g3, g4⟩
    · exact hR.inj a a' b h2 g2
    · omega
    · omega
    · have := List.pairwise_iff_getElem.1 hnd
      obtain ⟨q1, q2⟩ := List.getElem?_eq_some_iff.1 h2
      obtain ⟨q3, q4⟩ := List.getElem?_eq_some_iff.1 g2
      rcases Nat.lt_trichotomy (a - st.next) (a' - st.next) with hlt | heq | hgt
      · exact absurd (q2.trans q4.symm) (this _ _ q1 q3 hlt)
      · omega
      · exact absurd (q4.trans q2.symm) (this _ _ q3 q1 hgt)
  · intro a b e
    rcases mu1 a b e with ⟨h1, h2, h3⟩ | ⟨h1, h2, h3, h4⟩
    · exact ⟨(hR.fresh a b h2).1, by omega⟩
    · refine ⟨fun hk => ?_, h4⟩
      have := (keep0 b hk).1; omega
  · intro a o b e hb
    rw [St.get_app, hnx] at e
    split at e
    · rename_i ha
      by_cases hah : a = h
      · subst hah
        rw [St.get_set, if_pos rfl, if_pos ha] at e
        cases e; exact hoh'
      · rw [St.get_set, if_neg hah] at e
        rcases mu1 a b hb with ⟨h1, h2, h3⟩ | ⟨h1, _⟩
        · refine (hR.obj a o b e h2).mono hle fun b' hb' => ?_
          rw [h2] at hb'; cases hb'
          exact same b h3 fun eb => hah (hR.inj a h bh (eb ▸ h2) hmu)
        · omega
    · rename_i ha
      have := hobj (a - st.next) o e
      rwa [show st.next + (a - st.next) = a from by omega] at this
  · intro b o y e
    have e : (if b < w.heap.size then G.fz b o else if bl.contains b then none else G1.fz b o) = some y := e
    split at e
    · rename_i hb
      obtain ⟨vs, t, fr, h1, h2⟩ := hR.fzok b o y e
      refine ⟨vs, t, fr, ?_, h2⟩
      rw [same b hb fun eb => by subst eb; rw [hR.fzmu h b o hmu] at e; cases e]; exact h1
    · split at e
      · cases e
      · exact hR1.fzok b o y e
  · intro a b o e
    show (if b < w.heap.size then G.fz b o else if bl.contains b then none else G1.fz b o) = none
    rcases mu1 a b e with ⟨h1, h2, h3⟩ | ⟨h1, h2, h3, h4⟩
    · rw [if_pos h3]; exact hR.fzmu a b o h2
    · rw [if_neg (by omega), if_pos (by simpa using List.mem_of_getElem? h2)]
  · intro a sz e
    rw [St.get_app, hnx] at e
    split at e
    · rename_i ha
      have hah : a ≠ h := by
        intro e2; subst e2
        rw [St.get_set, if_pos rfl, if_pos ha] at e
        cases e; cases hoh
      rw [St.get_set, if_neg hah] at e
      obtain ⟨b, n, cap, vs, t, g1, g2, g3, g4, g5, g6, g7⟩ := hR.arr a sz e
      have hb := (Array.getElem?_eq_some_iff.1 g2).1
      refine ⟨b, n, cap, vs, t, ?_, ?_, g3, g4, g5, fun o ho => ?_, fun a' e' => ?_⟩
      · show (if a < st.next then G.arr a else none) = _; rw [if_pos ha]; exact g1
      · rw [same b hb fun eb => g7 h (eb ▸ hmu)]; exact g2
      · show (if b < w.heap.size then G.fz b o else _) = none; rw [if_pos hb]; exact g6 o ho
      · rcases mu1 a' b e' with ⟨h1, h2, h3⟩ | ⟨h1, h2, h3, h4⟩
        · exact g7 a' h2
        · omega
    · have := hna _ (List.mem_of_getElem? e); cases this
  · intro a a' s s' b n c n' c' e e' f f'
    have old : ∀ a s, (⟨(st.set h oh).objs ++ objs⟩ : St).get a = some (.arr true s) → a < st.next ∧ st.get a = some (.arr true s) := by
      intro a s e
      rw [St.get_app, hnx] at e
      split at e
      · rename_i ha
        have hah : a ≠ h := by
          intro e2; subst e2
          rw [St.get_set, if_pos rfl, if_pos ha] at e
          cases e; cases hoh
        rw [St.get_set, if_neg hah] at e
        exact ⟨ha, e⟩
      · have := hna _ (List.mem_of_getElem? e); cases this
    obtain ⟨o1, o2⟩ := old a s e
    obtain ⟨o3, o4⟩ := old a' s' e'
    have f : (if a < st.next then G.arr a else none) = some (b, n, c) := f
    have f' : (if a' < st.next then G.arr a' else none) = some (b, n', c') := f'
    rw [if_pos o1] at f; rw [if_pos o3] at f'
    exact hR.arrinj a a' s s' b n c n' c' o2 o4 f f'
  · intro r hr
    obtain ⟨h1, h2⟩ := hR.dfr r hr
    refine ⟨h1, ?_⟩
    rw [same r (Array.getElem?_eq_some_iff.1 h2).1 fun e => by subst e; obtain ⟨vs, t, q⟩ := hcell; rw [q] at h2; cases h2]; exact h2
  · intro r hr
    obtain ⟨h1, rec, h2⟩ := hR.lps r hr
    refine ⟨h1, rec, ?_⟩
    rw [same r (Array.getElem?_eq_some_iff.1 h2).1 fun e => by subst e; obtain ⟨vs, t, q⟩ := hcell; rw [q] at h2; cases h2]; exact h2
end
end Go.EF
