/- Ranges over functions: what the body and the iterator promise each other. No conditions. -/
import Derived.Test.YtbekogkbdmaobaaEf27
namespace Go.EF
open Go Go.RowKit

/-- The objects from n0 on are as they were, but for growing rows and some others. -/
structure KeepX (n0 : Nat) (ex : List Nat) (st st' : St) : Prop where
  next : st.next ≤ st'.next
  get : ∀ a o, n0 ≤ a → a ∉ ex → st.get a = some o → noArr o = true → st'.get a = some o
/-- The body of a loop leaves the iterator's objects alone. -/
abbrev Keep (n0 : Nat) (st st' : St) : Prop := KeepX n0 [] st st'
theorem KeepX.refl (n0 : Nat) (ex : List Nat) (st : St) : KeepX n0 ex st st := ⟨Nat.le_refl _, fun _ _ _ _ h _ => h⟩
theorem KeepX.trans {n0 : Nat} {ex : List Nat} {a b c : St} (h : KeepX n0 ex a b) (k : KeepX n0 ex b c) : KeepX n0 ex a c := ⟨Nat.le_trans h.next k.next, fun x o h1 h2 h3 h4 => k.get x o h1 h2 (h.get x o h1 h2 h3 h4) h4⟩
theorem KeepX.more {n0 : Nat} {ex ex' : List Nat} {a b : St} (h : KeepX n0 ex a b) (hs : ∀ x ∈ ex, x ∈ ex') : KeepX n0 ex' a b := ⟨h.next, fun x o h1 h2 h3 h4 => h.get x o h1 (fun hx => h2 (hs x hx)) h3 h4⟩
/-- An iterator leaves the caller's objects alone, and all growing rows. -/
structure Rely (n0 : Nat) (st st' : St) : Prop where
  next : st.next ≤ st'.next
  old : ∀ a, a < n0 → st'.get a = st.get a
  arr : ∀ a l s, st.get a = some (.arr l s) → st'.get a = some (.arr l s)

theorem Rely.refl (n0 : Nat) (st : St) : Rely n0 st st := ⟨Nat.le_refl _, fun _ _ => rfl, fun _ _ _ h => h⟩
theorem Rely.trans {n0 : Nat} {a b c : St} (h : Rely n0 a b) (k : Rely n0 b c) : Rely n0 a c := ⟨Nat.le_trans h.next k.next, fun x hx => (k.old x hx).trans (h.old x hx), fun x l s e => k.arr x l s (h.arr x l s e)⟩
theorem Ext.rely {n0 : Nat} {st st' : St} (h : Ext st st') (hn : n0 ≤ st.next) : Rely n0 st st' :=
  ⟨h.next, fun a ha => h.get a (Nat.lt_of_lt_of_le ha hn), fun a l s e => h.here e⟩

section
variable {st st' : St} {s0 : Base} {m m' : List Cell} {t t' : List (Own × Nat)} {n0 : Nat}

/-- An iterator's own steps. -/
theorem SP.rely {s1 : St} (h : SP s1 m t st) (hn : n0 ≤ s1.next) (hm : ∀ c ∈ m, c.new = false → (n0 ≤ c.a ∧ ∃ o, s1.get c.a = some o ∧ noArr o = true) ∨ s1.get c.a = some c.o) : Rely n0 s1 st := by
  refine ⟨h.next, fun a ha => ?_, fun a l s e => ?_⟩
  · by_cases hx : ∃ c ∈ m, c.new = false ∧ c.a = a
    · obtain ⟨c, hc, hcn, rfl⟩ := hx
      rcases hm c hc hcn with ⟨h1, _⟩ | h2
      · omega
      · rw [h.facts c hc, h2]
    · exact h.old a (Nat.lt_of_lt_of_le ha hn) trivial fun c hc hcn e => hx ⟨c, hc, hcn, e⟩
  · have ha := St.lt_of_get e
    by_cases hx : ∃ c ∈ m, c.new = false ∧ c.a = a
    · obtain ⟨c, hc, hcn, rfl⟩ := hx
      rcases hm c hc hcn with ⟨_, o, h1, h2⟩ | h2
      · rw [e] at h1; rw [← Option.some.inj h1] at h2; cases h2
      · rw [h.facts c hc, ← h2, e]
    · rw [h.old a ha trivial fun c hc hcn e => hx ⟨c, hc, hcn, e⟩, e]

/-- An iterator's own steps, as to its objects. -/
theorem SP.keepX {s1 : St} {ex : List Nat} (h : SP s1 m t st) (hm : ∀ c ∈ m, c.new = false → c.a ∈ ex ∨ s1.get c.a = some c.o) : KeepX n0 ex s1 st := by
  refine ⟨h.next, fun a o ha hx e ho => ?_⟩
  by_cases hl : ∃ c ∈ m, c.new = false ∧ c.a = a
  · obtain ⟨c, hc, hcn, rfl⟩ := hl
    rcases hm c hc hcn with h1 | h2
    · exact absurd h1 hx
    · rw [h.facts c hc, ← h2, e]
  · rw [h.old a (St.lt_of_get e) trivial fun c hc hcn e => hl ⟨c, hc, hcn, e⟩, e]

/-- The same state, looked at from here on: for a function's own use. -/
theorem SP.fresh (h : SP s0 m t st) (m' : List Cell) (h1 : m'.map (·.a) = m.map (·.a)) (h2 : m'.map (·.o) = m.map (·.o)) (h3 : m'.all (fun c => !c.new) = true) : SP st m' [] st := by
  refine SP.startm m' (fun x hx => ?_) (by rw [h1]; exact h.nodup)
  obtain ⟨i, hi⟩ := List.getElem?_of_mem hx
  have e1 := congrArg (·[i]?) h1
  have e2 := congrArg (·[i]?) h2
  simp only [List.getElem?_map, hi, Option.map_some] at e1 e2
  cases hm : m[i]? with
  | none => rw [hm] at e1; cases e1
  | some c =>
    rw [hm] at e1 e2; simp at e1 e2
    have := h.facts c (List.mem_of_getElem? hm)
    have h4 := List.all_eq_true.1 h3 x hx
    exact ⟨by rw [e1, e2]; exact this, by simpa using h4⟩

/-- The places of the growing lists. -/
def offToks (t : List (Own × Nat)) (a : Nat) : Prop := ∀ x ∈ t, x.1 ≠ .tok a

/-- The same state, looked at from here on: for the body of a loop. -/
theorem SP.restart (h : SP s0 m t st) (m' : List Cell) (h1 : m'.map (·.a) = m.map (·.a)) (h2 : m'.map (·.o) = m.map (·.o)) (h3 : m'.all (fun c => !c.new) = true) : SP ⟨st, offToks t⟩ m' t st := by
  have k := h.fresh m' h1 h2 h3
  refine ⟨Nat.le_refl _, fun a _ _ _ => rfl, k.facts, fun x hx hn => ?_, k.nodup, fun x hx => ?_, h.apart⟩
  · have := List.all_eq_true.1 h3 x hx; rw [hn] at this; cases this
  · have g := h.toks x hx
    obtain ⟨o, sz⟩ := x
    cases o with
    | any => exact g
    | exact => trivial
    | tok a => exact ⟨.inr fun hp => hp _ hx rfl, g.2⟩

theorem SP.body_keep {s1 : St} {t1 : List (Own × Nat)} (ht : ∀ x ∈ t1, ∀ a, x.1 = .tok a → ∃ l s, s1.get a = some (.arr l s)) (k : SP ⟨s1, offToks t1⟩ m' t' st') (hm : ∀ c ∈ m', c.new = false → c.a < n0) : Keep n0 s1 st' := by
  refine ⟨k.next, fun a o ha _ e ho => ?_⟩
  have hlt : a < s1.next := St.lt_of_get e
  rw [k.old a hlt (fun x hx ex => by obtain ⟨l, s, q⟩ := ht x hx a ex; rw [e] at q; rw [Option.some.inj q] at ho; cases ho) fun c hc hn e2 => by have := hm c hc hn; omega]
  exact e

theorem SP.toks_arr (h : SP s0 m t st) : ∀ x ∈ t, ∀ a, x.1 = .tok a → ∃ l s, st.get a = some (.arr l s) := by
  intro x hx a e
  have g := h.toks x hx
  obtain ⟨o, sz⟩ := x
  simp only at e; subst e
  exact ⟨true, sz, g.2⟩

/-- What came of the body comes of what was before the loop. -/
theorem SP.compose {m2 : List Cell} (h : SP s0 m t st) (k : SP ⟨st, offToks t⟩ m' t' st') (h1 : m'.map (·.a) = m.map (·.a)) (h2 : m2.map (·.a) = m.map (·.a)) (h3 : m2.map (·.o) = m'.map (·.o)) (h4 : m2.map (·.new) = m.map (·.new)) : SP s0 m2 t' st' := by
  have at2 : ∀ x ∈ m2, ∃ c ∈ m, ∃ c' ∈ m', c.a = x.a ∧ c.new = x.new ∧ c'.a = x.a ∧ c'.o = x.o := by
    intro x hx
    obtain ⟨i, hi⟩ := List.getElem?_of_mem hx
    have e2 := congrArg (·[i]?) h2
    have e3 := congrArg (·[i]?) h3
    have e4 := congrArg (·[i]?) h4
    have e1 := congrArg (·[i]?) h1
    simp only [List.getElem?_map, hi, Option.map_some] at e1 e2 e3 e4
    cases hm : m[i]? with
    | none => rw [hm] at e2; cases e2
    | some c =>
      cases hm' : m'[i]? with
      | none => rw [hm'] at e3; cases e3
      | some c' =>
        rw [hm, hm'] at e1; rw [hm] at e2 e4; rw [hm'] at e3
        simp at e1 e2 e3 e4
        exact ⟨c, List.mem_of_getElem? hm, c', List.mem_of_getElem? hm', e2.symm, e4.symm, by rw [e1, e2], e3.symm⟩
  have back : ∀ c ∈ m, ∃ x ∈ m2, x.a = c.a ∧ x.new = c.new := by
    intro c hc
    obtain ⟨i, hi⟩ := List.getElem?_of_mem hc
    have e2 := congrArg (·[i]?) h2
    have e4 := congrArg (·[i]?) h4
    simp only [List.getElem?_map, hi, Option.map_some] at e2 e4
    cases hm : m2[i]? with
    | none => rw [hm] at e2; cases e2
    | some x => rw [hm] at e2 e4; simp at e2 e4; exact ⟨x, List.mem_of_getElem? hm, e2, e4⟩
  have keptb : ∀ a, a < s0.st.next → s0.pr a → offToks t a := by
    intro a ha hp x hx e
    have g := h.toks x hx
    obtain ⟨o, sz⟩ := x
    simp only at e; subst e
    rcases g.1 with h5 | h5
    · omega
    · exact h5 hp
  refine ⟨Nat.le_trans h.next k.next, fun a ha hp hx => ?_, fun x hx => ?_, fun x hx hn => ?_, by rw [h2]; exact h.nodup, fun x hx => ?_, k.apart⟩
  · have hlt : a < st.next := Nat.lt_of_lt_of_le ha h.next
    have hno : ∀ c ∈ m, c.a ≠ a := by
      intro c hc e
      obtain ⟨x, hx2, ex, en⟩ := back c hc
      cases hcn : c.new with
      | true => have := h.isnew c hc hcn; omega
      | false => exact hx x hx2 (by rw [en, hcn]) (by rw [ex, e])
    have hno' : ∀ c ∈ m', c.a ≠ a := by
      intro c hc e
      have : c.a ∈ m.map (·.a) := by rw [← h1]; exact List.mem_map.2 ⟨c, hc, rfl⟩
      obtain ⟨c2, hc2, e2⟩ := List.mem_map.1 this
      exact hno c2 hc2 (by rw [e2, e])
    rw [k.old a hlt (keptb a ha hp) fun c hc _ => hno' c hc]
    exact h.old a ha hp fun c hc _ => hno c hc
  · obtain ⟨c, _, c', hc', _, _, e3, e4⟩ := at2 x hx
    rw [← e3, ← e4]; exact k.facts c' hc'
  · obtain ⟨c, hc, _, _, e1, e2, _, _⟩ := at2 x hx
    rw [← e1]; exact h.isnew c hc (by rw [e2]; exact hn)
  · have g := k.toks x hx
    obtain ⟨o, sz⟩ := x
    cases o with
    | any => exact g
    | exact => trivial
    | tok a =>
      refine ⟨?_, g.2⟩
      rcases g.1 with h5 | h5
      · exact .inl (Nat.le_trans h.next h5)
      · -- one of the rows that were there
        have : ∃ y ∈ t, y.1 = .tok a := by
          refine Classical.byContradiction fun hne => h5 fun y hy e => hne ⟨y, hy, e⟩
        obtain ⟨y, hy, e⟩ := this
        have gy := h.toks y hy
        obtain ⟨o2, sz2⟩ := y
        simp only at e; subst e
        exact gy.1

/-- The caller's view outlives the iterator's steps. -/
theorem SP.relied (h : SP s0 m t st) (hn : s0.st.next ≤ n0) (hm : ∀ c ∈ m, c.a < n0) (r : Rely n0 st st') : SP s0 m t st' := by
  refine ⟨Nat.le_trans h.next r.next, fun a ha hp hx => ?_, fun x hx => ?_, h.isnew, h.nodup, fun x hx => ?_, h.apart⟩
  · rw [r.old a (Nat.lt_of_lt_of_le ha hn)]; exact h.old a ha hp hx
  · rw [r.old x.a (hm x hx)]; exact h.facts x hx
  · have g := h.toks x hx
    obtain ⟨o, sz⟩ := x
    cases o with
    | any => exact g
    | exact => trivial
    | tok a => exact ⟨g.1, r.arr _ _ _ g.2⟩
end

/-! ### the loop -/
section
variable {P : Program} {N : Nat} {lf : List AV} {st : St} {s0 : Base} {Q : Jmp → (Nat → AV) → St → Prop} {bb : CC} {m : List Cell} {t : List (Own × Nat)}

/-- What an iterator is promised of a body: from a state in which the loop may go on, with what it may be given, it answers whether the loop goes on. -/
def YieldsTo (P : Program) (yl : AV) (n0 : Nat) (I : Bool → St → Prop) (φ : List AV → Prop) : Prop :=
  ∀ xs s, I true s → φ xs → WV P yl xs s fun r s' => ∃ b, r = .bool b ∧ I b s' ∧ Keep n0 s s'
/-- What a loop's own state is promised of an iterator. -/
def Lasts (n0 : Nat) (I : Bool → St → Prop) : Prop := ∀ b s s', I b s → Rely n0 s s' → I b s'

/-- A range over a function: a block that holds it, then the rest. -/
theorem wl_rangef {id : Nat} {f : Opd} {ps : List Nat} {ca cb : Code} (H : SP s0 m t st) (g : Nat) (first cap : List AV) (hf : f.ev (L lf) = .fn g first cap)
    (k : ∀ l st1 (R : St → Prop), SP s0 (⟨l, .loop .ready none (L lf) N ps ca cb, true⟩ :: m) t st1 →
      (∀ st2 s m' t', SP s0 (⟨l, .loop s none (L lf) N ps ca cb, true⟩ :: m') t' st2 → s ≠ .busy → (∀ st3, SP s0 m' t' st3 → RC P N bb lf st3 Q) → R st2) →
      (∀ st2 s m' t', SP s0 (⟨l, .loop s (some (.exit id)) (L lf) N ps ca cb, true⟩ :: m') t' st2 → s ≠ .busy → (∀ st3, SP s0 m' t' st3 → RC P N bb lf st3 Q) → R st2) →
      (∀ x st2 s m' t', x ≠ .normal → x ≠ .exit id → SP s0 (⟨l, .loop s (some x) (L lf) N ps ca cb, true⟩ :: m') t' st2 → s ≠ .busy → (∀ st3, SP s0 m' t' st3 → Q x (L lf) st3) → R st2) →
      WF P g (first ++ [.yld l] ++ cap) st1 fun _ st2 => R st2) : RC P N (.seq (.block id (.rangef f ps ca cb)) bb) lf st Q := by
  refine ⟨wc_block_seq ?_⟩
  simp only [wc, hf]
  refine (k st.next _ _ (H.alloc (.loop .ready none (L lf) N ps ca cb)) ?_ ?_ ?_).mono (fun _ _ h => h)
  · intro st2 s m' t' H2 hs h
    refine ⟨s, none, L lf, N, ps, ca, cb, H2.fact 0 rfl, hs, ?_⟩
    have h3 := h _ ((H2.set 0 (c := ⟨st.next, _, true⟩) rfl rfl (.loop .exhausted none (L lf) N ps ca cb)).tail rfl)
    simpa using h3.run
  · intro st2 s m' t' H2 hs h
    refine ⟨s, some (.exit id), L lf, N, ps, ca, cb, H2.fact 0 rfl, hs, ?_⟩
    have h3 := h _ ((H2.set 0 (c := ⟨st.next, _, true⟩) rfl rfl (.loop .exhausted (some (.exit id)) (L lf) N ps ca cb)).tail rfl)
    simpa using h3.run
  · intro x st2 s m' t' hx hx2 H2 hs h
    refine ⟨s, some x, L lf, N, ps, ca, cb, H2.fact 0 rfl, hs, ?_⟩
    have h3 := h _ ((H2.set 0 (c := ⟨st.next, _, true⟩) rfl rfl (.loop .exhausted (some x) (L lf) N ps ca cb)).tail rfl)
    simpa [hx, hx2] using h3

def setL : List AV → List Nat → List AV → List AV
  | lf, p :: ps, x :: xs => setL (lf.set p x) ps xs
  | lf, _, _ => lf
theorem updz_L : ∀ (ps : List Nat) (xs : List AV) (lf : List AV), ps.all (fun p => Nat.ble (p + 1) lf.length) = true → updz (L lf) ps xs = L (setL lf ps xs)
  | [], xs, lf, _ => by cases xs <;> rfl
  | p :: ps, [], lf, _ => rfl
  | p :: ps, x :: xs, lf, h => by
    simp only [List.all_cons, Bool.and_eq_true] at h
    have hp : p < lf.length := Nat.le_of_ble_eq_true h.1
    simp only [updz, setL]
    rw [← L_set hp]
    exact updz_L ps xs _ (by simpa using h.2)

/-- The body of a range over a function: one round. -/
theorem wy_body {l : Nat} {ps : List Nat} {ca cb : Code} {asg body : CC} {nw : Bool} {s : St} {K : AV → St → Prop} (xs : List AV) (H : SP s0 (⟨l, .loop .ready none (L lf) N ps ca cb, nw⟩ :: m) t s)
    (hca : comp P N ca = some asg) (hcb : comp P N cb = some body) (hx : xs.length = ps.length) (hp : ps.all (fun p => Nat.ble (p + 1) lf.length) = true)
    (k : ∀ (Q1 Q2 : Jmp → (Nat → AV) → St → Prop),
      (∀ (base : Base) lf1 st1 m1 t1 nw1, SP base (⟨l, .loop .ready none (L lf) N ps ca cb, nw1⟩ :: m1) t1 st1 → (∀ st1', SP base (⟨l, .loop .busy none (L lf) N ps ca cb, nw1⟩ :: m1) t1 st1' → RC P N body lf1 st1' Q2) → Q1 .normal (L lf1) st1) →
      (∀ (base : Base) lf2 st2 m2 t2 nw2, SP base (⟨l, .loop .busy none (L lf) N ps ca cb, nw2⟩ :: m2) t2 st2 → (∀ st2', SP base (⟨l, .loop .ready none (L lf) N ps ca cb, nw2⟩ :: m2) t2 st2' → K (.bool true) st2') → Q2 .normal (L lf2) st2) →
      (∀ (base : Base) y lf2 st2 m2 t2 nw2, y ≠ .normal → SP base (⟨l, .loop .busy none (L lf) N ps ca cb, nw2⟩ :: m2) t2 st2 → (∀ st2', SP base (⟨l, .loop .done (some y) (L lf) N ps ca cb, nw2⟩ :: m2) t2 st2' → K (.bool false) st2') → Q2 y (L lf2) st2) →
      RC P N asg (setL lf ps xs) s Q1) : WV P (.yld l) xs s K := by
  show WY P l xs s K
  have h := k (fun x fr1 st1 => x = .normal ∧ st1.get l = some (.loop .ready none (L lf) N ps ca cb) ∧ wc P N body fr1 (st1.set l (.loop .busy none (L lf) N ps ca cb)) fun y _ st2 => st2.get l = some (.loop .busy none (L lf) N ps ca cb) ∧
        if y = .normal then K (.bool true) (st2.set l (.loop .ready none (L lf) N ps ca cb)) else K (.bool false) (st2.set l (.loop .done (some y) (L lf) N ps ca cb)))
    (fun y _ st2 => st2.get l = some (.loop .busy none (L lf) N ps ca cb) ∧
        if y = .normal then K (.bool true) (st2.set l (.loop .ready none (L lf) N ps ca cb)) else K (.bool false) (st2.set l (.loop .done (some y) (L lf) N ps ca cb))) ?_ ?_ ?_
  · refine wy_intro (H.fact 0 rfl) hca hcb hx ?_
    rw [updz_L ps xs lf hp]; exact h.run
  · intro base lf1 st1 m1 t1 nw1 H1 h1
    exact ⟨rfl, H1.fact 0 rfl, (h1 _ (H1.set 0 (c := ⟨l, _, nw1⟩) rfl rfl _)).run⟩
  · intro base lf2 st2 m2 t2 nw2 H2 h2
    exact ⟨H2.fact 0 rfl, by rw [if_pos rfl]; exact h2 _ (H2.set 0 (c := ⟨l, _, nw2⟩) rfl rfl _)⟩
  · intro base y lf2 st2 m2 t2 nw2 hy H2 h2
    exact ⟨H2.fact 0 rfl, by rw [if_neg hy]; exact h2 _ (H2.set 0 (c := ⟨l, _, nw2⟩) rfl rfl _)⟩
end
end Go.EF
