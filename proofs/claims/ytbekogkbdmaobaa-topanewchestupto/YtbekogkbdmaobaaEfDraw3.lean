/- Regions that draw their order, third part: whatever is taken next, the run keeps to the text's trace. No conditions. -/
import Derived.Test.YtbekogkbdmaobaaEfDraw2
namespace Go.EF
open Go Go.RowKit

section
variable {P : Program} {N : Nat} {ops : Array Oper} {gs : List GOp} {bss : List (List Nat)} {als : List (Nat × Nat × List AV)} {base : Nat}
variable {X : Nat → AV} {S : Nat → St} {F : Nat → Nat → AV}

/-- All that is known of the trace. -/
structure Tr (P : Program) (N : Nat) (ops : Array Oper) (gs : List GOp) (bss : List (List Nat)) (als : List (Nat × Nat × List AV)) (base : Nat) (X : Nat → AV) (S : Nat → St) (F : Nat → Nat → AV) : Prop where
  len : ops.size = gs.length
  op : ∀ (k : Nat) (g : GOp), gs[k]? = some g → ∃ o, ops[k]? = some o ∧ compOper P N ops o = some g
  step : ∀ (k : Nat) (g : GOp), gs[k]? = some g → TStep P N ops gs bss als 0 [] [] X S F k g
  e1 : ∀ i, i < gs.length → ∀ j ∈ (ops.toList.map directs).getD i [], j < i
  e2 : ∀ i, i < gs.length → ∀ j, (bss.getD i []).contains j = true → j ∈ (ops.toList.map directs).getD i [] ∨ ∃ k ∈ (ops.toList.map directs).getD i [], (bss.getD k []).contains j = true
  e3 : ∀ (i : Nat) (g : GOp), gs[i]? = some g → g.op.kd = .alloc → g.guard = none ∧ g.dst.isSome = true
  e4 : ∀ (i j : Nat) (g k : GOp), j < i → gs[i]? = some g → gs[j]? = some k → conflict g k = true → (bss.getD i []).contains j = true
  al : ∀ x ∈ als, base ≤ x.2.1 ∧ (S 0).get x.2.1 = some (.cells x.2.2) ∧ ∃ g, gs[x.1]? = some g ∧ g.op = .alloc x.2.2
  alinj : ∀ x ∈ als, ∀ y ∈ als, x.1 = y.1 ↔ x.2.1 = y.2.1

variable (T : Tr P N ops gs bss als base X S F)
include T

/-- The state turns at effects alone. -/
theorem Tr.still {k : Nat} (hk : k < gs.length) (h : ¬ effAt gs k) : S (k + 1) = S k := by
  have t := T.step k gs[k] (List.getElem?_eq_getElem hk)
  unfold TStep at t
  have t := t.2
  cases hkd : gs[k].op.kd with
  | eff => exact absurd ⟨_, List.getElem?_eq_getElem hk, hkd⟩ h
  | alloc => rw [hkd] at t; exact t.1
  | pure => rw [hkd] at t; exact t.1
  | read => rw [hkd] at t; exact t.1

theorem Tr.flat {m : Nat} : ∀ (d : Nat), m + d ≤ gs.length → (∀ k, m ≤ k → k < m + d → ¬ effAt gs k) → S (m + d) = S m
  | 0, _, _ => rfl
  | d + 1, hd, h => by
    rw [show m + (d + 1) = (m + d) + 1 from rfl, T.still (by omega) (h _ (by omega) (by omega))]
    exact Tr.flat d (by omega) fun k h1 h2 => h k h1 (by omega)

theorem Tr.sameS {m m' : Nat} (hm : m ≤ gs.length) (hm' : m' ≤ gs.length) (h : ∀ k, effAt gs k → (k < m ↔ k < m')) : S m = S m' := by
  rcases Nat.le_total m m' with hle | hle
  · obtain ⟨d, rfl⟩ := Nat.exists_eq_add_of_le hle
    exact (T.flat d hm' fun k h1 h2 he => by have := h k he; omega).symm
  · obtain ⟨d, rfl⟩ := Nat.exists_eq_add_of_le hle
    exact T.flat d hm fun k h1 h2 he => by have := h k he; omega

/-- What a slot holds at a place of the text. -/
theorem Tr.slot (s : Nat) : ∀ i, i ≤ gs.length → (∃ (k : Nat) (g : GOp), k < i ∧ gs[k]? = some g ∧ g.dst = some s ∧ F i s = X k ∧ ∀ (k' : Nat) (g' : GOp), k < k' → k' < i → gs[k']? = some g' → g'.dst ≠ some s) ∨
    ((∀ (k : Nat) (g : GOp), k < i → gs[k]? = some g → g.dst ≠ some s) ∧ F i s = F 0 s)
  | 0, _ => .inr ⟨fun k g h => by omega, rfl⟩
  | i + 1, hi => by
    have hg : gs[i]? = some gs[i] := List.getElem?_eq_getElem (by omega)
    have t := (T.step i _ hg).1
    by_cases hd : (gs[i]).dst = some s
    · refine .inl ⟨i, _, by omega, hg, hd, ?_, fun k' g' h1 h2 => by omega⟩
      rw [t, hd]; simp [updo, upd]
    · have hF : F (i + 1) s = F i s := by
        rw [t]
        cases hdd : (gs[i]).dst with
        | none => rfl
        | some d => rw [hdd] at hd; simp only [updo, upd]; rw [if_neg (fun e => hd (by rw [e]))]
      rcases Tr.slot s i (by omega) with ⟨k, g, h1, h2, h3, h4, h5⟩ | ⟨h1, h2⟩
      · refine .inl ⟨k, g, by omega, h2, h3, by rw [hF, h4], fun k' g' e1 e2 e3 => ?_⟩
        by_cases hk : k' = i
        · subst hk; rw [hg] at e3; cases e3; exact hd
        · exact h5 k' g' e1 (by omega) e3
      · refine .inr ⟨fun k g e1 e2 => ?_, by rw [hF, h2]⟩
        by_cases hk : k = i
        · subst hk; rw [hg] at e2; cases e2; exact hd
        · exact h1 k g (by omega) e2

/-- As long as nothing that comes behind an allocation is done, its object is as new. -/
theorem Tr.zero {x : Nat × Nat × List AV} (hx : x ∈ als) : ∀ m, m ≤ gs.length → (∀ k, k < m → effAt gs k → (bss.getD k []).contains x.1 = false) → (S m).get x.2.1 = some (.cells x.2.2)
  | 0, _, _ => (T.al x hx).2.1
  | m + 1, hm, h => by
    by_cases he : effAt gs m
    · obtain ⟨g, hg, hk⟩ := he
      have t := (T.step m g hg).2
      rw [hk] at t
      exact t.2.2 x hx (h m (by omega) ⟨g, hg, hk⟩)
    · rw [T.still (by omega) he]; exact Tr.zero hx m (by omega) fun k hk => h k (by omega)

/-- What a reading operation reads in any state in which it may come. -/
theorem Tr.reads {i : Nat} {g : GOp} (hg : gs[i]? = some g) (hk : g.op.kd = .read) (hr : ¬ (Skips g (F i) ∧ X i = .tup [])) {m : Nat} (hm : m ≤ gs.length) (h1 : ∀ k, effAt gs k → m ≤ k → k < i → (bss.getD i []).contains k = false)
    (h2 : ∀ k, effAt gs k → i < k → k < m → (bss.getD k []).contains i = false) : evOp P (·.ev (mask g.op.slots (F i))) (S m) g.op = some (X i, S m) := by
  have t := (T.step i g hg).2
  rw [hk] at t
  obtain ⟨t1, t2⟩ := t
  obtain ⟨_, ⟨s', u1⟩, _, u2, u3⟩ := t2.resolve_left hr
  have hs := evOp_read hk u1; subst hs
  rcases Nat.lt_or_ge i m with hlt | hle
  · clear h1
    obtain ⟨d, rfl⟩ : ∃ d, m = i + 1 + d := ⟨m - (i + 1), by omega⟩
    clear hlt
    induction d with
    | zero => rw [Nat.add_zero, t1]; exact u1
    | succ d ih =>
      by_cases he : effAt gs (i + 1 + d)
      · exact u3 (i + 1 + d) (by omega) he (h2 _ he (by omega) (by omega))
      · rw [show i + 1 + (d + 1) = (i + 1 + d) + 1 from rfl, T.still (by omega) he]
        exact ih (by omega) fun k e1 e2 e3 => h2 k e1 e2 (by omega)
  · clear h2
    obtain ⟨d, rfl⟩ : ∃ d, i = m + d := ⟨i - m, by omega⟩
    clear hle
    have key : ∀ d', d' ≤ d → evOp P (·.ev (mask g.op.slots (F (m + d)))) (S (m + d - d')) g.op = some (X (m + d), S (m + d - d')) := by
      intro d'
      induction d' with
      | zero => intro _; exact u1
      | succ d' ih =>
        intro hd'
        by_cases he : effAt gs (m + d - (d' + 1))
        · exact u2 _ (by omega) (by omega) he (h1 _ he (by omega) (by omega))
        · have := ih (by omega)
          have hh := T.still (k := m + d - (d' + 1)) (by have := (List.getElem?_eq_some_iff.1 hg).1; omega) he
          rw [show m + d - (d' + 1) + 1 = m + d - d' from by omega] at hh
          rw [← hh]; exact this
    have := key d (Nat.le_refl _)
    rwa [show m + d - d = m from by omega] at this
end
end Go.EF
