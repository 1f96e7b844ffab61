/- Regions that draw their order: whatever the order, what comes of it is what the text's order makes. No conditions. -/
import Derived.Test.YtbekogkbdmaobaaEf11
import Derived.OrdersIn
namespace Go.EF
open Go Go.RowKit

def Runs (g : GOp) (fr : Nat → AV) : Prop := match g.guard with | none => True | some (d, want) => fr d = .bool want
def Skips (g : GOp) (fr : Nat → AV) : Prop := match g.guard with | none => False | some (d, want) => fr d = .bool (!want) ∨ fr d = .tup []

def effAt (gs : List GOp) (j : Nat) : Prop := ∃ g, gs[j]? = some g ∧ g.op.kd = .eff

section
variable {P : Program} {N : Nat} {ops : Array Oper} {gs : List GOp} {bss : List (List Nat)} {als : List (Nat × Nat × List AV)}

theorem wop_ev {c : COp} {fr : Nat → AV} {st : St} {K : AV → St → Prop} (hk : c.kd ≠ .eff) (h : wop P c fr st K) : ∃ x s', evOp P (·.ev fr) st c = some (x, s') ∧ K x s' := by
  unfold wop at h
  split at h
  · simp [COp.kd] at hk
  · simp [COp.kd] at hk
  · split at h
    · exact ⟨_, _, ‹_›, h⟩
    · exact h.elim

theorem ev_wop {c : COp} {fr : Nat → AV} {st : St} {x : AV} {s' : St} (hk : c.kd ≠ .eff) (h : evOp P (·.ev fr) st c = some (x, s')) : wop P c fr st fun y s => y = x ∧ s = s' := by
  unfold wop
  split
  · simp [COp.kd] at hk
  · simp [COp.kd] at hk
  · rw [h]; exact ⟨rfl, rfl⟩

/-- What a pure operation makes does not hang on the state. -/
theorem evOp_pure {ρ : Opd → AV} {c : COp} {s s' : St} {x : AV} (hk : c.kd = .pure) (h : evOp P ρ s c = some (x, s')) : s' = s ∧ ∀ t, evOp P ρ t c = some (x, t) := by
  cases c with
  | len k y =>
    cases k with
    | mp => simp [COp.kd] at hk
    | str =>
      simp only [evOp] at h ⊢
      split at h
      · cases h; exact ⟨rfl, fun t => rfl⟩
      · cases h
    | sl =>
      simp only [evOp] at h ⊢
      split at h
      · cases h; exact ⟨rfl, fun t => rfl⟩
      · cases h; exact ⟨rfl, fun t => rfl⟩
      · cases h; exact ⟨rfl, fun t => rfl⟩
      · cases h
  | slice sz y lo hi mx =>
    simp only [evOp] at h ⊢
    split at h
    · rename_i own cs n e
      split at h
      · rename_i hc
        split at h
        · simp only [Option.some.injEq, Prod.mk.injEq] at h; obtain ⟨rfl, rfl⟩ := h; exact ⟨rfl, fun t => if_pos hc⟩
        · cases h
      · cases h
    · split at h
      · cases h; exact ⟨rfl, fun t => rfl⟩
      · cases h
    · cases h
  | srange | snext | alloc | load | lookup | box | store | mkmap | mkslice | mapset | mapentry | entrystore | append | copy | call | callv => simp [COp.kd] at hk
  | _ =>
    simp only [evOp] at h ⊢
    repeat' split at h
    all_goals first
      | (cases h; done)
      | (cases h; exact ⟨rfl, fun t => by simp_all⟩)

theorem evOp_read {ρ : Opd → AV} {c : COp} {s s' : St} {x : AV} (hk : c.kd = .read) (h : evOp P ρ s c = some (x, s')) : s' = s := by
  cases c with
  | len k y =>
    cases k with
    | mp =>
      simp only [evOp] at h
      split at h <;> cases h; rfl
    | str => simp [COp.kd] at hk
    | sl => simp [COp.kd] at hk
  | load => simp only [evOp] at h; split at h <;> cases h; rfl
  | lookup =>
    simp only [evOp] at h
    repeat' split at h
    all_goals first
      | (cases h; done)
      | (cases h; rfl)
  | _ => simp [COp.kd] at hk

/-- What the text's order does at each place. -/
def TStep (P : Program) (N : Nat) (ops : Array Oper) (gs : List GOp) (bss : List (List Nat)) (als : List (Nat × Nat × List AV)) (i : Nat) (hist : List (Nat × St)) (pend : List (Nat × (St → Option (AV × St)) × AV))
    (X : Nat → AV) (S : Nat → St) (F : Nat → Nat → AV) (k : Nat) (g : GOp) : Prop :=
  F (k + 1) = updo (F k) g.dst (X k) ∧
  match g.op.kd with
  | .alloc => S (k + 1) = S k ∧ ∃ x ∈ als, x.1 = k ∧ X k = .ptr x.2.1 0
  | .pure => S (k + 1) = S k ∧ ((Skips g (F k) ∧ X k = .tup []) ∨ (Runs g (F k) ∧ ∃ s', evOp P (·.ev (mask g.op.slots (F k))) (S k) g.op = some (X k, s')))
  | .read => S (k + 1) = S k ∧ ((Skips g (F k) ∧ X k = .tup []) ∨ (Runs g (F k) ∧ (∃ s', evOp P (·.ev (mask g.op.slots (F k))) (S k) g.op = some (X k, s')) ∧
      (∀ h ∈ hist, (bss.getD k []).contains h.1 = false → evOp P (·.ev (mask g.op.slots (F k))) h.2 g.op = some (X k, h.2)) ∧
      (∀ j, i ≤ j → j < k → effAt gs j → (bss.getD k []).contains j = false → evOp P (·.ev (mask g.op.slots (F k))) (S j) g.op = some (X k, S j)) ∧
      (∀ j, k < j → effAt gs j → (bss.getD j []).contains k = false → evOp P (·.ev (mask g.op.slots (F k))) (S (j + 1)) g.op = some (X k, S (j + 1)))))
  | .eff => ((Skips g (F k) ∧ X k = .tup [] ∧ S (k + 1) = S k) ∨ (Runs g (F k) ∧ ∃ o, ops[k]? = some o ∧ OpSound P N o (mask g.op.slots (F k)) (S k) (X k) (S (k + 1)))) ∧ effOK (bss.getD k []) als pend (S (k + 1))

/-- A function turned at one place. -/
def at0 {α : Type} (i : Nat) (x : α) (f : Nat → α) : Nat → α := fun j => if j = i then x else f j
theorem at0_same {α : Type} {i : Nat} {x : α} {f : Nat → α} : at0 i x f i = x := if_pos rfl
theorem at0_ne {α : Type} {i j : Nat} {x : α} {f : Nat → α} (h : j ≠ i) : at0 i x f j = f j := if_neg h

theorem wdraw_trace (hl : ∀ (k : Nat) (g : GOp), gs[k]? = some g → ∃ o, ops[k]? = some o ∧ compOper P N ops o = some g) {K : (Nat → AV) → St → Prop} : ∀ (l : List GOp) (i : Nat) (fr : Nat → AV) (st : St) (hist : List (Nat × St)) (pend : List (Nat × (St → Option (AV × St)) × AV)),
    (∀ k, gs[i + k]? = l[k]?) → wdraw P bss als i l fr st hist pend K →
    ∃ (X : Nat → AV) (S : Nat → St) (F : Nat → Nat → AV), F i = fr ∧ S i = st ∧ K (F (i + l.length)) (S (i + l.length)) ∧ ∀ (k : Nat) (g : GOp), i ≤ k → gs[k]? = some g → TStep P N ops gs bss als i hist pend X S F k g
  | [], i, fr, st, hist, pend, hg, h => ⟨fun _ => .junk, fun _ => st, fun _ => fr, rfl, rfl, h, fun k g hk e => by
      have := hg (k - i); rw [show i + (k - i) = k from by omega, e] at this; cases this⟩
  | g :: r, i, fr, st, hist, pend, hg, h => by
    have hgi : gs[i]? = some g := by simpa using hg 0
    have hgr : ∀ k, gs[i + 1 + k]? = r[k]? := fun k => by have := hg (k + 1); rw [show i + (k + 1) = i + 1 + k from by omega] at this; simpa using this
    -- how the rest's trace is taken over
    have take : ∀ (x : AV) (st' : St) (hist' : List (Nat × St)) (pend' : List (Nat × (St → Option (AV × St)) × AV)), wdraw P bss als (i + 1) r (updo fr g.dst x) st' hist' pend' K →
        (∀ h ∈ hist, h ∈ hist') → (∀ p ∈ pend, p ∈ pend') → (g.op.kd = .eff → (i, st) ∈ hist') →
        ((∀ j, i < j → effAt gs j → ∀ Y : Nat → St, (Y = fun k => k |> fun _ => st) → True) → True) →
        (∀ (X' : Nat → AV) (S' : Nat → St) (F' : Nat → Nat → AV), S' (i + 1) = st' → F' (i + 1) = updo fr g.dst x → (∀ (k : Nat) (g : GOp), i + 1 ≤ k → gs[k]? = some g → TStep P N ops gs bss als (i + 1) hist' pend' X' S' F' k g) →
          TStep P N ops gs bss als i hist pend (at0 i x X') (at0 i st S') (at0 i fr F') i g) →
        ∃ (X : Nat → AV) (S : Nat → St) (F : Nat → Nat → AV), F i = fr ∧ S i = st ∧ K (F (i + (g :: r).length)) (S (i + (g :: r).length)) ∧ ∀ (k : Nat) (g : GOp), i ≤ k → gs[k]? = some g → TStep P N ops gs bss als i hist pend X S F k g := by
      intro x st' hist' pend' hw hh hp he _ here
      obtain ⟨X', S', F', hF, hS, hK, hT⟩ := wdraw_trace hl r (i + 1) _ _ _ _ hgr hw
      refine ⟨at0 i x X', at0 i st S', at0 i fr F', at0_same, at0_same, ?_, fun k g' hk e => ?_⟩
      · rw [at0_ne (by simp), at0_ne (by simp), show i + (g :: r).length = i + 1 + r.length from by simp; omega]; exact hK
      · by_cases hki : k = i
        · subst hki; rw [hgi] at e; cases e; exact here X' S' F' hS hF hT
        · have t := hT k g' (by omega) e
          unfold TStep at t ⊢
          rw [at0_ne (show k + 1 ≠ i by omega), at0_ne hki, at0_ne hki, at0_ne (show k + 1 ≠ i by omega), at0_ne hki]
          refine ⟨t.1, ?_⟩
          have t := t.2
          split at t
          · exact t
          · exact t
          · obtain ⟨t1, t2⟩ := t
            refine ⟨t1, t2.imp id ?_⟩
            rintro ⟨u1, u2, u3, u4, u5⟩
            refine ⟨u1, u2, fun h hm => u3 h (hh h hm), fun j h1 h2 h3 h4 => ?_, fun j h1 h2 h3 => ?_⟩
            · by_cases hj : j = i
              · subst hj
                obtain ⟨g2, e2, e3⟩ := h3
                rw [hgi] at e2; cases e2
                rw [at0_same]; exact u3 _ (he e3) h4
              · rw [at0_ne hj]; exact u4 j (by omega) h2 h3 h4
            · rw [at0_ne (show j + 1 ≠ i by omega)]; exact u5 j h1 h2 h3
          · exact ⟨t.1, fun p hm => t.2.1 p (hp p hm), t.2.2⟩
    simp only [wdraw] at h
    cases hk : g.op.kd with
    | alloc =>
      rw [hk] at h
      simp only at h
      split at h
      · rename_i x hx
        refine take _ _ _ _ h (fun _ => id) (fun _ => id) (fun e => by rw [hk] at e; cases e) (fun _ => trivial) fun X' S' F' hS hF hT => ?_
        unfold TStep
        rw [at0_ne (by omega), at0_same, at0_same, at0_ne (by omega), at0_same, hk, hF, hS]
        refine ⟨rfl, rfl, x, List.mem_of_find?_eq_some hx, ?_, rfl⟩
        have := List.find?_some hx; simpa using this
      · exact h.elim
    | pure =>
      rw [hk] at h
      have run : wop P g.op fr st (fun x _ => wdraw P bss als (i + 1) r (updo fr g.dst x) st hist pend K) → Runs g fr →
          ∃ (X : Nat → AV) (S : Nat → St) (F : Nat → Nat → AV), F i = fr ∧ S i = st ∧ K (F (i + (g :: r).length)) (S (i + (g :: r).length)) ∧ ∀ (k : Nat) (g : GOp), i ≤ k → gs[k]? = some g → TStep P N ops gs bss als i hist pend X S F k g := by
        intro hw hr
        obtain ⟨x, s', hev, hd⟩ := wop_ev (by rw [hk]; simp) hw
        rw [← wop_mask.1] at hev
        refine take _ _ _ _ hd (fun _ => id) (fun _ => id) (fun e => by rw [hk] at e; cases e) (fun _ => trivial) fun X' S' F' hS hF hT => ?_
        unfold TStep
        rw [at0_ne (by omega), at0_same, at0_same, at0_ne (by omega), at0_same, hk, hF, hS]
        exact ⟨rfl, rfl, .inr ⟨hr, s', hev⟩⟩
      simp only at h
      split at h
      · rename_i hgd; exact run h (by simp [Runs, hgd])
      · rename_i d want hgd
        split at h
        · rename_i b hb
          split at h
          · rename_i hw; subst hw; exact run h (by simp [Runs, hgd, hb])
          · rename_i hw
            refine take _ _ _ _ h (fun _ => id) (fun _ => id) (fun e => by rw [hk] at e; cases e) (fun _ => trivial) fun X' S' F' hS hF hT => ?_
            unfold TStep
            rw [at0_ne (by omega), at0_same, at0_same, at0_ne (by omega), at0_same, hk, hF, hS]
            exact ⟨rfl, rfl, .inl ⟨by simp only [Skips, hgd, hb]; left; cases b <;> cases want <;> simp_all, rfl⟩⟩
        · rename_i hb
          refine take _ _ _ _ h (fun _ => id) (fun _ => id) (fun e => by rw [hk] at e; cases e) (fun _ => trivial) fun X' S' F' hS hF hT => ?_
          unfold TStep
          rw [at0_ne (by omega), at0_same, at0_same, at0_ne (by omega), at0_same, hk, hF, hS]
          exact ⟨rfl, rfl, .inl ⟨by simp only [Skips, hgd, hb]; right; trivial, rfl⟩⟩
        · exact h.elim
    | read =>
      rw [hk] at h
      have run : wop P g.op fr st (fun x _ => (∀ h ∈ hist, (bss.getD i []).contains h.1 = false → evOp P (·.ev fr) h.2 g.op = some (x, h.2)) ∧
          wdraw P bss als (i + 1) r (updo fr g.dst x) st hist ((i, fun s => evOp P (·.ev fr) s g.op, x) :: pend) K) → Runs g fr →
          ∃ (X : Nat → AV) (S : Nat → St) (F : Nat → Nat → AV), F i = fr ∧ S i = st ∧ K (F (i + (g :: r).length)) (S (i + (g :: r).length)) ∧ ∀ (k : Nat) (g : GOp), i ≤ k → gs[k]? = some g → TStep P N ops gs bss als i hist pend X S F k g := by
        intro hw hr
        obtain ⟨x, s', hev, hd1, hd2⟩ := wop_ev (by rw [hk]; simp) hw
        rw [← wop_mask.1] at hev
        refine take _ _ _ _ hd2 (fun _ => id) (fun _ => List.mem_cons_of_mem _) (fun e => by rw [hk] at e; cases e) (fun _ => trivial) fun X' S' F' hS hF hT => ?_
        unfold TStep
        rw [at0_ne (by omega), at0_same, at0_same, at0_ne (by omega), at0_same, hk, hF, hS]
        refine ⟨rfl, rfl, .inr ⟨hr, ⟨s', hev⟩, fun h hm hc => by rw [wop_mask.1]; exact hd1 h hm hc, fun j h1 h2 => by omega, fun j h1 h2 h3 => ?_⟩⟩
        obtain ⟨g2, e2, e3⟩ := h2
        have t := hT j g2 (by omega) e2
        unfold TStep at t
        have t := t.2
        rw [e3] at t
        rw [at0_ne (show j + 1 ≠ i by omega)]
        have t3 := t.2.1 _ (List.mem_cons_self ..) h3
        rw [wop_mask.1]; exact t3
      simp only at h
      split at h
      · rename_i hgd; exact run h (by simp [Runs, hgd])
      · rename_i d want hgd
        split at h
        · rename_i b hb
          split at h
          · rename_i hw; subst hw; exact run h (by simp [Runs, hgd, hb])
          · rename_i hw
            refine take _ _ _ _ h (fun _ => id) (fun _ => id) (fun e => by rw [hk] at e; cases e) (fun _ => trivial) fun X' S' F' hS hF hT => ?_
            unfold TStep
            rw [at0_ne (by omega), at0_same, at0_same, at0_ne (by omega), at0_same, hk, hF, hS]
            exact ⟨rfl, rfl, .inl ⟨by simp only [Skips, hgd, hb]; left; cases b <;> cases want <;> simp_all, rfl⟩⟩
        · rename_i hb
          refine take _ _ _ _ h (fun _ => id) (fun _ => id) (fun e => by rw [hk] at e; cases e) (fun _ => trivial) fun X' S' F' hS hF hT => ?_
          unfold TStep
          rw [at0_ne (by omega), at0_same, at0_same, at0_ne (by omega), at0_same, hk, hF, hS]
          exact ⟨rfl, rfl, .inl ⟨by simp only [Skips, hgd, hb]; right; trivial, rfl⟩⟩
        · exact h.elim
    | eff =>
      rw [hk] at h
      have run : wop P g.op fr st (fun x st' => effOK (bss.getD i []) als pend st' ∧ wdraw P bss als (i + 1) r (updo fr g.dst x) st' ((i, st) :: hist) pend K) → Runs g fr →
          ∃ (X : Nat → AV) (S : Nat → St) (F : Nat → Nat → AV), F i = fr ∧ S i = st ∧ K (F (i + (g :: r).length)) (S (i + (g :: r).length)) ∧ ∀ (k : Nat) (g : GOp), i ≤ k → gs[k]? = some g → TStep P N ops gs bss als i hist pend X S F k g := by
        intro hw hr
        obtain ⟨o, ho, hco⟩ := hl i g hgi
        rw [← wop_mask.2] at hw
        obtain ⟨x, s', ⟨hd1, hd2⟩, hs⟩ := wop_sound1 hco hw
        refine take _ _ _ _ hd2 (fun _ => List.mem_cons_of_mem _) (fun _ => id) (fun _ => List.mem_cons_self ..) (fun _ => trivial) fun X' S' F' hS hF hT => ?_
        unfold TStep
        rw [at0_ne (by omega), at0_same, at0_same, at0_ne (by omega), at0_same, hk, hF, hS]
        exact ⟨rfl, .inr ⟨hr, o, ho, hs⟩, hd1⟩
      simp only at h
      split at h
      · rename_i hgd; exact run h (by simp [Runs, hgd])
      · rename_i d want hgd
        split at h
        · rename_i b hb
          split at h
          · rename_i hw; subst hw; exact run h (by simp [Runs, hgd, hb])
          · rename_i hw
            refine take _ _ _ _ h.2 (fun _ => List.mem_cons_of_mem _) (fun _ => id) (fun _ => List.mem_cons_self ..) (fun _ => trivial) fun X' S' F' hS hF hT => ?_
            unfold TStep
            rw [at0_ne (by omega), at0_same, at0_same, at0_ne (by omega), at0_same, hk, hF, hS]
            exact ⟨rfl, .inl ⟨by simp only [Skips, hgd, hb]; left; cases b <;> cases want <;> simp_all, rfl, rfl⟩, h.1⟩
        · rename_i hb
          refine take _ _ _ _ h.2 (fun _ => List.mem_cons_of_mem _) (fun _ => id) (fun _ => List.mem_cons_self ..) (fun _ => trivial) fun X' S' F' hS hF hT => ?_
          unfold TStep
          rw [at0_ne (by omega), at0_same, at0_same, at0_ne (by omega), at0_same, hk, hF, hS]
          exact ⟨rfl, .inl ⟨by simp only [Skips, hgd, hb]; right; trivial, rfl, rfl⟩, h.1⟩
        · exact h.elim
end
end Go.EF
