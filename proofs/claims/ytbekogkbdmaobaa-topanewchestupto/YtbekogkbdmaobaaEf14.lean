/- A function's resolved body by its number; small lemmas for stepping. No conditions. -/
import Derived.Test.YtbekogkbdmaobaaEf13
import Derived.KernelRfl
namespace Go.EF
open Go Go.RowKit

def compF (P : Program) (f : Nat) : Option (Nat × List ResultVar × CC) :=
  match P.funcs[f]? with
  | some fn => match fn.body with
    | some c => if fn.name == "runtime.NumGoroutine" then none else match comp P fn.ntmps c with
      | some cc => some (fn.ntmps, fn.results.toList, cc)
      | none => none
    | none => none
  | none => none

theorem wf_of {P : Program} {f N : Nat} {rs : List ResultVar} {cc : CC} {args : List AV} {st : St} {K : AV → St → Prop} (hc : compF P f = some (N, rs, cc)) (hn : args.length ≤ N)
    (h : wc P N cc (frame0 args) st fun x fr' st' => (x = .normal ∨ x = .ret) ∧ ∃ r, resV P rs fr' st' = some r ∧ K r st') : WF P f args st K := by
  unfold compF at hc
  split at hc
  · rename_i fn hf
    split at hc
    · rename_i c hb
      split at hc
      · cases hc
      · rename_i hname
        split at hc
        · rename_i cc' hcc
          simp only [Option.some.injEq, Prod.mk.injEq] at hc
          obtain ⟨rfl, rfl, rfl⟩ := hc
          exact wf_intro hf hb (by simpa using hname) hcc hn h
        · cases hc
    · cases hc
  · cases hc

def rfs : Code → List (Code × Code)
  | .seq a b => rfs a ++ rfs b
  | .cond _ a b => rfs a ++ rfs b
  | .block _ c => rfs c
  | .loop c => rfs c
  | .scope c => rfs c
  | .rangeFunc _ _ a b => [(a, b)]
  | _ => []
def rfA (f : Func) (k : Nat) : Code := (((f.body.map rfs).getD []).getD k (.skip, .skip)).1
def rfB (f : Func) (k : Nat) : Code := (((f.body.map rfs).getD []).getD k (.skip, .skip)).2

theorem WF.mono {P : Program} {f : Nat} {args : List AV} {st : St} {K K' : AV → St → Prop} (h : WF P f args st K) (hk : ∀ r st', K r st' → K' r st') : WF P f args st K' :=
  let ⟨r, st', h1, h2⟩ := h; ⟨r, st', hk _ _ h1, h2⟩
theorem WY.mono {P : Program} {l : Nat} {args : List AV} {st : St} {K K' : AV → St → Prop} (h : WY P l args st K) (hk : ∀ r st', K r st' → K' r st') : WY P l args st K' :=
  let ⟨r, st', h1, h2⟩ := h; ⟨r, st', hk _ _ h1, h2⟩
theorem WV.mono {P : Program} {x : AV} {args : List AV} {st : St} {K K' : AV → St → Prop} (h : WV P x args st K) (hk : ∀ r st', K r st' → K' r st') : WV P x args st K' := by
  cases x <;> first | exact WF.mono h hk | exact WY.mono h hk | exact h.elim

/-- A loop: what holds at every round's head; a measure. -/
theorem wc_loop {P : Program} {N : Nat} {c : CC} {fr : Nat → AV} {st : St} {Q : Jmp → (Nat → AV) → St → Prop} {σ : Type} (I : σ → (Nat → AV) → St → Prop) (μ : σ → Nat) (s : σ) (h0 : I s fr st)
    (round : ∀ s fr st, I s fr st → wc P N c fr st fun x fr' st' => if x = .normal then ∃ s', I s' fr' st' ∧ μ s' < μ s else Q x fr' st') : wc P N (.loop c) fr st Q := by
  intro R hR
  have key : ∀ n s fr st, μ s = n → I s fr st → R fr st := by
    intro n
    induction n using Nat.strongRecOn with
    | _ n ih =>
      intro s fr st hn hI
      apply hR
      refine wc_mono c _ _ _ _ (round s fr st hI) fun x fr' st' h => ?_
      by_cases hx : x = .normal
      · rw [if_pos hx] at h ⊢
        obtain ⟨s', h1, h2⟩ := h
        exact ih _ (by omega) s' fr' st' rfl h1
      · rw [if_neg hx] at h ⊢; exact h
  exact key _ s fr st rfl h0
where
  wops_mono : ∀ (l : List GOp) (fr : Nat → AV) (st : St) (K K' : (Nat → AV) → St → Prop), wops P l fr st K → (∀ fr st, K fr st → K' fr st) → wops P l fr st K'
    | [], fr, st, K, K', h, hk => hk _ _ h
    | g :: r, fr, st, K, K', h, hk => by
      have op : ∀ (K1 K2 : AV → St → Prop), wop P g.op fr st K1 → (∀ x s, K1 x s → K2 x s) → wop P g.op fr st K2 := by
        intro K1 K2 h1 h2
        unfold wop at h1 ⊢
        split at h1
        · exact h1.mono h2
        · exact h1.mono h2
        · split at h1
          · exact h2 _ _ h1
          · exact h1.elim
      simp only [wops] at h ⊢
      split at h
      · exact op _ _ h fun x s h' => wops_mono r _ _ _ _ h' hk
      · split at h
        · split at h
          · rename_i hb; rw [if_pos hb]; exact op _ _ h fun x s h' => wops_mono r _ _ _ _ h' hk
          · rename_i hb; rw [if_neg hb]; exact wops_mono r _ _ _ _ h hk
        · exact wops_mono r _ _ _ _ h hk
        · exact h.elim
  wop_mono : ∀ (c : COp) (fr : Nat → AV) (st : St) (K1 K2 : AV → St → Prop), wop P c fr st K1 → (∀ x s, K1 x s → K2 x s) → wop P c fr st K2 := by
    intro c fr st K1 K2 h1 h2
    unfold wop at h1 ⊢
    split at h1
    · exact h1.mono h2
    · exact h1.mono h2
    · split at h1
      · exact h2 _ _ h1
      · exact h1.elim
  wdraw_mono (bss : List (List Nat)) (als : List (Nat × Nat × List AV)) : ∀ (l : List GOp) (i : Nat) (fr : Nat → AV) (st : St) (hist : List (Nat × St)) (pend : List (Nat × (St → Option (AV × St)) × AV)) (K K' : (Nat → AV) → St → Prop), wdraw P bss als i l fr st hist pend K → (∀ fr st, K fr st → K' fr st) → wdraw P bss als i l fr st hist pend K'
    | [], i, fr, st, hist, pend, K, K', h, hk => hk _ _ h
    | g :: r, i, fr, st, hist, pend, K, K', h, hk => by
      simp only [wdraw] at h ⊢
      split at h
      · split at h
        · exact wdraw_mono bss als r _ _ _ _ _ _ _ h hk
        · exact h.elim
      · split at h
        · exact wop_mono _ _ _ _ _ h fun x s h' => wdraw_mono bss als r _ _ _ _ _ _ _ h' hk
        · split at h
          · split at h
            · rename_i hb; rw [if_pos hb]; exact wop_mono _ _ _ _ _ h fun x s h' => wdraw_mono bss als r _ _ _ _ _ _ _ h' hk
            · rename_i hb; rw [if_neg hb]; exact wdraw_mono bss als r _ _ _ _ _ _ _ h hk
          · exact wdraw_mono bss als r _ _ _ _ _ _ _ h hk
          · exact h.elim
      · split at h
        · exact wop_mono _ _ _ _ _ h fun x s h' => ⟨h'.1, wdraw_mono bss als r _ _ _ _ _ _ _ h'.2 hk⟩
        · split at h
          · split at h
            · rename_i hb; rw [if_pos hb]; exact wop_mono _ _ _ _ _ h fun x s h' => ⟨h'.1, wdraw_mono bss als r _ _ _ _ _ _ _ h'.2 hk⟩
            · rename_i hb; rw [if_neg hb]; exact wdraw_mono bss als r _ _ _ _ _ _ _ h hk
          · exact wdraw_mono bss als r _ _ _ _ _ _ _ h hk
          · exact h.elim
      · split at h
        · exact wop_mono _ _ _ _ _ h fun x s h' => ⟨h'.1, wdraw_mono bss als r _ _ _ _ _ _ _ h'.2 hk⟩
        · split at h
          · split at h
            · rename_i hb; rw [if_pos hb]; exact wop_mono _ _ _ _ _ h fun x s h' => ⟨h'.1, wdraw_mono bss als r _ _ _ _ _ _ _ h'.2 hk⟩
            · rename_i hb; rw [if_neg hb]; exact ⟨h.1, wdraw_mono bss als r _ _ _ _ _ _ _ h.2 hk⟩
          · exact ⟨h.1, wdraw_mono bss als r _ _ _ _ _ _ _ h.2 hk⟩
          · exact h.elim
  wc_mono : ∀ (c : CC) (fr : Nat → AV) (st : St) (Q Q' : Jmp → (Nat → AV) → St → Prop), wc P N c fr st Q → (∀ x fr st, Q x fr st → Q' x fr st) → wc P N c fr st Q'
    | .skip, fr, st, Q, Q', h, hq => hq _ _ _ h
    | .exit _, fr, st, Q, Q', h, hq => hq _ _ _ h
    | .ret, fr, st, Q, Q', h, hq => hq _ _ _ h
    | .draw l bs, fr, st, Q, Q', h, hq => wdraw_mono _ _ l _ _ _ _ _ _ _ h fun _ _ h' => hq _ _ _ h'
    | .ops l, fr, st, Q, Q', h, hq => wops_mono l _ _ _ _ h fun _ _ h' => hq _ _ _ h'
    | .seq a b, fr, st, Q, Q', h, hq => by
      refine wc_mono a _ _ _ _ h fun x fr' st' h' => ?_
      by_cases hx : x = .normal
      · simp only [if_pos hx] at h' ⊢; exact wc_mono b _ _ _ _ h' hq
      · simp only [if_neg hx] at h' ⊢; exact hq _ _ _ h'
    | .cond c a b, fr, st, Q, Q', h, hq => by
      simp only [wc] at h ⊢
      split at h
      · exact wc_mono a _ _ _ _ h hq
      · exact wc_mono b _ _ _ _ h hq
      · exact h.elim
    | .block id c, fr, st, Q, Q', h, hq => by
      refine wc_mono c _ _ _ _ h fun x fr' st' h' => ?_
      by_cases hx : x = .exit id
      · simp only [if_pos hx] at h' ⊢; exact hq _ _ _ h'
      · simp only [if_neg hx] at h' ⊢; exact hq _ _ _ h'
    | .loop c, fr, st, Q, Q', h, hq => by
      intro R hR
      refine h R fun fr st hw => hR fr st (wc_mono c _ _ _ _ hw fun x fr' st' h' => ?_)
      by_cases hx : x = .normal
      · simp only [if_pos hx] at h' ⊢; exact h'
      · simp only [if_neg hx] at h' ⊢; exact hq _ _ _ h'
    | .rangef f ps a b, fr, st, Q, Q', h, hq => by
      simp only [wc] at h ⊢
      split at h
      · exact h.mono fun r st' ⟨s, p, f1, n1, p1, a1, b1, h1, h2, h3⟩ => ⟨s, p, f1, n1, p1, a1, b1, h1, h2, hq _ _ _ h3⟩
      · exact h.elim

end Go.EF
