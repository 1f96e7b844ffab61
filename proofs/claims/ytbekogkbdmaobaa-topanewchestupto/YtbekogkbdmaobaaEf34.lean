/- Resolved code that is run: a function that the kernel reckons, sound for the meaning. No conditions. -/
import Derived.Test.YtbekogkbdmaobaaEf33
namespace Go.EF
open Go Go.RowKit

/-! ### values that are the same -/
def IntKind.same : IntKind → IntKind → Bool
  | .i64, .i64 => true
  | .u8, .u8 => true
  | .i32, .i32 => true
  | .u64, .u64 => true
  | _, _ => false
theorem IntKind.same_eq : ∀ {a b : IntKind}, IntKind.same a b = true → a = b := by
  intro a b h; cases a <;> cases b <;> first | rfl | (simp [IntKind.same] at h)

def isame : Int → Int → Bool
  | .ofNat a, .ofNat b => Nat.beq a b
  | .negSucc a, .negSucc b => Nat.beq a b
  | _, _ => false
theorem isame_eq : ∀ {a b : Int}, isame a b = true → a = b
  | .ofNat _, .ofNat _, h => congrArg _ (Nat.eq_of_beq_eq_true h)
  | .negSucc _, .negSucc _, h => congrArg _ (Nat.eq_of_beq_eq_true h)
  | .ofNat _, .negSucc _, h => by simp [isame] at h
  | .negSucc _, .ofNat _, h => by simp [isame] at h

def vsame : Value → Value → Bool
  | .bool a, .bool b => match a, b with | true, true => true | false, false => true | _, _ => false
  | .int k a, .int j b => IntKind.same k j && isame a b
  | .string a, .string b => decide (a = b)
  | _, _ => false
theorem vsame_eq : ∀ {a b : Value}, vsame a b = true → a = b := by
  intro a b h
  unfold vsame at h
  split at h
  · split at h
    · rfl
    · rfl
    · cases h
  · simp only [Bool.and_eq_true] at h
    rw [IntKind.same_eq h.1, isame_eq h.2]
  · rw [of_decide_eq_true h]
  · cases h

def Own.same : Own → Own → Bool
  | .any, .any => true
  | .exact, .exact => true
  | .tok a, .tok b => Nat.beq a b
  | _, _ => false
theorem Own.same_eq : ∀ {a b : Own}, Own.same a b = true → a = b := by
  intro a b h
  cases a <;> cases b <;> first | rfl | (simp [Own.same] at h; done) | exact congrArg _ (Nat.eq_of_beq_eq_true h)

mutual
def same : AV → AV → Bool
  | .v x, .v y => vsame x y
  | .ptr a o, .ptr b p => Nat.beq a b && Nat.beq o p
  | .ms a o l c, .ms b p m d => Nat.beq a b && (Nat.beq o p && (Nat.beq l m && Nat.beq c d))
  | .map a, .map b => Nat.beq a b
  | .yld a, .yld b => Nat.beq a b
  | .list o cs n, .list p ds m => Own.same o p && (Nat.beq n m && sames cs ds)
  | .lptr cs n, .lptr ds m => Nat.beq n m && sames cs ds
  | .fn f a b, .fn g c d => Nat.beq f g && (sames a c && sames b d)
  | .agg cs, .agg ds => sames cs ds
  | .tup cs, .tup ds => sames cs ds
  | _, _ => false
def sames : List AV → List AV → Bool
  | [], [] => true
  | x :: xs, y :: ys => same x y && sames xs ys
  | _, _ => false
end

mutual
theorem same_eq : ∀ (a b : AV), same a b = true → a = b := by
  intro a b h
  cases a <;> cases b <;> simp only [same, Bool.and_eq_true, Bool.false_eq_true] at h
  · rw [vsame_eq h]
  · rw [Nat.eq_of_beq_eq_true h.1, Nat.eq_of_beq_eq_true h.2]
  · rw [Nat.eq_of_beq_eq_true h.1, sames_eq _ _ h.2]
  · rw [Own.same_eq h.1, Nat.eq_of_beq_eq_true h.2.1, sames_eq _ _ h.2.2]
  · rw [Nat.eq_of_beq_eq_true h.1, Nat.eq_of_beq_eq_true h.2.1, Nat.eq_of_beq_eq_true h.2.2.1, Nat.eq_of_beq_eq_true h.2.2.2]
  · rw [Nat.eq_of_beq_eq_true h]
  · rw [Nat.eq_of_beq_eq_true h.1, sames_eq _ _ h.2.1, sames_eq _ _ h.2.2]
  · rw [Nat.eq_of_beq_eq_true h]
  · rw [sames_eq _ _ h]
  · rw [sames_eq _ _ h]
theorem sames_eq : ∀ (a b : List AV), sames a b = true → a = b
  | [], [], _ => rfl
  | x :: xs, y :: ys, h => by
    simp only [sames, Bool.and_eq_true] at h
    rw [same_eq x y h.1, sames_eq xs ys h.2]
  | [], _ :: _, h => by simp [sames] at h
  | _ :: _, [], h => by simp [sames] at h
end

/-! ### operations -/
abbrev Call := AV → List AV → St → Option (AV × St)

def xop (P : Program) (call : Call) (c : COp) (fr : Nat → AV) (st : St) : Option (AV × St) :=
  match c with
  | .call f args => call (.fn f [] []) (args.map (·.ev fr)) st
  | .callv f args => call (f.ev fr) (args.map (·.ev fr)) st
  | c => evOp P (·.ev fr) st c

def xops (P : Program) (call : Call) : List GOp → (Nat → AV) → St → Option ((Nat → AV) × St)
  | [], fr, st => some (fr, st)
  | g :: r, fr, st =>
    match g.guard with
    | none => match xop P call g.op fr st with
      | some (x, st') => xops P call r (updo fr g.dst x) st'
      | none => none
    | some (d, want) => match fr d with
      | .v (.bool b) => match b == want with
        | true => match xop P call g.op fr st with
          | some (x, st') => xops P call r (updo fr g.dst x) st'
          | none => none
        | false => xops P call r (updo fr g.dst (.tup [])) st
      | .tup [] => xops P call r (updo fr g.dst (.tup [])) st
      | _ => none

def CallOK (P : Program) (call : Call) : Prop := ∀ x args st r st', call x args st = some (r, st') → ∀ K : AV → St → Prop, K r st' → WV P x args st K

section
variable {P : Program} {call : Call}

theorem xop_sound (hc : CallOK P call) {c : COp} {fr : Nat → AV} {st : St} {x : AV} {st' : St} (h : xop P call c fr st = some (x, st')) (K : AV → St → Prop) (hK : K x st') : wop P c fr st K := by
  unfold xop at h
  unfold wop
  split at h
  · exact (hc _ _ _ _ _ h K hK : WF P _ _ _ _) |> fun h => by simpa [WV] using h
  · exact hc _ _ _ _ _ h K hK
  · rename_i h1 h2
    split
    · exact absurd rfl (h1 _ _)
    · exact absurd rfl (h2 _ _)
    · rw [h]; exact hK

theorem xops_sound (hc : CallOK P call) : ∀ (l : List GOp) (fr : Nat → AV) (st : St) (fr' : Nat → AV) (st' : St), xops P call l fr st = some (fr', st') → ∀ K : (Nat → AV) → St → Prop, K fr' st' → wops P l fr st K
  | [], fr, st, fr', st', h, K, hK => by
    simp only [xops, Option.some.injEq, Prod.mk.injEq] at h
    obtain ⟨rfl, rfl⟩ := h; exact hK
  | ⟨dst, none, op⟩ :: r, fr, st, fr', st', h, K, hK => by
    simp only [xops] at h
    simp only [wops]
    split at h
    · refine xop_sound hc ‹_› _ ?_
      exact xops_sound hc r _ _ _ _ h K hK
    · cases h
  | ⟨dst, some (d, want), op⟩ :: r, fr, st, fr', st', h, K, hK => by
    simp only [xops] at h
    simp only [wops]
    split at h
    · rename_i b hfd
      simp only [hfd]
      split at h
      · rename_i hb
        rw [if_pos (eq_of_beq hb)]
        split at h
        · refine xop_sound hc ‹_› _ ?_
          exact xops_sound hc r _ _ _ _ h K hK
        · cases h
      · rename_i hb
        rw [if_neg (by simpa using hb)]
        exact xops_sound hc r _ _ _ _ h K hK
    · rename_i hfd
      simp only [hfd]
      exact xops_sound hc r _ _ _ _ h K hK
    · cases h

/-! ### regions that draw their order -/
abbrev PendL := List (Nat × (St → Option (AV × St)) × AV)

def fstSame (r : Option (AV × St)) (x : AV) : Bool := match r with | some (y, _) => same y x | none => false

def effT (bs : List Nat) (als : List (Nat × Nat × List AV)) (pend : PendL) (st' : St) : Bool :=
  (pend.all fun p => bs.contains p.1 || fstSame (p.2.1 st') p.2.2) && als.all fun a => bs.contains a.1 || (match st'.get a.2.1 with | some (.cells cs) => sames cs a.2.2 | _ => false)

def xdraw (P : Program) (call : Call) (bss : List (List Nat)) (als : List (Nat × Nat × List AV)) : Nat → List GOp → (Nat → AV) → St → List (Nat × St) → PendL → Option ((Nat → AV) × St)
  | _, [], fr, st, _, _ => some (fr, st)
  | i, g :: r, fr, st, hist, pend =>
    match g.op.kd with
    | .alloc => match als.find? (·.1 == i) with
      | some x => xdraw P call bss als (i + 1) r (updo fr g.dst (.ptr x.2.1 0)) st hist pend
      | none => none
    | .pure =>
      (match g.guard with
      | none => match xop P call g.op fr st with
        | some (x, _) => xdraw P call bss als (i + 1) r (updo fr g.dst x) st hist pend
        | none => none
      | some (d, want) => match fr d with
        | .v (.bool b) => match b == want with
          | true => match xop P call g.op fr st with
            | some (x, _) => xdraw P call bss als (i + 1) r (updo fr g.dst x) st hist pend
            | none => none
          | false => xdraw P call bss als (i + 1) r (updo fr g.dst (.tup [])) st hist pend
        | .tup [] => xdraw P call bss als (i + 1) r (updo fr g.dst (.tup [])) st hist pend
        | _ => none)
    | .read =>
      (match g.guard with
      | none => match xop P call g.op fr st with
        | some (x, _) => match hist.all fun h => (bss.getD i []).contains h.1 || fstSame (evOp P (·.ev fr) h.2 g.op) x with
          | true => xdraw P call bss als (i + 1) r (updo fr g.dst x) st hist ((i, fun s => evOp P (·.ev fr) s g.op, x) :: pend)
          | false => none
        | none => none
      | some (d, want) => match fr d with
        | .v (.bool b) => match b == want with
          | true => match xop P call g.op fr st with
            | some (x, _) => match hist.all fun h => (bss.getD i []).contains h.1 || fstSame (evOp P (·.ev fr) h.2 g.op) x with
              | true => xdraw P call bss als (i + 1) r (updo fr g.dst x) st hist ((i, fun s => evOp P (·.ev fr) s g.op, x) :: pend)
              | false => none
            | none => none
          | false => xdraw P call bss als (i + 1) r (updo fr g.dst (.tup [])) st hist pend
        | .tup [] => xdraw P call bss als (i + 1) r (updo fr g.dst (.tup [])) st hist pend
        | _ => none)
    | .eff =>
      (match g.guard with
      | none => match xop P call g.op fr st with
        | some (x, st') => match effT (bss.getD i []) als pend st' with
          | true => xdraw P call bss als (i + 1) r (updo fr g.dst x) st' ((i, st) :: hist) pend
          | false => none
        | none => none
      | some (d, want) => match fr d with
        | .v (.bool b) => match b == want with
          | true => match xop P call g.op fr st with
            | some (x, st') => match effT (bss.getD i []) als pend st' with
              | true => xdraw P call bss als (i + 1) r (updo fr g.dst x) st' ((i, st) :: hist) pend
              | false => none
            | none => none
          | false => match effT (bss.getD i []) als pend st with
            | true => xdraw P call bss als (i + 1) r (updo fr g.dst (.tup [])) st ((i, st) :: hist) pend
            | false => none
        | .tup [] => match effT (bss.getD i []) als pend st with
          | true => xdraw P call bss als (i + 1) r (updo fr g.dst (.tup [])) st ((i, st) :: hist) pend
          | false => none
        | _ => none)

theorem read_same {c : COp} {ρ : Opd → AV} {s s' : St} {x : AV} (hk : c.kd = .read) (h : evOp P ρ s c = some (x, s')) : s' = s := by
  cases c <;> try (simp [COp.kd] at hk; done)
  · simp only [evOp] at h; split at h
    · cases h; rfl
    · cases h
  · simp only [evOp] at h
    split at h
    · split at h
      · split at h
        · cases h; rfl
        · cases h
      · cases h; rfl
      · cases h
    · cases h
  · rename_i k x
    cases k
    · simp [COp.kd] at hk
    · simp [COp.kd] at hk
    · simp only [evOp] at h; split at h
      · cases h; rfl
      · cases h

def PendOK (pend : PendL) : Prop := ∀ p ∈ pend, ∀ s x s', p.2.1 s = some (x, s') → s' = s

theorem effT_sound {bs : List Nat} {als : List (Nat × Nat × List AV)} {pend : PendL} {st' : St} (hp : PendOK pend) (h : effT bs als pend st' = true) : effOK bs als pend st' := by
  unfold effT at h
  simp only [Bool.and_eq_true, List.all_eq_true, Bool.or_eq_true] at h
  refine ⟨fun p hm hb => ?_, fun a hm hb => ?_⟩
  · rcases h.1 p hm with h1 | h1
    · rw [hb] at h1; cases h1
    · unfold fstSame at h1
      split at h1
      · rename_i y s he
        rw [he, hp p hm _ _ _ he, same_eq _ _ h1]
      · cases h1
  · rcases h.2 a hm with h1 | h1
    · rw [hb] at h1; cases h1
    · split at h1
      · rename_i cs he; rw [he, sames_eq _ _ h1]
      · cases h1

theorem hist_sound {c : COp} {ρ : Opd → AV} {b : List Nat} {hist : List (Nat × St)} {x : AV} (hk : c.kd = .read) (h : (hist.all fun h => b.contains h.1 || fstSame (evOp P ρ h.2 c) x) = true) :
    ∀ h ∈ hist, b.contains h.1 = false → evOp P ρ h.2 c = some (x, h.2) := by
  simp only [List.all_eq_true, Bool.or_eq_true] at h
  intro p hm hb
  rcases h p hm with h1 | h1
  · rw [hb] at h1; cases h1
  · unfold fstSame at h1
    split at h1
    · rename_i y s he
      rw [he, read_same hk he, same_eq _ _ h1]
    · cases h1

theorem PendOK.cons {pend : PendL} (hp : PendOK pend) {c : COp} {fr : Nat → AV} (hk : c.kd = .read) (i : Nat) (x : AV) : PendOK ((i, fun s => evOp P (·.ev fr) s c, x) :: pend) := by
  intro p hm s y s' h
  rcases List.mem_cons.1 hm with rfl | hm
  · exact read_same hk h
  · exact hp p hm s y s' h

theorem xdraw_sound (hc : CallOK P call) {bss : List (List Nat)} {als : List (Nat × Nat × List AV)} : ∀ (l : List GOp) (i : Nat) (fr : Nat → AV) (st : St) (hist : List (Nat × St)) (pend : PendL) (fr' : Nat → AV) (st' : St), PendOK pend →
    xdraw P call bss als i l fr st hist pend = some (fr', st') → ∀ K : (Nat → AV) → St → Prop, K fr' st' → wdraw P bss als i l fr st hist pend K
  | [], i, fr, st, hist, pend, fr', st', hp, h, K, hK => by
    simp only [xdraw, Option.some.injEq, Prod.mk.injEq] at h
    obtain ⟨rfl, rfl⟩ := h; exact hK
  | ⟨dst, gd, op⟩ :: r, i, fr, st, hist, pend, fr', st', hp, h, K, hK => by
    have again := fun i fr st hist pend fr' st' hp h K hK => xdraw_sound hc (bss := bss) (als := als) r i fr st hist pend fr' st' hp h K hK
    simp only [xdraw] at h
    simp only [wdraw]
    cases hk : op.kd with
    | alloc =>
      simp only [hk] at h ⊢
      split at h
      · rename_i hf; simp only [hf]; exact again _ _ _ _ _ _ _ hp h K hK
      · cases h
    | pure =>
      simp only [hk] at h ⊢
      cases gd with
      | none =>
        simp only at h ⊢
        split at h
        · refine xop_sound hc ‹_› _ ?_; exact again _ _ _ _ _ _ _ hp h K hK
        · cases h
      | some gd =>
        obtain ⟨d, want⟩ := gd
        simp only at h ⊢
        split at h
        · rename_i b hfd
          simp only [hfd]
          split at h
          · rename_i hb
            rw [if_pos (eq_of_beq hb)]
            split at h
            · refine xop_sound hc ‹_› _ ?_; exact again _ _ _ _ _ _ _ hp h K hK
            · cases h
          · rename_i hb
            rw [if_neg (by simpa using hb)]
            exact again _ _ _ _ _ _ _ hp h K hK
        · rename_i hfd; simp only [hfd]; exact again _ _ _ _ _ _ _ hp h K hK
        · cases h
    | read =>
      simp only [hk] at h ⊢
      cases gd with
      | none =>
        simp only at h ⊢
        split at h
        · split at h
          · refine xop_sound hc ‹_› _ ?_; exact ⟨hist_sound hk ‹_›, again _ _ _ _ _ _ _ (hp.cons hk _ _) h K hK⟩
          · cases h
        · cases h
      | some gd =>
        obtain ⟨d, want⟩ := gd
        simp only at h ⊢
        split at h
        · rename_i b hfd
          simp only [hfd]
          split at h
          · rename_i hb
            rw [if_pos (eq_of_beq hb)]
            split at h
            · split at h
              · refine xop_sound hc ‹_› _ ?_; exact ⟨hist_sound hk ‹_›, again _ _ _ _ _ _ _ (hp.cons hk _ _) h K hK⟩
              · cases h
            · cases h
          · rename_i hb
            rw [if_neg (by simpa using hb)]
            exact again _ _ _ _ _ _ _ hp h K hK
        · rename_i hfd; simp only [hfd]; exact again _ _ _ _ _ _ _ hp h K hK
        · cases h
    | eff =>
      simp only [hk] at h ⊢
      cases gd with
      | none =>
        simp only at h ⊢
        split at h
        · split at h
          · refine xop_sound hc ‹_› _ ?_; exact ⟨effT_sound hp ‹_›, again _ _ _ _ _ _ _ hp h K hK⟩
          · cases h
        · cases h
      | some gd =>
        obtain ⟨d, want⟩ := gd
        simp only at h ⊢
        split at h
        · rename_i b hfd
          simp only [hfd]
          split at h
          · rename_i hb
            rw [if_pos (eq_of_beq hb)]
            split at h
            · split at h
              · refine xop_sound hc ‹_› _ ?_; exact ⟨effT_sound hp ‹_›, again _ _ _ _ _ _ _ hp h K hK⟩
              · cases h
            · cases h
          · rename_i hb
            rw [if_neg (by simpa using hb)]
            split at h
            · exact ⟨effT_sound hp ‹_›, again _ _ _ _ _ _ _ hp h K hK⟩
            · cases h
        · rename_i hfd
          simp only [hfd]
          split at h
          · exact ⟨effT_sound hp ‹_›, again _ _ _ _ _ _ _ hp h K hK⟩
          · cases h
        · cases h

/-! ### code -/
abbrev Out := Option (Jmp × (Nat → AV) × St)

def iter (body : (Nat → AV) → St → Out) : Nat → (Nat → AV) → St → Out
  | 0, _, _ => none
  | n + 1, fr, st => match body fr st with
    | some (.normal, fr', st') => iter body n fr' st'
    | some (x, fr', st') => some (x, fr', st')
    | none => none

def xc (P : Program) (call : Call) (N fuel : Nat) : CC → (Nat → AV) → St → Out
  | .skip, fr, st => some (.normal, fr, st)
  | .ops l, fr, st => match xops P call l fr st with
    | some (fr', st') => some (.normal, fr', st')
    | none => none
  | .draw l bs, fr, st => match xdraw P call bs (allocsOf st.next 0 l) 0 l fr (preSt st (allocsOf st.next 0 l)) [] [] with
    | some (fr', st') => some (.normal, fr', st')
    | none => none
  | .seq a b, fr, st => match xc P call N fuel a fr st with
    | some (.normal, fr', st') => xc P call N fuel b fr' st'
    | some (x, fr', st') => some (x, fr', st')
    | none => none
  | .cond c a b, fr, st => match c.ev fr with
    | .v (.bool true) => xc P call N fuel a fr st
    | .v (.bool false) => xc P call N fuel b fr st
    | _ => none
  | .block id c, fr, st => match xc P call N fuel c fr st with
    | some (.exit j, fr', st') => match Nat.beq j id with
      | true => some (.normal, fr', st')
      | false => some (.exit j, fr', st')
    | some (x, fr', st') => some (x, fr', st')
    | none => none
  | .loop c, fr, st => iter (xc P call N fuel c) fuel fr st
  | .rangef f ps asg body, fr, st => match f.ev fr with
    | .fn g first cap => match call (.fn g first cap) [.yld st.next] (st.alloc (.loop .ready none fr N ps asg body)) with
      | some (_, st2) => match st2.get st.next with
        | some (.loop s pend fr1 N1 ps1 a1 b1) => match s with
          | .busy => none
          | _ => some (pend.getD .normal, fr, st2.set st.next (.loop .exhausted pend fr1 N1 ps1 a1 b1))
        | _ => none
      | none => none
    | _ => none
  | .exit id, fr, st => some (.exit id, fr, st)
  | .ret, fr, st => some (.ret, fr, st)

theorem iter_sound {N : Nat} {c : CC} {body : (Nat → AV) → St → Out} (hb : ∀ fr st x fr' st', body fr st = some (x, fr', st') → ∀ Q : Jmp → (Nat → AV) → St → Prop, Q x fr' st' → wc P N c fr st Q) (Q : Jmp → (Nat → AV) → St → Prop) (R : (Nat → AV) → St → Prop)
    (hR : ∀ fr st, (wc P N c fr st fun x fr' st' => if x = .normal then R fr' st' else Q x fr' st') → R fr st) : ∀ (n : Nat) (fr : Nat → AV) (st : St) (x : Jmp) (fr' : Nat → AV) (st' : St), iter body n fr st = some (x, fr', st') → Q x fr' st' → R fr st
  | 0, fr, st, x, fr', st', h, hQ => by simp [iter] at h
  | n + 1, fr, st, x, fr', st', h, hQ => by
    simp only [iter] at h
    split at h
    · rename_i f1 s1 he
      refine hR _ _ (hb _ _ _ _ _ he _ ?_)
      rw [if_pos rfl]
      exact iter_sound hb Q R hR n _ _ _ _ _ h hQ
    · rename_i y f1 s1 hne he
      cases h
      refine hR _ _ (hb _ _ _ _ _ he _ ?_)
      rw [if_neg (fun e => hne e)]
      exact hQ
    · cases h

theorem xc_sound (hc : CallOK P call) {N fuel : Nat} : ∀ (c : CC) (fr : Nat → AV) (st : St) (x : Jmp) (fr' : Nat → AV) (st' : St), xc P call N fuel c fr st = some (x, fr', st') → ∀ Q : Jmp → (Nat → AV) → St → Prop, Q x fr' st' → wc P N c fr st Q
  | .skip, fr, st, x, fr', st', h, Q, hQ => by simp only [xc] at h; cases h; exact hQ
  | .ops l, fr, st, x, fr', st', h, Q, hQ => by
    simp only [xc] at h
    split at h
    · cases h; exact xops_sound hc l _ _ _ _ ‹_› _ hQ
    · cases h
  | .draw l bs, fr, st, x, fr', st', h, Q, hQ => by
    simp only [xc] at h
    split at h
    · cases h; exact xdraw_sound hc l _ _ _ _ _ _ _ (fun p hp => by cases hp) ‹_› _ hQ
    · cases h
  | .seq a b, fr, st, x, fr', st', h, Q, hQ => by
    simp only [xc] at h
    split at h
    · rename_i f1 s1 he
      refine xc_sound hc a _ _ _ _ _ he _ ?_
      rw [if_pos rfl]
      exact xc_sound hc b _ _ _ _ _ h Q hQ
    · rename_i y f1 s1 hne he
      cases h
      refine xc_sound hc a _ _ _ _ _ he _ ?_
      rw [if_neg (fun e => hne e)]
      exact hQ
    · cases h
  | .cond c a b, fr, st, x, fr', st', h, Q, hQ => by
    simp only [xc] at h
    simp only [wc]
    split at h
    · rename_i he; simp only [he]; exact xc_sound hc a _ _ _ _ _ h Q hQ
    · rename_i he; simp only [he]; exact xc_sound hc b _ _ _ _ _ h Q hQ
    · cases h
  | .block id c, fr, st, x, fr', st', h, Q, hQ => by
    simp only [xc] at h
    simp only [wc]
    split at h
    · rename_i j f1 s1 he
      split at h
      · rename_i hj
        cases h
        refine xc_sound hc c _ _ _ _ _ he _ ?_
        rw [if_pos (by rw [Nat.eq_of_beq_eq_true hj])]; exact hQ
      · rename_i hj
        cases h
        refine xc_sound hc c _ _ _ _ _ he _ ?_
        rw [if_neg (fun e => by cases e; rw [Nat.beq_refl] at hj; cases hj)]; exact hQ
    · rename_i y f1 s1 hne he
      cases h
      refine xc_sound hc c _ _ _ _ _ he _ ?_
      rw [if_neg (fun e => hne _ e)]; exact hQ
    · cases h
  | .loop c, fr, st, x, fr', st', h, Q, hQ => by
    simp only [xc] at h
    intro R hR
    exact iter_sound (fun fr st x fr' st' he Q hQ => xc_sound hc c fr st x fr' st' he Q hQ) Q R hR fuel _ _ _ _ _ h hQ
  | .rangef f ps asg body, fr, st, x, fr', st', h, Q, hQ => by
    simp only [xc] at h
    simp only [wc]
    split at h
    · rename_i g first cap hf
      simp only [hf]
      split at h
      · rename_i r2 st2 he
        split at h
        · rename_i s pend fr1 N1 ps1 a1 b1 hg
          have hh : s ≠ .busy ∧ some (pend.getD .normal, fr, st2.set st.next (.loop .exhausted pend fr1 N1 ps1 a1 b1)) = some (x, fr', st') := by
            split at h
            · cases h
            · rename_i hs; exact ⟨hs, h⟩
          obtain ⟨hs, h⟩ := hh
          cases h
          exact hc _ _ _ _ _ he (fun _ st2 => ∃ s pend fr1 N1 ps1 a1 b1, st2.get st.next = some (.loop s pend fr1 N1 ps1 a1 b1) ∧ s ≠ .busy ∧ Q (pend.getD .normal) fr (st2.set st.next (.loop .exhausted pend fr1 N1 ps1 a1 b1))) ⟨s, pend, fr1, N1, ps1, a1, b1, hg, hs, hQ⟩
        · cases h
      · cases h
    · cases h
  | .exit id, fr, st, x, fr', st', h, Q, hQ => by simp only [xc] at h; cases h; exact hQ
  | .ret, fr, st, x, fr', st', h, Q, hQ => by simp only [xc] at h; cases h; exact hQ
end
end Go.EF
