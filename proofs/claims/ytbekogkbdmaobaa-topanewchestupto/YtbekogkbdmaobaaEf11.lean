/- The meaning of resolved code as a weakest precondition that names its result before the world; what calls, closures and rounds promise. No conditions. -/
import Derived.Test.YtbekogkbdmaobaaEf10
import Derived.RangeFuncNested
namespace Go.EF
open Go Go.RowKit

def Jmp.toExit : Jmp → Exit
  | .normal => .normal
  | .ret => .ret
  | .exit id => .exit id

def wideAt (ro : Option Nat) : Fence := { Fence.wide with round := ro }

/-- The marks of range-over-function loops among an activation's deferred calls: each block still open, none of them the caller's. -/
def DfrOK (G : Gh) (D : List Nat) (ds : List Deferred) : Prop :=
  ∃ rs : List Nat, rs.Nodup ∧ (∀ r ∈ rs, r ∈ G.dfr ∧ r ∉ D) ∧ ds = rs.map fun r => { target := .collected r, args := #[] }

/-- Called with these, function f hands back r and leaves st', whatever the world. -/
def CallSound (P : Program) (f : Nat) (args : List AV) (st : St) (r : AV) (st' : St) : Prop :=
  (∀ vargs w, (callFunc f vargs).run P w = .ok (.enter f vargs) w) ∧
  ∀ (G : Gh) (w : World) (vargs : Array Value) (n : Nat), Rel P G st w → VRels G args vargs.toList →
    CallsIn Fence.wide n P f vargs w fun e w' => ∃ v G', e = .returned v ∧ G.le G' ∧ G'.dfr = G.dfr ∧ Rel P G' st' w' ∧ VRel G' r v

def WF (P : Program) (f : Nat) (args : List AV) (st : St) (K : AV → St → Prop) : Prop := ∃ r st', K r st' ∧ CallSound P f args st r st'

def YieldSound (P : Program) (l : Nat) (args : List AV) (st : St) (r : AV) (st' : St) : Prop :=
  ∀ (G : Gh) (w : World) (vargs : Array Value) (n b : Nat), Rel P G st w → VRels G args vargs.toList → G.mu l = some b →
    ∃ f tmps asg body, (Instr.yield b vargs).run P w = .ok (.round b f tmps asg body) w ∧
      RoundIn Fence.wide n P b f tmps asg body w fun e w' => ∃ v G', e = .returned v ∧ G.le G' ∧ G'.dfr = G.dfr ∧ Rel P G' st' w' ∧ VRel G' r v

def WY (P : Program) (l : Nat) (args : List AV) (st : St) (K : AV → St → Prop) : Prop := ∃ r st', K r st' ∧ YieldSound P l args st r st'

/-- A function value is called. -/
def WV (P : Program) (x : AV) (args : List AV) (st : St) (K : AV → St → Prop) : Prop :=
  match x with
  | .fn f first cap => WF P f (first ++ args ++ cap) st K
  | .yld l => WY P l args st K
  | _ => False

def wop (P : Program) (c : COp) (fr : Nat → AV) (st : St) (K : AV → St → Prop) : Prop :=
  match c with
  | .call f args => WF P f (args.map (·.ev fr)) st K
  | .callv f args => WV P (f.ev fr) (args.map (·.ev fr)) st K
  | c => match evOp P (·.ev fr) st c with
    | some (x, st') => K x st'
    | none => False

def wops (P : Program) : List GOp → (Nat → AV) → St → ((Nat → AV) → St → Prop) → Prop
  | [], fr, st, K => K fr st
  | g :: r, fr, st, K =>
    match g.guard with
    | none => wop P g.op fr st fun x st' => wops P r (updo fr g.dst x) st' K
    | some (d, want) => match fr d with
      | .v (.bool b) => if b = want then wop P g.op fr st fun x st' => wops P r (updo fr g.dst x) st' K else wops P r (updo fr g.dst (.tup [])) st K
      | .tup [] => wops P r (updo fr g.dst (.tup [])) st K
      | _ => False

/-- A frame of which only some slots are known. -/
def mask (rs : List Nat) (fr : Nat → AV) : Nat → AV := fun i => if rs.contains i then fr i else .junk

/-! ### an operation looks at its slots alone -/
theorem mask_ev {fr : Nat → AV} {s : List Nat} {o : Opd} (h : ∀ x ∈ o.slots, x ∈ s) : o.ev (mask s fr) = o.ev fr := by
  cases o with
  | const x => rfl
  | tmp t =>
    have : t ∈ s := h t (by simp [Opd.slots])
    simp [Opd.ev, mask, this]

theorem fillA_congr {ρ ρ' : Opd → AV} : ∀ (ps : List (Nat × Nat × Opd)) (cs : List AV), (∀ p ∈ ps, ρ p.2.2 = ρ' p.2.2) → fillA ρ cs ps = fillA ρ' cs ps
  | [], cs, h => rfl
  | (off, sz, o) :: r, cs, h => by
    have h1 := h _ (List.mem_cons_self ..)
    simp only at h1
    simp only [fillA, h1]
    rw [fillA_congr r _ fun p hp => h p (List.mem_cons_of_mem _ hp)]

theorem boundsOf_congr {ρ ρ' : Opd → AV} {n cap : Nat} {lo hi mx : Option Opd} (h1 : ∀ o, lo = some o → ρ o = ρ' o) (h2 : ∀ o, hi = some o → ρ o = ρ' o) (h3 : ∀ o, mx = some o → ρ o = ρ' o) : boundsOf ρ n cap lo hi mx = boundsOf ρ' n cap lo hi mx := by
  cases lo with
  | none => cases hi with
    | none => cases mx with
      | none => rfl
      | some o => have := h3 o rfl; (unfold boundsOf; simp only [this])
    | some o2 => have e2 := h2 o2 rfl; cases mx with
      | none => (unfold boundsOf; simp only [e2])
      | some o => have := h3 o rfl; (unfold boundsOf; simp only [this, e2])
  | some o1 => have e1 := h1 o1 rfl; cases hi with
    | none => cases mx with
      | none => (unfold boundsOf; simp only [e1])
      | some o => have := h3 o rfl; (unfold boundsOf; simp only [this, e1])
    | some o2 => have e2 := h2 o2 rfl; cases mx with
      | none => (unfold boundsOf; simp only [e2, e1])
      | some o => have := h3 o rfl; (unfold boundsOf; simp only [this, e2, e1])

theorem wop_mask {P : Program} {c : COp} {fr : Nat → AV} {st : St} : (evOp P (·.ev (mask c.slots fr)) st c = evOp P (·.ev fr) st c) ∧ ∀ K, wop P c (mask c.slots fr) st K = wop P c fr st K := by
  have one : ∀ {o : Opd}, (∀ x ∈ o.slots, x ∈ c.slots) → o.ev (mask c.slots fr) = o.ev fr := fun h => mask_ev h
  have many : ∀ {l : List Opd}, (∀ x ∈ l.flatMap Opd.slots, x ∈ c.slots) → l.map (·.ev (mask c.slots fr)) = l.map (·.ev fr) := fun {l} h =>
    List.map_congr_left fun o ho => mask_ev fun x hx => h x (List.mem_flatMap.2 ⟨o, ho, hx⟩)
  have fil : ∀ {ps : List (Nat × Nat × Opd)} (cs : List AV), (∀ x ∈ ps.flatMap (fun p => p.2.2.slots), x ∈ c.slots) → fillA (·.ev (mask c.slots fr)) cs ps = fillA (·.ev fr) cs ps := fun {ps} cs h =>
    fillA_congr ps cs fun p hp => mask_ev fun x hx => h x (List.mem_flatMap.2 ⟨p, hp, hx⟩)
  have opt : ∀ {o : Option Opd}, (∀ x ∈ oslots o, x ∈ c.slots) → ∀ p, o = some p → p.ev (mask c.slots fr) = p.ev fr := fun {o} h p e => mask_ev fun x hx => h x (by subst e; exact hx)
  have ev : evOp P (·.ev (mask c.slots fr)) st c = evOp P (·.ev fr) st c := by
    generalize hs : c.slots = s at one many fil opt ⊢
    cases c with
    | mov x | srange x | snext x | box x | nilchk x | un op x | conv k x | faddr o x | field g o s x | extract x i | load g s a =>
      simp only [COp.slots] at hs; subst hs
      simp only [evOp, one (o := _) (fun _ h => h)]
    | len k x =>
      simp only [COp.slots] at hs; subst hs
      cases k <;> simp only [evOp, one (o := x) (fun _ h => h)]
    | pick c a b | mapset kt a b c | entrystore a b c =>
      simp only [COp.slots] at hs; subst hs
      simp only [evOp]
      rw [one (fun x h => by simp [h]), one (fun x h => by simp [h]), one (fun x h => by simp [h])]
    | alloc | mkmap => rfl
    | build z ps | lit z n ps =>
      simp only [COp.slots] at hs; subst hs
      simp only [evOp]; rw [fil z (fun _ h => h)]
    | store s a x | bin op t a x | iaddr s a x | iaddrarr n s a x | index g n s a x | indexstr a x | lookup kt z ok a x | mapentry kt z a x | append s b z a x | copy s a x | mkslice z s b a x =>
      simp only [COp.slots] at hs; subst hs
      simp only [evOp]
      rw [one (o := a) (fun y h => by simp [h]), one (o := x) (fun y h => by simp [h])]
    | mkfn f a b =>
      simp only [COp.slots] at hs; subst hs
      simp only [evOp]
      rw [many (l := a) (fun y h => by simp only [List.mem_append]; exact .inl h), many (l := b) (fun y h => by simp only [List.mem_append]; exact .inr h)]
    | slicearr n s x lo hi | slicestr x lo hi =>
      simp only [COp.slots] at hs; subst hs
      simp only [evOp]
      rw [one (o := x) (fun y h => by simp [h])]
      simp only [boundsOf_congr (ρ := fun o => o.ev (mask _ fr)) (ρ' := fun o => o.ev fr) (lo := lo) (hi := hi) (mx := none) (opt (fun y h => by simp [h])) (opt (fun y h => by simp [h])) (by simp)]
    | slice s x lo hi mx =>
      simp only [COp.slots] at hs; subst hs
      simp only [evOp]
      rw [one (o := x) (fun y h => by simp [h])]
      simp only [boundsOf_congr (ρ := fun o => o.ev (mask _ fr)) (ρ' := fun o => o.ev fr) (lo := lo) (hi := hi) (mx := mx) (opt (fun y h => by simp [h])) (opt (fun y h => by simp [h])) (opt (fun y h => by simp [h]))]
    | mnmx m xs =>
      simp only [COp.slots] at hs; subst hs
      simp only [evOp]; rw [many (fun _ h => h)]
    | call f xs => rfl
    | callv f xs => rfl
  refine ⟨ev, fun K => ?_⟩
  cases c with
  | call f xs => simp only [wop]; rw [many (l := xs) (fun _ h => h)]
  | callv f xs => simp only [wop]; rw [one (o := f) (fun y h => by simp [COp.slots, h]), many (l := xs) (fun y h => by simp only [COp.slots, List.mem_append]; exact .inr h)]
  | _ => simp only [wop, ev]

/-- The allocations of a region: their places in it, the objects that stand for them, their zeros. -/
def allocsOf : Nat → Nat → List GOp → List (Nat × Nat × List AV)
  | _, _, [] => []
  | base, i, g :: r => match g.op with
    | .alloc z => (i, base, z) :: allocsOf (base + 1) (i + 1) r
    | _ => allocsOf base (i + 1) r

def preSt (st : St) : List (Nat × Nat × List AV) → St
  | [] => st
  | x :: r => preSt (st.alloc (.cells x.2.2)) r

def effOK (bs : List Nat) (als : List (Nat × Nat × List AV)) (pend : List (Nat × (St → Option (AV × St)) × AV)) (st' : St) : Prop :=
  (∀ p ∈ pend, bs.contains p.1 = false → p.2.1 st' = some (p.2.2, st')) ∧ ∀ a ∈ als, bs.contains a.1 = false → st'.get a.2.1 = some (.cells a.2.2)

/-- A region whose operations may come in another order: written as they stand, the allocations first; what is read must be so before and after each effect that may come on its other side. -/
def wdraw (P : Program) (bss : List (List Nat)) (als : List (Nat × Nat × List AV)) : Nat → List GOp → (Nat → AV) → St → List (Nat × St) → List (Nat × (St → Option (AV × St)) × AV) → ((Nat → AV) → St → Prop) → Prop
  | _, [], fr, st, _, _, K => K fr st
  | i, g :: r, fr, st, hist, pend, K =>
    match g.op.kd with
    | .alloc => match als.find? (·.1 == i) with
      | some x => wdraw P bss als (i + 1) r (updo fr g.dst (.ptr x.2.1 0)) st hist pend K
      | none => False
    | .pure =>
      (match g.guard with
      | none => wop P g.op fr st fun x _ => wdraw P bss als (i + 1) r (updo fr g.dst x) st hist pend K
      | some (d, want) => match fr d with
        | .v (.bool b) => if b = want then wop P g.op fr st fun x _ => wdraw P bss als (i + 1) r (updo fr g.dst x) st hist pend K
          else wdraw P bss als (i + 1) r (updo fr g.dst (.tup [])) st hist pend K
        | .tup [] => wdraw P bss als (i + 1) r (updo fr g.dst (.tup [])) st hist pend K
        | _ => False)
    | .read =>
      (match g.guard with
      | none => wop P g.op fr st fun x _ => (∀ h ∈ hist, (bss.getD i []).contains h.1 = false → evOp P (·.ev fr) h.2 g.op = some (x, h.2)) ∧
          wdraw P bss als (i + 1) r (updo fr g.dst x) st hist ((i, fun s => evOp P (·.ev fr) s g.op, x) :: pend) K
      | some (d, want) => match fr d with
        | .v (.bool b) => if b = want then wop P g.op fr st fun x _ => (∀ h ∈ hist, (bss.getD i []).contains h.1 = false → evOp P (·.ev fr) h.2 g.op = some (x, h.2)) ∧
            wdraw P bss als (i + 1) r (updo fr g.dst x) st hist ((i, fun s => evOp P (·.ev fr) s g.op, x) :: pend) K
          else wdraw P bss als (i + 1) r (updo fr g.dst (.tup [])) st hist pend K
        | .tup [] => wdraw P bss als (i + 1) r (updo fr g.dst (.tup [])) st hist pend K
        | _ => False)
    | .eff =>
      (match g.guard with
      | none => wop P g.op fr st fun x st' => effOK (bss.getD i []) als pend st' ∧ wdraw P bss als (i + 1) r (updo fr g.dst x) st' ((i, st) :: hist) pend K
      | some (d, want) => match fr d with
        | .v (.bool b) => if b = want then wop P g.op fr st fun x st' => effOK (bss.getD i []) als pend st' ∧ wdraw P bss als (i + 1) r (updo fr g.dst x) st' ((i, st) :: hist) pend K
          else effOK (bss.getD i []) als pend st ∧ wdraw P bss als (i + 1) r (updo fr g.dst (.tup [])) st ((i, st) :: hist) pend K
        | .tup [] => effOK (bss.getD i []) als pend st ∧ wdraw P bss als (i + 1) r (updo fr g.dst (.tup [])) st ((i, st) :: hist) pend K
        | _ => False)

def wc (P : Program) (N : Nat) : CC → (Nat → AV) → St → (Jmp → (Nat → AV) → St → Prop) → Prop
  | .skip, fr, st, Q => Q .normal fr st
  | .ops l, fr, st, Q => wops P l fr st (Q .normal)
  | .draw l bs, fr, st, Q => wdraw P bs (allocsOf st.next 0 l) 0 l fr (preSt st (allocsOf st.next 0 l)) [] [] (Q .normal)
  | .seq a b, fr, st, Q => wc P N a fr st fun x fr' st' => if x = .normal then wc P N b fr' st' Q else Q x fr' st'
  | .cond c a b, fr, st, Q => match c.ev fr with
    | .v (.bool true) => wc P N a fr st Q
    | .v (.bool false) => wc P N b fr st Q
    | _ => False
  | .block id c, fr, st, Q => wc P N c fr st fun x fr' st' => if x = .exit id then Q .normal fr' st' else Q x fr' st'
  | .loop c, fr, st, Q => ∀ R : (Nat → AV) → St → Prop, (∀ fr st, (wc P N c fr st fun x fr' st' => if x = .normal then R fr' st' else Q x fr' st') → R fr st) → R fr st
  | .rangef f ps asg body, fr, st, Q => match f.ev fr with
    | .fn g first cap =>
      WF P g (first ++ [.yld st.next] ++ cap) (st.alloc (.loop .ready none fr N ps asg body)) fun _ st2 => ∃ s pend fr1 N1 ps1 a1 b1, st2.get st.next = some (.loop s pend fr1 N1 ps1 a1 b1) ∧ s ≠ .busy ∧
        Q (pend.getD .normal) fr (st2.set st.next (.loop .exhausted pend fr1 N1 ps1 a1 b1))
    | _ => False
  | .exit id, fr, st, Q => Q (.exit id) fr st
  | .ret, fr, st, Q => Q .ret fr st

/-! ### soundness -/
def Post (P : Program) (N : Nat) (G : Gh) (D : List Nat) (x : Jmp) (fr : Nat → AV) (st : St) : Exit → Act → World → Prop :=
  fun e a w => e = x.toExit ∧ ∃ G', G.le G' ∧ Rel P G' st w ∧ FrRel G' N fr a.tmps ∧ DfrOK G' D a.defers

def Ready (P : Program) (N : Nat) (ro : Option Nat) (G : Gh) (D : List Nat) (fr : Nat → AV) (st : St) (a : Act) (w : World) : Prop :=
  (∀ b, ro = some b → b ∈ G.lps) ∧ Rel P G st w ∧ FrRel G N fr a.tmps ∧ (∀ r ∈ D, r ∈ G.dfr) ∧ DfrOK G D a.defers

def WCs (P : Program) (N : Nat) (c : Code) (fr : Nat → AV) (st : St) (Q : Jmp → (Nat → AV) → St → Prop) : Prop :=
  ∃ x fr' st', Q x fr' st' ∧ ∀ ro G D a w n, Ready P N ro G D fr st a w → c.wpIn (wideAt ro) n P (Post P N G D x fr' st') a w

theorem FrRel.mono {G G' : Gh} {N : Nat} {fr : Nat → AV} {t : Array Value} (h : FrRel G N fr t) (k : G.le G') : FrRel G' N fr t := ⟨h.1, fun i => (h.2 i).mono k⟩

theorem DfrOK.mono {G G' : Gh} {D : List Nat} {ds : List Deferred} (h : DfrOK G D ds) (k : G.le G') : DfrOK G' D ds :=
  let ⟨rs, h1, h2, h3⟩ := h; ⟨rs, h1, fun r hr => ⟨k.dfr _ (h2 r hr).1, (h2 r hr).2⟩, h3⟩

theorem Ready.next {P : Program} {N : Nat} {ro : Option Nat} {G G' : Gh} {D : List Nat} {fr fr' : Nat → AV} {st st' : St} {a a' : Act} {w w' : World} (h : Ready P N ro G D fr st a w) (k : G.le G') (hR : Rel P G' st' w') (hF : FrRel G' N fr' a'.tmps) (hD : DfrOK G' D a'.defers) :
    Ready P N ro G' D fr' st' a' w' := ⟨fun b e => k.lps _ (h.1 b e), hR, hF, fun r hr => k.dfr _ (h.2.2.2.1 r hr), hD⟩

theorem FrRel.put {G : Gh} {N : Nat} {fr : Nat → AV} {a : Act} {d : Option Nat} {x : AV} {y : Value} (h : FrRel G N fr a.tmps) (hd : dstOK N d = true) (hv : VRel G x y) : FrRel G N (updo fr d x) (a.put d y).tmps := by
  cases d with
  | none => exact h
  | some d =>
    have hd' : d < N := by simpa [dstOK] using hd
    refine ⟨by simp [Act.put, h.1], fun i => ?_⟩
    simp only [updo, upd, Act.put]
    by_cases hi : i = d
    · subst hi
      have h1 : i < a.tmps.size := by rw [h.1]; exact hd'
      rw [if_pos rfl]; simp [Array.getD, h1, hv]
    · rw [if_neg hi]
      have h2 : (a.tmps.setIfInBounds d y).getD i undef = a.tmps.getD i undef := by
        simp only [Array.getD_eq_getD_getElem?]
        rw [Array.getElem?_setIfInBounds_ne (Ne.symm hi)]
      rw [h2]; exact h.2 i

theorem put_defers (a : Act) (d : Option Nat) (y : Value) : (a.put d y).defers = a.defers := by cases d <;> rfl

theorem callsIn_at {ro : Option Nat} {n : Nat} {P : Program} {f : FuncId} {args : Array Value} {w : World} {R : Ending → World → Prop} : CallsIn (wideAt ro) n P f args w R ↔ CallsIn Fence.wide n P f args w R := Iff.rfl
theorem roundIn_at {ro : Option Nat} {n : Nat} {P : Program} {l : Nat} {f : FuncId} {t : Array Value} {x y : Code} {w : World} {R : Ending → World → Prop} : RoundIn (wideAt ro) n P l f t x y w R ↔ RoundIn Fence.wide n P l f t x y w R := Iff.rfl

/-- An operation that runs, whatever comes before and after. -/
def OpSound (P : Program) (N : Nat) (o : Oper) (fr : Nat → AV) (st : St) (x : AV) (st' : St) : Prop :=
  ∀ (ro : Option Nat) (G : Gh) (a : Act) (w : World) (n : Nat) (next : Act → World → Prop) (Q : Exit → Act → World → Prop), Rel P G st w → FrRel G N fr a.tmps →
    (∀ y w' G', G.le G' → Rel P G' st' w' → VRel G' x y → next (a.put o.dst y) w') → o.wpIn (wideAt ro) n P a w next Q

/-- One operation that runs. -/
theorem wop_sound1 {P : Program} {N : Nat} {ops : Array Oper} {o : Oper} {g : GOp} {fr : Nat → AV} {st : St} {K : AV → St → Prop} (hc : compOper P N ops o = some g) (h : wop P g.op fr st K) :
    ∃ x st', K x st' ∧ OpSound P N o fr st x st' := by
  -- what compOper has found
  obtain ⟨hd, hco, hdst⟩ : dstOK N o.dst = true ∧ compOp P o = some g.op ∧ g.dst = o.dst := by
    unfold compOper at hc
    split at hc
    · rename_i hd
      split at hc
      · rename_i c hco
        refine ⟨hd, ?_⟩
        split at hc
        · cases hc; exact ⟨hco, rfl⟩
        · split at hc
          · cases hc; exact ⟨hco, rfl⟩
          · cases hc
      · cases hc
    · cases hc
  have hnd : ∀ c, o.op ≠ .defer c := fun c e => by
    obtain ⟨dst, op, type, pos, after, guard⟩ := o
    simp only at e; subst e
    simp [compOp] at hco
  have hab : ∀ (ro : Option Nat) (a : Act) (w : World) (f : FuncId), o.about P w a.eval = some f → (wideAt ro).fn f := fun _ _ _ _ _ => trivial
  by_cases hcall : (∃ f args, g.op = .call f args) ∨ ∃ f args, g.op = .callv f args
  · -- a call
    have main : ∀ (y : AV) (args : List AV) (fv : Operand) (as : Array Operand) (ats : Array TypeId), o.op = .call ⟨.value fv, as, ats⟩ → WV P y args st K →
        (∀ (G : Gh) (a : Act), FrRel G N fr a.tmps → VRel G y (a.eval fv)) → (∀ (G : Gh) (a : Act), FrRel G N fr a.tmps → VRels G args (as.map a.eval).toList) →
        ∃ x st', K x st' ∧ OpSound P N o fr st x st' := by
      intro y args fv as ats hop hw hy has
      have hexec : ∀ (a : Act) (w : World), (execOp a.eval o).run P w = ((Deferred.ofValue (a.eval fv) (as.map a.eval)).run P w).andThen fun d w => (invoke d.target d.args).run P w := fun a w => by
        simp only [execOp, hop, resolve, Sem.run_bind]
      cases y with
      | fn f first cap =>
        obtain ⟨r, st', hK, hcf, hs⟩ := hw
        refine ⟨r, st', hK, fun ro G a w n next Q hR hF hnext => ?_⟩
        refine ⟨hab ro a w, ?_⟩
        rw [Oper.semAt_eq _ _ _ hnd, hexec]
        have ry := hy G a hF
        have ra := has G a hF
        simp only [VRel] at ry; obtain ⟨fa, ca, e1, r1, r2⟩ := ry
        simp only [e1, Deferred.ofValue, Sem.run_pure, Result.andThen_ok, invoke, hcf]
        refine ⟨fun hdep => by simp [wideAt, Fence.wide] at hdep, ?_⟩
        rw [callsIn_at]
        refine (hs G w (fa ++ as.map a.eval ++ ca) (n - 1) hR (by simpa using ((r1.append ra).append r2))).mono ?_
        rintro e w' ⟨v, G', rfl, k1, k2, k3, k4⟩
        exact hnext _ _ G' k1 k3 k4
      | yld l =>
        obtain ⟨r, st', hK, hs⟩ := hw
        refine ⟨r, st', hK, fun ro G a w n next Q hR hF hnext => ?_⟩
        refine ⟨hab ro a w, ?_⟩
        rw [Oper.semAt_eq _ _ _ hnd, hexec]
        have ry := hy G a hF
        have ra := has G a hF
        simp only [VRel] at ry; obtain ⟨b, hmu, e1⟩ := ry
        obtain ⟨f, tmps, asg, body, hy1, hy2⟩ := hs G w (as.map a.eval) (n - 1) b hR ra hmu
        simp only [e1, Deferred.ofValue, Sem.run_pure, Result.andThen_ok, invoke, Array.empty_append, hy1]
        refine ⟨fun hdep => by simp [wideAt, Fence.wide] at hdep, ?_⟩
        rw [roundIn_at]
        refine hy2.mono ?_
        rintro e w' ⟨v, G', rfl, k1, k2, k3, k4⟩
        exact hnext _ _ G' k1 k3 k4
      | _ => exact hw.elim
    -- which call it is
    obtain ⟨dst, op, type, pos, after, guard⟩ := o
    rcases hcall with ⟨f, args, hg⟩ | ⟨f, args, hg⟩
    · rw [hg] at hco h
      simp only [wop] at h
      cases op with
      | call cl =>
        obtain ⟨callee, as, ats⟩ := cl
        cases callee with
        | value fv =>
          cases fv with
          | func f' =>
            simp only [compOp, Option.map_eq_some_iff] at hco; obtain ⟨args', h1, h2⟩ := hco; cases h2
            refine main (.fn f [] []) (args.map (·.ev fr)) (.func f) as ats rfl ?_ ?_ ?_
            · simpa [WV] using h
            · intro G a _; simp [VRel, VRels, Act.eval]
            · intro G a hF; exact opds_rel hF h1
          | _ =>
            simp only [compOp] at hco
            split at hco
            · cases hco
            · cases hco
        | builtin b => exact absurd hco (by cases b <;> simp only [compOp] <;> (repeat' split) <;> simp)
        | invoke => simp [compOp] at hco
      | makeFunc fn _ _ => exact absurd hco (by cases fn <;> simp only [compOp] <;> (repeat' split) <;> simp)
      | makeMap _ r => exact absurd hco (by cases r <;> simp only [compOp] <;> (repeat' split) <;> simp)
      | next y isS => exact absurd hco (by cases isS <;> simp [compOp])
      | _ => exact absurd hco (by simp only [compOp] <;> (repeat' split) <;> simp)
    · rw [hg] at hco h
      simp only [wop] at h
      cases op with
      | call cl =>
        obtain ⟨callee, as, ats⟩ := cl
        cases callee with
        | value fv =>
          cases fv with
          | func f' => simp only [compOp, Option.map_eq_some_iff] at hco; obtain ⟨args', h1, h2⟩ := hco; cases h2
          | _ =>
            simp only [compOp] at hco
            split at hco
            · rename_i y' as' h1 h2; cases hco
              exact main _ _ _ as ats rfl h (fun G a hF => opd_rel h1 hF) (fun G a hF => opds_rel hF h2)
            · cases hco
        | builtin b => exact absurd hco (by cases b <;> simp only [compOp] <;> (repeat' split) <;> simp)
        | invoke => simp [compOp] at hco
      | makeFunc fn _ _ => exact absurd hco (by cases fn <;> simp only [compOp] <;> (repeat' split) <;> simp)
      | makeMap _ r => exact absurd hco (by cases r <;> simp only [compOp] <;> (repeat' split) <;> simp)
      | next y isS => exact absurd hco (by cases isS <;> simp [compOp])
      | _ => exact absurd hco (by simp only [compOp] <;> (repeat' split) <;> simp)
  · -- no call
    have h' : ∃ x st', evOp P (·.ev fr) st g.op = some (x, st') ∧ K x st' := by
      unfold wop at h
      split at h
      · exact absurd (.inl ⟨_, _, ‹_›⟩) hcall
      · exact absurd (.inr ⟨_, _, ‹_›⟩) hcall
      · split at h
        · exact ⟨_, _, ‹_›, h⟩
        · exact h.elim
    obtain ⟨x, st', he, hK⟩ := h'
    refine ⟨x, st', hK, fun ro G a w n next Q hR hF hnext => ?_⟩
    refine ⟨hab ro a w, ?_⟩
    rw [Oper.semAt_eq _ _ _ hnd]
    obtain ⟨nx, y, w', G', h1, h2, h3, h4, h5⟩ := op_sound hco hF hR he
    rw [h1]
    have hfin : next (a.put o.dst y) w' := hnext _ _ G' h3 h4 h5
    rcases h2 with rfl | ⟨rfl, rfl⟩
    · exact hfin
    · exact hfin

theorem compOper_dst {P : Program} {N : Nat} {ops : Array Oper} {o : Oper} {g : GOp} (hc : compOper P N ops o = some g) : g.dst = o.dst ∧ dstOK N o.dst = true := by
  unfold compOper at hc
  split at hc
  · rename_i hd
    split at hc
    · split at hc
      · cases hc; exact ⟨rfl, hd⟩
      · split at hc
        · cases hc; exact ⟨rfl, hd⟩
        · cases hc
    · cases hc
  · cases hc

theorem compOper_op {P : Program} {N : Nat} {ops : Array Oper} {o : Oper} {g : GOp} (hc : compOper P N ops o = some g) : compOp P o = some g.op := by
  unfold compOper at hc
  split at hc
  · split at hc
    · rename_i c hco
      split at hc
      · cases hc; exact hco
      · split at hc
        · cases hc; exact hco
        · cases hc
    · cases hc
  · cases hc

theorem wop_sound {P : Program} {N : Nat} {ops : Array Oper} {o : Oper} {g : GOp} {fr : Nat → AV} {st : St} {K : AV → St → Prop} (hc : compOper P N ops o = some g) (h : wop P g.op fr st K) :
    ∃ x st', K x st' ∧ ∀ ro G D a w n (next : Act → World → Prop) (Q : Exit → Act → World → Prop), Ready P N ro G D fr st a w →
      (∀ a' w' G', G.le G' → Ready P N ro G' D (updo fr g.dst x) st' a' w' → next a' w') → o.wpIn (wideAt ro) n P a w next Q := by
  obtain ⟨x, st', hK, hs⟩ := wop_sound1 hc h
  obtain ⟨hd1, hd2⟩ := compOper_dst hc
  refine ⟨x, st', hK, fun ro G D a w n next Q hr hnext => hs ro G a w n next Q hr.2.1 hr.2.2.1 fun y w' G' k1 k3 k4 => ?_⟩
  rw [hd1] at hnext
  exact hnext _ _ G' k1 (hr.next k1 k3 ((hr.2.2.1.mono k1).put hd2 k4) (by rw [put_defers]; exact hr.2.2.2.2.mono k1))

end Go.EF
