/- Stepping through regions that draw their order. No conditions. -/
import Derived.Test.YtbekogkbdmaobaaEf22
namespace Go.EF
open Go Go.RowKit

abbrev Pend := List (Nat × (St → Option (AV × St)) × AV)
abbrev Als := List (Nat × Nat × List AV)

structure RD (P : Program) (N : Nat) (bss : List (List Nat)) (als : Als) (i : Nat) (l : List GOp) (b : CC) (lf : List AV) (st : St) (hist : List (Nat × St)) (pend : Pend) (Q : Jmp → (Nat → AV) → St → Prop) : Prop where
  run : wdraw P bss als i l (L lf) st hist pend fun fr' st' => wc P N b fr' st' Q

/-- Which entries of a list stand in no order to an operation: their places. -/
def loose {α : Type} (b : List Nat) : Nat → List (Nat × α) → List Nat
  | _, [] => []
  | k, p :: r => if b.contains p.1 then loose b (k + 1) r else k :: loose b (k + 1) r

/-- What holds at some places of a list. -/
def AtAll {α : Type} (φ : α → Prop) (l : List α) : List Nat → Prop
  | [] => True
  | j :: js => (match l[j]? with | some x => φ x | none => False) ∧ AtAll φ l js

theorem loose_mem {α : Type} {b : List Nat} : ∀ (l : List (Nat × α)) (k i : Nat) (p : Nat × α), l[i]? = some p → b.contains p.1 = false → k + i ∈ loose b k l
  | [], k, i, p, h, _ => by simp at h
  | q :: r, k, 0, p, h, hc => by simp at h; subst h; simp [loose]; simp at hc; simp [hc]
  | q :: r, k, i + 1, p, h, hc => by
    have := loose_mem r (k + 1) i p (by simpa using h) hc
    unfold loose
    rw [show k + (i + 1) = k + 1 + i from by omega]
    split
    · exact this
    · exact List.mem_cons_of_mem _ this

theorem AtAll_spec {α : Type} {φ : α → Prop} {l : List α} : ∀ {js : List Nat}, AtAll φ l js → ∀ j ∈ js, ∀ x, l[j]? = some x → φ x
  | [], _, j, hj, _, _ => by simp at hj
  | k :: js, h, j, hj, x, hx => by
    rcases List.mem_cons.1 hj with rfl | hj
    · have := h.1; rw [hx] at this; exact this
    · exact AtAll_spec h.2 j hj x hx

theorem loose_spec {α : Type} {b : List Nat} {φ : Nat × α → Prop} {l : List (Nat × α)} {js : List Nat} (h1 : loose b 0 l = js) (h2 : AtAll φ l js) : ∀ p ∈ l, b.contains p.1 = false → φ p := by
  intro p hp hc
  obtain ⟨i, hi⟩ := List.getElem?_of_mem hp
  have := loose_mem l 0 i p hi hc
  rw [h1, Nat.zero_add] at this
  exact AtAll_spec h2 i this p hi

/-- What an effect owes: the reads at the places js, the objects at the places ks. -/
structure Owes (b : List Nat) (als : Als) (pend : Pend) (js ks : List Nat) (s : St) : Prop where
  reads : AtAll (fun p : Nat × (St → Option (AV × St)) × AV => p.2.1 s = some (p.2.2, s)) pend js
  objs : AtAll (fun a : Nat × Nat × List AV => s.get a.2.1 = some (.cells a.2.2)) als ks
theorem effOK_of {b : List Nat} {als : Als} {pend : Pend} {js ks : List Nat} {s : St} (h1 : loose b 0 pend = js) (h2 : loose b 0 als = ks) (h : Owes b als pend js ks s) : effOK b als pend s :=
  ⟨loose_spec (φ := fun p => p.2.1 s = some (p.2.2, s)) h1 h.reads, loose_spec (φ := fun a => s.get a.2.1 = some (.cells a.2.2)) h2 h.objs⟩

section
variable {P : Program} {N : Nat} {lf : List AV} {st : St} {s0 : Base} {Q : Jmp → (Nat → AV) → St → Prop} {bb : CC} {m : List Cell} {t : List (Own × Nat)} {bss : List (List Nat)} {als : Als} {hist : List (Nat × St)} {pend : Pend} {i : Nat}

/-- What always holds need not be kept in mind. -/
theorem wdraw_drop {p : Nat × (St → Option (AV × St)) × AV} (hp : ∀ s, p.2.1 s = some (p.2.2, s)) : ∀ (l : List GOp) (i : Nat) (fr : Nat → AV) (st : St) (hist : List (Nat × St)) (pend pend' : Pend) (K : (Nat → AV) → St → Prop),
    (∀ q ∈ pend', q ∈ pend ∨ q = p) → wdraw P bss als i l fr st hist pend K → wdraw P bss als i l fr st hist pend' K
  | [], i, fr, st, hist, pend, pend', K, hq, h => h
  | g :: r, i, fr, st, hist, pend, pend', K, hq, h => by
    have eff : ∀ s, effOK (bss.getD i []) als pend s → effOK (bss.getD i []) als pend' s := fun s h => ⟨fun q hq' hc => (hq q hq').elim (fun hm => h.1 q hm hc) (fun e => by rw [e]; exact hp s), h.2⟩
    have ext : ∀ x, ∀ q ∈ x :: pend', q ∈ x :: pend ∨ q = p := fun x q hm => (List.mem_cons.1 hm).elim (fun e => .inl (by rw [e]; exact List.mem_cons_self ..)) (fun hm => (hq q hm).imp (List.mem_cons_of_mem _) id)
    simp only [wdraw] at h ⊢
    split at h
    · split at h
      · exact wdraw_drop hp r _ _ _ _ _ _ _ hq h
      · exact h.elim
    · split at h
      · exact wc_loop.wop_mono _ _ _ _ _ h fun x s h' => wdraw_drop hp r _ _ _ _ _ _ _ hq h'
      · split at h
        · split at h
          · rename_i hb; rw [if_pos hb]; exact wc_loop.wop_mono _ _ _ _ _ h fun x s h' => wdraw_drop hp r _ _ _ _ _ _ _ hq h'
          · rename_i hb; rw [if_neg hb]; exact wdraw_drop hp r _ _ _ _ _ _ _ hq h
        · exact wdraw_drop hp r _ _ _ _ _ _ _ hq h
        · exact h.elim
    · split at h
      · exact wc_loop.wop_mono _ _ _ _ _ h fun x s h' => ⟨h'.1, wdraw_drop hp r _ _ _ _ _ _ _ (ext _) h'.2⟩
      · split at h
        · split at h
          · rename_i hb; rw [if_pos hb]; exact wc_loop.wop_mono _ _ _ _ _ h fun x s h' => ⟨h'.1, wdraw_drop hp r _ _ _ _ _ _ _ (ext _) h'.2⟩
          · rename_i hb; rw [if_neg hb]; exact wdraw_drop hp r _ _ _ _ _ _ _ hq h
        · exact wdraw_drop hp r _ _ _ _ _ _ _ hq h
        · exact h.elim
    · split at h
      · exact wc_loop.wop_mono _ _ _ _ _ h fun x s h' => ⟨eff _ h'.1, wdraw_drop hp r _ _ _ _ _ _ _ hq h'.2⟩
      · split at h
        · split at h
          · rename_i hb; rw [if_pos hb]; exact wc_loop.wop_mono _ _ _ _ _ h fun x s h' => ⟨eff _ h'.1, wdraw_drop hp r _ _ _ _ _ _ _ hq h'.2⟩
          · rename_i hb; rw [if_neg hb]; exact ⟨eff _ h.1, wdraw_drop hp r _ _ _ _ _ _ _ hq h.2⟩
        · exact ⟨eff _ h.1, wdraw_drop hp r _ _ _ _ _ _ _ hq h.2⟩
        · exact h.elim

theorem wl_draw0 {l : List GOp} {bs : List (List Nat)} (h : ∀ n, allocsOf n 0 l = []) (k : RD P N bs [] 0 l bb lf st [] [] Q) : RC P N (.seq (.draw l bs) bb) lf st Q := by
  refine ⟨?_⟩
  have := k.run
  simp only [wc, h]
  simpa [preSt] using this
theorem wl_draw3 {l : List GOp} {bs : List (List Nat)} (j j' j'' : Nat) (z z' z'' : List AV) (h : ∀ n, allocsOf n 0 l = [(j, n, z), (j', n + 1, z'), (j'', n + 1 + 1, z'')]) (H : SP s0 m t st)
    (k : ∀ a a' a'' st', SP s0 (⟨a'', .cells z'', true⟩ :: ⟨a', .cells z', true⟩ :: ⟨a, .cells z, true⟩ :: m) t st' → RD P N bs [(j, a, z), (j', a', z'), (j'', a'', z'')] 0 l bb lf st' [] [] Q) : RC P N (.seq (.draw l bs) bb) lf st Q := by
  refine ⟨?_⟩
  have := (k _ _ _ _ (((H.alloc (.cells z)).alloc (.cells z')).alloc (.cells z''))).run
  simp only [wc, h]
  rw [show ((st.alloc (.cells z)).alloc (.cells z')).next = st.next + 1 + 1 from by rw [St.next_alloc, St.next_alloc], St.next_alloc] at this
  simpa [preSt] using this

theorem wd_done (k : RC P N bb lf st Q) : RD P N bss als i [] bb lf st hist pend Q := ⟨k.run⟩

end

def nocall : COp → Bool
  | .call .. | .callv .. => false
  | _ => true

/-- A run of pure operations in a region that draws. -/
def runD (P : Program) : List GOp → List AV → Option (List AV)
  | [], lf => some lf
  | g :: r, lf =>
    let put : AV → Option (List AV) := fun x => match g.dst with
      | some d => if d < lf.length then runD P r (lf.set d x) else none
      | none => runD P r lf
    let go : Unit → Option (List AV) := fun _ => match g.op.kd with
      | .pure => match evOp P (·.ev (L lf)) ⟨[]⟩ g.op with
        | some (x, _) => put x
        | none => none
      | _ => none
    match g.op.kd with
    | .eff => none
    | .alloc => none
    | _ => match g.guard with
      | none => go ()
      | some (d, want) => match L lf d with
        | .v (.bool b) => if b = want then go () else put (.tup [])
        | .tup [] => put (.tup [])
        | _ => none

section
variable {P : Program} {N : Nat} {lf : List AV} {st : St} {s0 : Base} {Q : Jmp → (Nat → AV) → St → Prop} {bb : CC} {m : List Cell} {t : List (Own × Nat)} {bss : List (List Nat)} {als : Als} {hist : List (Nat × St)} {pend : Pend} {i : Nat}

theorem runD_sound (lf' : List AV) (r : List GOp) (K : (Nat → AV) → St → Prop) (l : List GOp) : ∀ (i : Nat) (lf : List AV), runD P l lf = some lf' → wdraw P bss als (i + l.length) r (L lf') st hist pend K → wdraw P bss als i (l ++ r) (L lf) st hist pend K := by
  induction l with
  | nil => intro i lf h k; simp only [runD, Option.some.injEq] at h; subst h; exact k
  | cons g l ih =>
    intro i lf h k
    rw [List.length_cons, show i + (l.length + 1) = i + 1 + l.length from by omega] at k
    have put : ∀ (x : AV), (match g.dst with
          | some d => if d < lf.length then runD P l (lf.set d x) else none
          | none => runD P l lf) = some lf' → wdraw P bss als (i + 1) (l ++ r) (updo (L lf) g.dst x) st hist pend K := by
      intro x h
      cases hd : g.dst with
      | none => rw [hd] at h; exact ih _ lf h k
      | some d =>
        rw [hd] at h; simp only at h
        split at h
        · rename_i hlt
          have := ih (i + 1) _ h k
          rwa [L_set hlt] at this
        · cases h
    simp only [runD] at h
    simp only [List.cons_append]
    cases hk : g.op.kd with
    | eff => rw [hk] at h; cases h
    | alloc => rw [hk] at h; cases h
    | pure =>
      rw [hk] at h
      simp only at h
      have go : (match evOp P (·.ev (L lf)) ⟨[]⟩ g.op with
        | some (x, _) => (match g.dst with
          | some d => if d < lf.length then runD P l (lf.set d x) else none
          | none => runD P l lf)
        | none => none) = some lf' → wop P g.op (L lf) st fun x _ => wdraw P bss als (i + 1) (l ++ r) (updo (L lf) g.dst x) st hist pend K := by
        intro h
        split at h
        · rename_i x s' he
          have he' := (evOp_pure hk he).2 st
          have hw := ev_wop (c := g.op) (fr := L lf) (by rw [hk]; simp) he'
          refine wc_loop.wop_mono _ _ _ _ _ hw ?_
          rintro y s ⟨rfl, rfl⟩
          exact put _ h
        · cases h
      simp only [wdraw, hk]
      split at h
      · rename_i hg; rw [hg]; exact go h
      · rename_i d want hg
        rw [hg]
        split at h
        · rename_i b hb
          simp only [hb]
          split at h
          · rename_i hw; rw [if_pos hw]; exact go h
          · rename_i hw; rw [if_neg hw]; exact put _ h
        · rename_i hb; simp only [hb]; exact put _ h
        · cases h
    | read =>
      rw [hk] at h
      simp only at h
      simp only [wdraw, hk]
      split at h
      · cases h
      · rename_i d want hg
        rw [hg]
        split at h
        · rename_i b hb
          simp only [hb]
          split at h
          · cases h
          · rename_i hw; rw [if_neg hw]; exact put _ h
        · rename_i hb; simp only [hb]; exact put _ h
        · cases h

theorem wd_run {l : List GOp} (n : Nat) (ps : List (Nat × AV)) (hn : Nat.ble n l.length = true) (h : runD P (l.take n) lf = some (sets lf ps)) (k : RD P N bss als (i + n) (l.drop n) bb (sets lf ps) st hist pend Q) : RD P N bss als i l bb lf st hist pend Q := by
  have hl : (l.take n).length = n := by rw [List.length_take]; exact Nat.min_eq_left (Nat.le_of_ble_eq_true hn)
  have := runD_sound (bss := bss) (als := als) (hist := hist) (pend := pend) _ (l.drop n) _ (l.take n) i lf h (by rw [hl]; exact k.run)
  rw [List.take_append_drop] at this
  exact ⟨this⟩

theorem wd_guard {d : Option Nat} {g : Nat} {want : Bool} {c : COp} {r : List GOp} (h : L lf g = .bool want) (k : RD P N bss als i (⟨d, none, c⟩ :: r) bb lf st hist pend Q) (hc : decide (c.kd = .alloc) = false) : RD P N bss als i (⟨d, some (g, want), c⟩ :: r) bb lf st hist pend Q := by
  have k := k.run
  refine ⟨?_⟩
  simp only [wdraw] at k ⊢
  cases hk : c.kd with
  | alloc => rw [hk] at hc; cases hc
  | pure => rw [hk] at k; simpa only [h, if_true] using k
  | read => rw [hk] at k; simpa only [h, if_true] using k
  | eff => rw [hk] at k; simpa only [h, if_true] using k

theorem wd_case {l : List GOp} (d : Nat) (t : Bool) (h : L lf d = .bool t) (h1 : t = true → RD P N bss als i l bb (sets lf [(d, .bool true)]) st hist pend Q) (h2 : t = false → RD P N bss als i l bb (sets lf [(d, .bool false)]) st hist pend Q) (hd : Nat.ble (d + 1) lf.length = true) : RD P N bss als i l bb lf st hist pend Q := by
  have key : L (sets lf [(d, .bool t)]) = L lf := by
    simp only [sets]; rw [L_set (Nat.le_of_ble_eq_true hd), ← h]; funext i; unfold upd; split
    · rename_i e; rw [e]
    · rfl
  refine ⟨?_⟩
  cases t
  · have := (h2 rfl).run; rwa [key] at this
  · have := (h1 rfl).run; rwa [key] at this

theorem wd_alloc {d : Option Nat} {z : List AV} {r : List GOp} (a : Nat) (z' : List AV) (h : als.find? (·.1 == i) = some (i, a, z')) (hd : dok lf d = true) (k : RD P N bss als (i + 1) r bb (stx lf d (.ptr a 0)) st hist pend Q) : RD P N bss als i (⟨d, none, .alloc z⟩ :: r) bb lf st hist pend Q := by
  refine ⟨?_⟩
  have k := k.run
  simp only [wdraw, COp.kd, h]
  rwa [← L_stx hd] at k

theorem wop_of {c : COp} {fr : Nat → AV} {K : AV → St → Prop} {x : AV} {st' : St} (hc : nocall c = true) (h : evOp P (·.ev fr) st c = some (x, st')) (k : K x st') : wop P c fr st K := by
  unfold wop
  cases c <;> first | (simp only [h]; exact k) | (simp [nocall] at hc)

/-- A pure operation, its result named. -/
theorem wd_pure {d : Option Nat} {c : COp} {r : List GOp} (x : AV) (h : evOp P (·.ev (L lf)) st c = some (x, st)) (hc : decide (c.kd = .pure) = true) (hd : dok lf d = true) (k : RD P N bss als (i + 1) r bb (stx lf d x) st hist pend Q) : RD P N bss als i (⟨d, none, c⟩ :: r) bb lf st hist pend Q := by
  have hk : c.kd = .pure := of_decide_eq_true hc
  refine ⟨?_⟩
  have k := k.run
  rw [← L_stx hd] at k
  simp only [wdraw, hk]
  exact wc_loop.wop_mono _ _ _ _ _ (ev_wop (by rw [hk]; simp) h) fun y s e => by obtain ⟨rfl, rfl⟩ := e; exact k

/-- A reading operation that reads the same in every state. -/
theorem wd_readl {d : Option Nat} {c : COp} {r : List GOp} (x : AV) (h : ∀ s, evOp P (·.ev (L lf)) s c = some (x, s)) (hc : decide (c.kd = .read) = true) (hd : dok lf d = true) (k : RD P N bss als (i + 1) r bb (stx lf d x) st hist pend Q) : RD P N bss als i (⟨d, none, c⟩ :: r) bb lf st hist pend Q := by
  have hk : c.kd = .read := of_decide_eq_true hc
  refine ⟨?_⟩
  have k := k.run
  rw [← L_stx hd] at k
  simp only [wdraw, hk]
  refine wc_loop.wop_mono _ _ _ _ _ (ev_wop (by rw [hk]; simp) (h st)) fun y s e => ?_
  obtain ⟨rfl, rfl⟩ := e
  exact ⟨fun p _ _ => h p.2, wdraw_drop (p := (i, fun s => evOp P (·.ev (L lf)) s c, y)) h _ _ _ _ _ _ _ _ (fun q hq => (List.mem_cons.1 hq).symm) k⟩

/-- An effect that calls nothing. -/
theorem wd_eff {d : Option Nat} {c : COp} {r : List GOp} {st' : St} (x : AV) (h : evOp P (·.ev (L lf)) st c = some (x, st')) (hc : decide (c.kd = .eff) = true) (hn : nocall c = true) (js ks : List Nat) (hj : loose (bss.getD i []) 0 pend = js) (hks : loose (bss.getD i []) 0 als = ks) (ho : Owes (bss.getD i []) als pend js ks st') (hd : dok lf d = true)
    (k : RD P N bss als (i + 1) r bb (stx lf d x) st' ((i, st) :: hist) pend Q) : RD P N bss als i (⟨d, none, c⟩ :: r) bb lf st hist pend Q := by
  have hk : c.kd = .eff := of_decide_eq_true hc
  refine ⟨?_⟩
  have k := k.run
  rw [← L_stx hd] at k
  simp only [wdraw, hk]
  exact wop_of hn h ⟨effOK_of hj hks ho, k⟩

theorem wd_call {d : Option Nat} {f : Nat} {args : List Opd} {r : List GOp} (vs : List AV) (hv : args.map (·.ev (L lf)) = vs) (hd : dok lf d = true) (js ks : List Nat) (hj : loose (bss.getD i []) 0 pend = js) (hk : loose (bss.getD i []) 0 als = ks) (h : WF P f vs st fun x st' => Owes (bss.getD i []) als pend js ks st' ∧ RD P N bss als (i + 1) r bb (stx lf d x) st' ((i, st) :: hist) pend Q) :
    RD P N bss als i (⟨d, none, .call f args⟩ :: r) bb lf st hist pend Q := by
  refine ⟨?_⟩
  simp only [wdraw, COp.kd, wop]
  rw [hv]
  exact h.mono fun x st' hx => ⟨effOK_of hj hk hx.1, by rw [L_stx hd]; exact hx.2.run⟩
theorem wd_callv {d : Option Nat} {f : Opd} {args : List Opd} {r : List GOp} (fv : AV) (hf : f.ev (L lf) = fv) (vs : List AV) (hv : args.map (·.ev (L lf)) = vs) (hd : dok lf d = true) (js ks : List Nat) (hj : loose (bss.getD i []) 0 pend = js) (hk : loose (bss.getD i []) 0 als = ks) (h : WV P fv vs st fun x st' => Owes (bss.getD i []) als pend js ks st' ∧ RD P N bss als (i + 1) r bb (stx lf d x) st' ((i, st) :: hist) pend Q) :
    RD P N bss als i (⟨d, none, .callv f args⟩ :: r) bb lf st hist pend Q := by
  refine ⟨?_⟩
  simp only [wdraw, COp.kd, wop]
  rw [hv, hf]
  exact h.mono fun x st' hx => ⟨effOK_of hj hk hx.1, by rw [L_stx hd]; exact hx.2.run⟩

/-! what single operations read -/
theorem ev_loadl {g : Bool} {sz : Nat} {p : Opd} (cs : List AV) (off : Nat) (hp : p.ev (L lf) = .lptr cs off) (x : AV) (hx : getCells cs g sz off = some x) (s : St) : evOp P (·.ev (L lf)) s (.load g sz p) = some (x, s) := by simp only [evOp, hp, loadS, hx]
theorem ev_loade {τ : Type} {enc : τ → List AV} {sz : Nat} (hs : ∀ x, (enc x).length = sz) {g : Bool} {s : Nat} {p : Opd} (l : List τ) (i off : Nat) (x : τ) (hx : l[i]? = some x) (hp : p.ev (L lf) = .lptr (l.flatMap enc) (i * sz + off)) (v : AV) (hv : getCells (enc x) g s off = some v)
    (h1 : off + s ≤ sz) (h2 : 0 < s) (s' : St) : evOp P (·.ev (L lf)) s' (.load g s p) = some (v, s') := ev_loadl _ _ hp v ((enc_get hs hx g s off h1 h2).trans hv) s'
theorem ev_load {g : Bool} {sz : Nat} {p : Opd} {s : St} (H : SP s0 m t s) (j : Nat) (a off : Nat) (cs : List AV) (nw : Bool) (hj : m[j]? = some ⟨a, .cells cs, nw⟩) (hp : p.ev (L lf) = .ptr a off) (x : AV) (hx : getCells cs g sz off = some x) : evOp P (·.ev (L lf)) s (.load g sz p) = some (x, s) := by
  have := H.facts _ (List.mem_of_getElem? hj); simp only at this; simp only [evOp, hp, loadS, this, hx]
theorem ev_bin {op : BinOp} {ty : TypeId} {x y : Opd} (a b z : AV) (hx : x.ev (L lf) = a) (hy : y.ev (L lf) = b) (h : binV P op ty a b = some z) (s : St) : evOp P (·.ev (L lf)) s (.bin op ty x y) = some (z, s) := by simp only [evOp, hx, hy, h]
theorem ev_iaddr {sz : Nat} {x i : Opd} (own : Own) (cs : List AV) (n : Nat) (hx : x.ev (L lf) = .list own cs n) (ix : Int) (hi : i.ev (L lf) = .int ix) (h : 0 ≤ ix ∧ ix < n) (hc : cs.length = n * sz) (s : St) : evOp P (·.ev (L lf)) s (.iaddr sz x i) = some (.lptr cs (ix.toNat * sz), s) := by
  simp only [evOp, hx, hi, intOf?]; rw [if_pos ⟨h, hc⟩]
theorem ev_store {sz : Nat} {p x : Opd} {s : St} (H : SP s0 m t s) (j : Nat) (a off : Nat) (cs : List AV) (nw : Bool) (hj : m[j]? = some ⟨a, .cells cs, nw⟩) (hp : p.ev (L lf) = .ptr a off) (v : AV) (hv : x.ev (L lf) = v) (cs' : List AV) (h1 : v.boxable = true) (h2 : v.cells.all AV.one = true)
    (h3 : v.cells.length = sz) (h4 : off + sz ≤ cs.length) (h5 : splice cs off v.cells = cs') : evOp P (·.ev (L lf)) s (.store sz p x) = some (.junk, s.set a (.cells cs')) := by
  have hf := H.facts _ (List.mem_of_getElem? hj)
  simp only at hf
  simp only [evOp, hp, hv, storeS, hf]
  rw [if_pos ⟨h1, h2, h3, h4⟩, h5]
end
end Go.EF
