/- Stepping over literal frames: runs of pure operations checked by the kernel; one hypothesis on the state. No conditions. -/
import Derived.Test.YtbekogkbdmaobaaEf16
namespace Go.EF
open Go Go.RowKit

def L (l : List AV) : Nat → AV := fun i => l.getD i .junk
def sets (lf : List AV) : List (Nat × AV) → List AV
  | [] => lf
  | (d, x) :: r => sets (lf.set d x) r

/-- A run of operations that need no state. -/
def runP (P : Program) : List GOp → List AV → Option (List AV)
  | [], lf => some lf
  | g :: r, lf =>
    let go : Unit → Option (List AV) := fun _ =>
      match g.op.kd with
      | .pure => match evOp P (·.ev (L lf)) ⟨[]⟩ g.op with
        | some (x, _) => match g.dst with
          | some d => if d < lf.length then runP P r (lf.set d x) else none
          | none => runP P r lf
        | none => none
      | _ => none
    match g.guard with
    | none => go ()
    | some (d, want) => match L lf d with
      | .v (.bool b) => if b = want then go () else match g.dst with
          | some d => if d < lf.length then runP P r (lf.set d (.tup [])) else none
          | none => runP P r lf
      | .tup [] => match g.dst with
          | some d => if d < lf.length then runP P r (lf.set d (.tup [])) else none
          | none => runP P r lf
      | _ => none

theorem L_set {lf : List AV} {d : Nat} {x : AV} (h : d < lf.length) : L (lf.set d x) = upd (L lf) d x := by
  funext i
  unfold L upd
  by_cases hi : i = d
  · subst hi; simp [h]
  · simp [hi, List.getElem?_set_ne (Ne.symm hi)]

section
variable {P : Program} {N : Nat} {lf : List AV} {st : St} {K : (Nat → AV) → St → Prop} {Q : Jmp → (Nat → AV) → St → Prop}

theorem runP_sound (lf' : List AV) (r : List GOp) (k : wops P r (L lf') st K) (l : List GOp) : ∀ (lf : List AV), runP P l lf = some lf' → wops P (l ++ r) (L lf) st K := by
  induction l with
  | nil => intro lf h; simp only [runP, Option.some.injEq] at h; subst h; exact k
  | cons g l ih =>
    intro lf h
    have go : (match g.op.kd with
      | .pure => match evOp P (·.ev (L lf)) ⟨[]⟩ g.op with
        | some (x, _) => match g.dst with
          | some d => if d < lf.length then runP P l (lf.set d x) else none
          | none => runP P l lf
        | none => none
      | _ => none) = some lf' → wop P g.op (L lf) st fun x st' => wops P (l ++ r) (updo (L lf) g.dst x) st' K := by
      intro h
      split at h
      · rename_i hk
        split at h
        · rename_i x s' he
          have he' := (evOp_pure hk he).2 st
          have hw := ev_wop (c := g.op) (fr := L lf) (by rw [hk]; simp) he'
          refine wc_loop.wop_mono _ _ _ _ _ hw ?_
          rintro x s ⟨rfl, rfl⟩
          cases hd : g.dst with
          | none => rw [hd] at h; exact ih lf h
          | some d =>
            rw [hd] at h; simp only at h
            split at h
            · rename_i hlt
              have := ih _ h
              rwa [L_set hlt] at this
            · cases h
        · cases h
      · cases h
    simp only [runP] at h
    simp only [List.cons_append, wops]
    split at h
    · rename_i hg; rw [hg]; exact go h
    · rename_i d want hg
      rw [hg]
      split at h
      · rename_i b hb
        simp only [hb]
        split at h
        · rename_i hbw; rw [if_pos hbw]; exact go h
        · rename_i hbw
          rw [if_neg hbw]
          cases hd : g.dst with
          | none => rw [hd] at h; exact ih lf h
          | some d =>
            rw [hd] at h; simp only at h
            split at h
            · rename_i hlt
              have := ih _ h
              rwa [L_set hlt] at this
            · cases h
      · rename_i hb
        simp only [hb]
        cases hd : g.dst with
        | none => rw [hd] at h; exact ih lf h
        | some d =>
          rw [hd] at h; simp only at h
          split at h
          · rename_i hlt
            have := ih _ h
            rwa [L_set hlt] at this
          · cases h
      · cases h

def dok (lf : List AV) (d : Option Nat) : Bool := match d with | some d => Nat.ble (d + 1) lf.length | none => true

def stx (lf : List AV) (d : Option Nat) (x : AV) : List AV := match d with | some d => lf.set d x | none => lf

theorem L_stx {d : Option Nat} {x : AV} (h : dok lf d = true) : updo (L lf) d x = L (stx lf d x) := by
  cases d with
  | none => rfl
  | some d => exact (L_set (Nat.le_of_ble_eq_true h)).symm
end

/-- Code that is to be run from a literal frame (a structure, so that nothing unfolds it). -/
structure RC (P : Program) (N : Nat) (c : CC) (lf : List AV) (st : St) (Q : Jmp → (Nat → AV) → St → Prop) : Prop where
  run : wc P N c (L lf) st Q
/-- What is left of a region, and the code behind it. -/
structure RO (P : Program) (N : Nat) (l : List GOp) (b : CC) (lf : List AV) (st : St) (Q : Jmp → (Nat → AV) → St → Prop) : Prop where
  run : wops P l (L lf) st fun fr' st' => wc P N b fr' st' Q
/-- What a function's end must be. -/
structure FinP (P : Program) (rs : List ResultVar) (K : AV → St → Prop) (x : Jmp) (fr : Nat → AV) (st : St) : Prop where
  h : (x = .normal ∨ x = .ret) ∧ ∃ r, resV P rs fr st = some r ∧ K r st

section
variable {P : Program} {N : Nat} {lf : List AV} {st : St} {Q : Jmp → (Nat → AV) → St → Prop} {b : CC}

/-- n operations at once. -/
theorem wr_run {l : List GOp} (n : Nat) (ps : List (Nat × AV)) (h : runP P (l.take n) lf = some (sets lf ps)) (k : RO P N (l.drop n) b (sets lf ps) st Q) : RO P N l b lf st Q := by
  have := runP_sound _ (l.drop n) k.run (l.take n) lf h
  rw [List.take_append_drop] at this
  exact ⟨this⟩

theorem wr_done (k : RC P N b lf st Q) : RO P N [] b lf st Q := ⟨k.run⟩

/-- One operation, its result named. -/
theorem wr_op {d : Option Nat} {c : COp} {r : List GOp} {st' : St} (x : AV) (h : evOp P (·.ev (L lf)) st c = some (x, st')) (hc : (match c with | .call .. | .callv .. => false | _ => true) = true) (hd : dok lf d = true)
    (k : RO P N r b (stx lf d x) st' Q) : RO P N (⟨d, none, c⟩ :: r) b lf st Q := by
  refine ⟨?_⟩
  have k := k.run
  simp only [wops]
  rw [L_stx (x := x) hd |>.symm] at k
  unfold wop
  cases c <;> first | (simp only at hc; done) | (simp only [h]; exact k) | (simp at hc)

theorem wr_guard {d : Option Nat} {g : Nat} {want : Bool} {c : COp} {r : List GOp} (h : L lf g = .bool want) (k : RO P N (⟨d, none, c⟩ :: r) b lf st Q) : RO P N (⟨d, some (g, want), c⟩ :: r) b lf st Q := by
  have k := k.run
  refine ⟨?_⟩
  simp only [wops, h, if_true] at k ⊢; exact k

/-- A boolean slot is looked at. -/
theorem wr_case {l : List GOp} (d : Nat) (t : Bool) (h : L lf d = .bool t) (h1 : t = true → RO P N l b (sets lf [(d, .bool true)]) st Q) (h2 : t = false → RO P N l b (sets lf [(d, .bool false)]) st Q) (hd : Nat.ble (d + 1) lf.length = true) : RO P N l b lf st Q := by
  have key : L (sets lf [(d, .bool t)]) = L lf := by
    simp only [sets]; rw [L_set (Nat.le_of_ble_eq_true hd), ← h]; funext i; unfold upd; split
    · rename_i e; rw [e]
    · rfl
  refine ⟨?_⟩
  cases t
  · have := (h2 rfl).run; rwa [key] at this
  · have := (h1 rfl).run; rwa [key] at this

/-- Another way to write the frame. -/
theorem wr_frame {l : List GOp} (lf' : List AV) (h : lf = lf') (k : RO P N l b lf' st Q) : RO P N l b lf st Q := h ▸ k
theorem wl_frame {c : CC} (lf' : List AV) (h : lf = lf') (k : RC P N c lf' st Q) : RC P N c lf st Q := h ▸ k

/-! ### code -/
theorem wl_assoc {x y c : CC} (h : RC P N (.seq x (.seq y c)) lf st Q) : RC P N (.seq (.seq x y) c) lf st Q := ⟨wc_assoc h.run⟩
theorem wl_tail {c : CC} (h : RC P N (.seq c .skip) lf st Q) : RC P N c lf st Q := by
  have h := h.run
  refine ⟨?_⟩
  simp only [wc] at h
  refine wc_loop.wc_mono c _ _ _ _ h fun x fr' st' h' => ?_
  by_cases hx : x = .normal
  · subst hx; simpa using h'
  · simpa [hx] using h'
theorem wl_ops {l : List GOp} (h : RO P N l b lf st Q) : RC P N (.seq (.ops l) b) lf st Q := ⟨by simpa [wc] using h.run⟩
theorem wl_cond {c : Opd} {x y : CC} (t : Bool) (hc : c.ev (L lf) = .bool t) (h1 : t = true → RC P N (.seq x b) lf st Q) (h2 : t = false → RC P N (.seq y b) lf st Q) : RC P N (.seq (.cond c x y) b) lf st Q := ⟨wc_cond_seq t hc (fun e => (h1 e).run) (fun e => (h2 e).run)⟩
theorem wl_skip_seq (h : RC P N b lf st Q) : RC P N (.seq .skip b) lf st Q := ⟨wc_skip_seq h.run⟩
theorem wl_skip (h : Q .normal (L lf) st) : RC P N .skip lf st Q := ⟨h⟩
theorem wl_exit {id : Nat} (h : Q (.exit id) (L lf) st) : RC P N (.seq (.exit id) b) lf st Q := ⟨wc_exit_seq h⟩
theorem wl_ret (h : Q .ret (L lf) st) : RC P N (.seq .ret b) lf st Q := ⟨wc_ret_seq h⟩
end

section
variable {P : Program} {N : Nat} {lf : List AV} {st : St} {Q : Jmp → (Nat → AV) → St → Prop} {b : CC}
theorem wl_block {id : Nat} {c : CC} (h : ∀ Q' : Jmp → (Nat → AV) → St → Prop, (∀ lf st, RC P N b lf st Q → Q' .normal (L lf) st) → (∀ lf st, RC P N b lf st Q → Q' (.exit id) (L lf) st) →
    (∀ x lf st, x ≠ .normal → x ≠ .exit id → Q x (L lf) st → Q' x (L lf) st) → RC P N c lf st Q') : RC P N (.seq (.block id c) b) lf st Q := by
  refine ⟨wc_block_seq (h _ ?_ ?_ ?_).run⟩
  · intro lf st h; simpa using h.run
  · intro lf st h; simpa using h.run
  · intro x lf st h1 h2 h; simpa [h1, h2] using h

/-- A loop that is the whole of a block, then the rest. -/
theorem wl_loop {id : Nat} {c : CC} {σ : Type} (I : σ → List AV → St → Prop) (μ : σ → Nat) (s : σ) (h0 : I s lf st)
    (round : ∀ s lf st, I s lf st → ∀ Q' : Jmp → (Nat → AV) → St → Prop, (∀ lf st s', I s' lf st → μ s' < μ s → Q' .normal (L lf) st) → (∀ lf st, RC P N b lf st Q → Q' (.exit id) (L lf) st) →
      (∀ x lf st, x ≠ .normal → x ≠ .exit id → Q x (L lf) st → Q' x (L lf) st) → RC P N c lf st Q') : RC P N (.seq (.block id (.loop c)) b) lf st Q := by
  refine ⟨wc_blockloop_seq (fun s fr st => ∃ lf, fr = L lf ∧ I s lf st) μ s ⟨lf, rfl, h0⟩ ?_⟩
  rintro s fr st ⟨lf, rfl, hI⟩ Q' hN hE hX
  exact (round s lf st hI Q' (fun lf st s' h1 h2 => hN _ _ ⟨s', ⟨lf, rfl, h1⟩, h2⟩) (fun lf st h => hE _ _ h.run) fun x lf st h1 h2 h => hX x _ _ h1 h2 h).run

theorem wr_call {d : Option Nat} {f : Nat} {args : List Opd} {r : List GOp} (vs : List AV) (hv : args.map (·.ev (L lf)) = vs) (hd : dok lf d = true) (h : WF P f vs st fun x st' => RO P N r b (stx lf d x) st' Q) : RO P N (⟨d, none, .call f args⟩ :: r) b lf st Q := by
  refine ⟨?_⟩
  simp only [wops, wop]
  rw [hv]
  exact h.mono fun x st' hx => by rw [L_stx hd]; exact hx.run
theorem wr_callv {d : Option Nat} {f : Opd} {args : List Opd} {r : List GOp} (fv : AV) (hf : f.ev (L lf) = fv) (vs : List AV) (hv : args.map (·.ev (L lf)) = vs) (hd : dok lf d = true) (h : WV P fv vs st fun x st' => RO P N r b (stx lf d x) st' Q) : RO P N (⟨d, none, .callv f args⟩ :: r) b lf st Q := by
  refine ⟨?_⟩
  simp only [wops, wop]
  rw [hv, hf]
  exact h.mono fun x st' hx => by rw [L_stx hd]; exact hx.run
end

/-! ### the state -/
structure Cell where
  a : Nat
  o : AObj
  new : Bool

/-- A state that something comes of, and which of its places must stay as they are. -/
structure Base where
  st : St
  pr : Nat → Prop
instance : Coe St Base := ⟨fun s => ⟨s, fun _ => True⟩⟩
/-- A growing list's room: its own from the start, or a live row that came after s0, or that need not stay. -/
def Grown (s0 : Base) (st : St) : Own × Nat → Prop
  | (.any, _) => False
  | (.exact, _) => True
  | (.tok a, sz) => (s0.st.next ≤ a ∨ ¬ s0.pr a) ∧ st.get a = some (.arr true sz)

def apart (x y : Own × Nat) : Prop := ∀ a, x.1 = .tok a → y.1 ≠ .tok a

def noArr : AObj → Bool
  | .arr _ _ => false
  | _ => true

/-- What has come of the state s0: nothing that was there has turned, but what m lists; what m lists is as m says; t are the lists that grow. -/
structure SP (s0 : Base) (m : List Cell) (t : List (Own × Nat)) (st : St) : Prop where
  next : s0.st.next ≤ st.next
  old : ∀ a, a < s0.st.next → s0.pr a → (∀ x ∈ m, x.new = false → x.a ≠ a) → st.get a = s0.st.get a
  facts : ∀ x ∈ m, st.get x.a = some x.o
  isnew : ∀ x ∈ m, x.new = true → s0.st.next ≤ x.a
  nodup : (m.map (·.a)).Nodup
  toks : ∀ x ∈ t, Grown s0 st x
  apart : t.Pairwise apart

theorem Grown.then {s0 : Base} {st st' : St} {x : Own × Nat} (h : Grown s0 st x) (k : ∀ a sz, (s0.st.next ≤ a ∨ ¬ s0.pr a) → st.get a = some (.arr true sz) → st'.get a = some (.arr true sz)) : Grown s0 st' x := by
  obtain ⟨o, sz⟩ := x
  cases o with
  | any => exact h
  | exact => exact h
  | tok a => exact ⟨h.1, k a sz h.1 h.2⟩

theorem SP.start (s : St) : SP s [] [] s := ⟨Nat.le_refl _, fun _ _ _ _ => rfl, by simp, by simp, by simp, by simp, by simp⟩
theorem SP.grow {s0 : Base} {st : St} {m : List Cell} {t : List (Own × Nat)} (h : SP s0 m t st) (sz : Nat) : SP s0 m ((.exact, sz) :: t) st :=
  ⟨h.next, h.old, h.facts, h.isnew, h.nodup, fun x hx => (List.mem_cons.1 hx).elim (fun e => by subst e; trivial) (h.toks x), List.pairwise_cons.2 ⟨fun y _ a (e : Own.exact = Own.tok a) => (nomatch e), h.apart⟩⟩
theorem SP.ext {s0 st : St} {m : List Cell} {t : List (Own × Nat)} (h : SP s0 m t st) (hn : m.all (·.new) = true) : Ext s0 st :=
  ⟨h.next, fun a ha => h.old a ha trivial fun x hx hf => by have := List.all_eq_true.1 hn x hx; rw [hf] at this; cases this⟩
theorem SP.then {s0 : Base} {st st' : St} {m : List Cell} {t : List (Own × Nat)} (h : SP s0 m t st) (e : Ext st st') : SP s0 m t st' :=
  ⟨Nat.le_trans h.next e.next, fun a ha hp hx => by rw [e.get a (Nat.lt_of_lt_of_le ha h.next)]; exact h.old a ha hp hx, fun x hx => e.here (h.facts x hx), h.isnew, h.nodup,
    fun x hx => (h.toks x hx).then fun a sz _ g => e.here g, h.apart⟩
theorem SP.alloc {s0 : Base} {st : St} {m : List Cell} {t : List (Own × Nat)} (h : SP s0 m t st) (o : AObj) : SP s0 (⟨st.next, o, true⟩ :: m) t (st.alloc o) := by
  have hne : ∀ x ∈ m, x.a ≠ st.next := fun x hx e => by have := St.lt_of_get (h.facts x hx); omega
  refine ⟨by rw [St.next_alloc]; have := h.next; omega, fun a ha hp hx => ?_, fun x hx => ?_, fun x hx hn => ?_, ?_, fun x hx => (h.toks x hx).then fun a sz _ g => by rw [St.get_alloc_old _ _ (St.lt_of_get g)]; exact g, h.apart⟩
  · rw [St.get_alloc_old _ _ (Nat.lt_of_lt_of_le ha h.next)]; exact h.old a ha hp fun x hm => hx x (List.mem_cons_of_mem _ hm)
  · rcases List.mem_cons.1 hx with rfl | hx
    · exact St.get_alloc_new _ _
    · rw [St.get_alloc_old _ _ (St.lt_of_get (h.facts x hx))]; exact h.facts x hx
  · rcases List.mem_cons.1 hx with rfl | hx
    · exact h.next
    · exact h.isnew x hx hn
  · simp only [List.map_cons, List.nodup_cons]
    refine ⟨fun hm => ?_, h.nodup⟩
    obtain ⟨x, hx, e⟩ := List.mem_map.1 hm
    exact hne x hx e

def putC (m : List Cell) (j : Nat) (o : AObj) : List Cell := match m, j with
  | [], _ => []
  | x :: r, 0 => ⟨x.a, o, x.new⟩ :: r
  | x :: r, j + 1 => x :: putC r j o

theorem putC_a : ∀ (m : List Cell) (j : Nat) (o : AObj), (putC m j o).map (·.a) = m.map (·.a)
  | [], _, _ => rfl
  | x :: r, 0, o => rfl
  | x :: r, j + 1, o => by simp [putC, putC_a r j o]

theorem putC_mem : ∀ (m : List Cell) (j : Nat) (o : AObj) (c : Cell), m[j]? = some c → ∀ x ∈ putC m j o, (x.a = c.a ∧ x.o = o ∧ x.new = c.new) ∨ (∃ i, m[i]? = some x ∧ i ≠ j)
  | [], _, _, _, h, x, hx => by simp [putC] at hx
  | y :: r, 0, o, c, h, x, hx => by
    simp at h; subst h
    rcases List.mem_cons.1 hx with rfl | hx
    · exact .inl ⟨rfl, rfl, rfl⟩
    · obtain ⟨i, hi⟩ := List.getElem?_of_mem hx
      exact .inr ⟨i + 1, by simpa using hi, by omega⟩
  | y :: r, j + 1, o, c, h, x, hx => by
    simp at h
    rcases List.mem_cons.1 hx with rfl | hx
    · exact .inr ⟨0, by simp, by omega⟩
    · rcases putC_mem r j o c h x hx with h' | ⟨i, h1, h2⟩
      · exact .inl h'
      · exact .inr ⟨i + 1, by simpa using h1, by omega⟩

theorem addr_inj {m : List Cell} (h : (m.map (·.a)).Nodup) {i j : Nat} {x y : Cell} (hi : m[i]? = some x) (hj : m[j]? = some y) (e : x.a = y.a) : i = j := by
  have h1 := List.pairwise_iff_getElem.1 h
  obtain ⟨q1, q2⟩ := List.getElem?_eq_some_iff.1 hi
  obtain ⟨q3, q4⟩ := List.getElem?_eq_some_iff.1 hj
  rcases Nat.lt_trichotomy i j with hlt | heq | hgt
  · exact (h1 i j (by simpa using q1) (by simpa using q3) hlt (by simp [q2, q4, e])).elim
  · exact heq
  · exact (h1 j i (by simpa using q3) (by simpa using q1) hgt (by simp [q2, q4, e])).elim

/-- One listed object turns (a state that does so, however it came). -/
theorem SP.turn {s0 : Base} {st st' : St} {m : List Cell} {t : List (Own × Nat)} (h : SP s0 m t st) (j : Nat) {c : Cell} (hj : m[j]? = some c) (hc' : noArr c.o = true) (o : AObj) (hn : st.next ≤ st'.next) (hs : st'.get c.a = some o) (ho : ∀ a, a < st.next → a ≠ c.a → st'.get a = st.get a) : SP s0 (putC m j o) t st' := by
  have hc := h.facts c (List.mem_of_getElem? hj)
  refine ⟨Nat.le_trans h.next hn, fun a ha hp hx => ?_, fun x hx => ?_, fun x hx hn => ?_, by rw [putC_a]; exact h.nodup, fun x hx => (h.toks x hx).then fun a sz _ g => ?_, h.apart⟩
  · have hca : a ≠ c.a := by
      intro e
      cases hcn : c.new with
      | true => have := h.isnew c (List.mem_of_getElem? hj) hcn; omega
      | false =>
        have hm : c.a ∈ (putC m j o).map (·.a) := by rw [putC_a]; exact List.mem_map.2 ⟨c, List.mem_of_getElem? hj, rfl⟩
        obtain ⟨x, hx1, hx2⟩ := List.mem_map.1 hm
        rcases putC_mem m j o c hj x hx1 with ⟨_, _, e3⟩ | ⟨i, h1, h2⟩
        · exact hx x hx1 (by rw [e3, hcn]) (by rw [hx2, e])
        · exact h2 (addr_inj h.nodup h1 hj hx2)
    rw [ho a (Nat.lt_of_lt_of_le ha h.next) hca]
    refine h.old a ha hp fun x hm hf e => ?_
    have hm' : x.a ∈ (putC m j o).map (·.a) := by rw [putC_a]; exact List.mem_map.2 ⟨x, hm, rfl⟩
    obtain ⟨y, hy1, hy2⟩ := List.mem_map.1 hm'
    rcases putC_mem m j o c hj y hy1 with ⟨e1, _, _⟩ | ⟨i, h1, h2⟩
    · exact hca (by rw [← e1, hy2, e])
    · obtain ⟨i', hi'⟩ := List.getElem?_of_mem hm
      have hii := addr_inj h.nodup h1 hi' hy2
      subst hii
      rw [hi'] at h1; cases h1
      exact hx x hy1 hf e
  · rcases putC_mem m j o c hj x hx with ⟨e1, e2, _⟩ | ⟨i, h1, h2⟩
    · rw [e1, e2]; exact hs
    · have hx' := h.facts x (List.mem_of_getElem? h1)
      rw [ho x.a (St.lt_of_get hx') (fun e => h2 (addr_inj h.nodup h1 hj e))]; exact hx'
  · rcases putC_mem m j o c hj x hx with ⟨e1, e2, e3⟩ | ⟨i, h1, h2⟩
    · rw [e1]; exact h.isnew c (List.mem_of_getElem? hj) (by rw [← e3]; exact hn)
    · exact h.isnew x (List.mem_of_getElem? h1) hn
  · rw [ho a (St.lt_of_get g) (fun e => by subst e; rw [hc] at g; rw [Option.some.inj g] at hc'; cases hc')]; exact g

theorem SP.set {s0 : Base} {st : St} {m : List Cell} {t : List (Own × Nat)} (h : SP s0 m t st) (j : Nat) {c : Cell} (hj : m[j]? = some c) (hc' : noArr c.o = true) (o : AObj) : SP s0 (putC m j o) t (st.set c.a o) :=
  h.turn j hj hc' o (by rw [St.next_set]; exact Nat.le_refl _) (St.get_set_same _ _ (St.lt_of_get (h.facts c (List.mem_of_getElem? hj)))) fun a _ hne => St.get_set_ne _ _ (Ne.symm hne)
end Go.EF
