/- Steps whose results are named by fresh variables; what calls change; symbolic places. No conditions. -/
import Derived.Test.YtbekogkbdmaobaaEf23
namespace Go.EF
open Go Go.RowKit

section
variable {P : Program} {N : Nat} {lf : List AV} {st : St} {s0 : Base} {Q : Jmp → (Nat → AV) → St → Prop} {bb : CC} {m : List Cell} {t : List (Own × Nat)} {bss : List (List Nat)} {als : Als} {hist : List (Nat × St)} {pend : Pend} {i : Nat} {d : Option Nat} {r : List GOp} {c : COp}

theorem wr_pureX {τ : Type} (mk : τ → AV) (φ : τ → Prop) (h : ∃ y, (∀ s, evOp P (·.ev (L lf)) s c = some (mk y, s)) ∧ φ y) (hc : nocall c = true) (hd : dok lf d = true) (k : ∀ y, φ y → RO P N r bb (stx lf d (mk y)) st Q) : RO P N (⟨d, none, c⟩ :: r) bb lf st Q := by
  obtain ⟨y, h1, h2⟩ := h
  exact wr_op (mk y) (h1 st) (by revert hc; cases c <;> simp [nocall]) hd (k y h2)
theorem wd_pureX {τ : Type} (mk : τ → AV) (φ : τ → Prop) (h : ∃ y, (∀ s, evOp P (·.ev (L lf)) s c = some (mk y, s)) ∧ φ y) (hc : decide (c.kd = .pure) = true) (hd : dok lf d = true) (k : ∀ y, φ y → RD P N bss als (i + 1) r bb (stx lf d (mk y)) st hist pend Q) : RD P N bss als i (⟨d, none, c⟩ :: r) bb lf st hist pend Q := by
  obtain ⟨y, h1, h2⟩ := h
  exact wd_pure (mk y) (h1 st) hc hd (k y h2)
end

section
variable {P : Program} {lf : List AV} {ty : TypeId} {x y : Opd} {op : BinOp}

theorem ev_int {φ : Int → Prop} (a b : AV) (hx : x.ev (L lf) = a) (hy : y.ev (L lf) = b) (h : ∃ n : Int, binV P op ty a b = some (.int n) ∧ φ n) : ∃ n : Int, (∀ s, evOp P (·.ev (L lf)) s (.bin op ty x y) = some (.int n, s)) ∧ φ n := by
  obtain ⟨n, h1, h2⟩ := h
  exact ⟨n, fun s => by simp only [evOp, hx, hy, h1], h2⟩

def I64 (n : Int) : Prop := -9223372036854775808 ≤ n ∧ n ≤ 9223372036854775807

theorem wrap_rng (n : Int) : I64 (IntKind.i64.wrap n) := by
  rw [IntKind.wrap_i64]; unfold I64; omega

theorem add64e {a b : Int} (z : Int) (h : z = a + b ∧ I64 z) : binV P .add ty (.int a) (.int b) = some (.int z) := by
  obtain ⟨rfl, h⟩ := h; unfold I64 at h; exact add64 (by omega)
theorem sub64e {a b : Int} (z : Int) (h : z = a - b ∧ I64 z) : binV P .sub ty (.int a) (.int b) = some (.int z) := by
  obtain ⟨rfl, h⟩ := h; unfold I64 at h; exact sub64 (by omega)
theorem bx_sub (a b : Int) : ∃ n : Int, binV P .sub ty (.int a) (.int b) = some (.int n) ∧ (I64 n ∧ (I64 (a - b) → n = a - b)) := ⟨_, bin_sub _ _ _ _ _, wrap_rng _, fun h => wrap64 (by unfold I64 at h; omega)⟩
theorem bx_and (a b : Int) : ∃ n : Int, binV P .and ty (.int a) (.int b) = some (.int n) ∧ I64 n := ⟨_, bin_and _ _ _ _ _, wrap_rng _⟩
theorem bx_or (a b : Int) : ∃ n : Int, binV P .or ty (.int a) (.int b) = some (.int n) ∧ I64 n := ⟨_, bin_or _ _ _ _ _, wrap_rng _⟩
theorem bx_andNot (a b : Int) : ∃ n : Int, binV P .andNot ty (.int a) (.int b) = some (.int n) ∧ I64 n := ⟨_, bin_andNot _ _ _ _ _, wrap_rng _⟩
theorem bx_shl (a b : Int) (h : 0 ≤ b) : ∃ n : Int, binV P .shl ty (.int a) (.int b) = some (.int n) ∧ I64 n := ⟨_, bin_shl _ _ _ _ _ h, wrap_rng _⟩
/-- A right shift: what is above no bit is past all of them. -/
theorem bx_shr (a b : Int) (h : 0 ≤ b) : ∃ n : Int, binV P .shr ty (.int a) (.int b) = some (.int n) ∧ (I64 a → I64 n ∧ (0 < n → b < 64) ∧ (0 ≤ a → 0 ≤ n ∧ n ≤ a)) := by
  refine ⟨_, bin_shr _ _ _ _ _ h, fun ha => ?_⟩
  have key : ∀ k : Nat, (0 : Int) < 2 ^ k := fun k => Int.pow_pos (by decide)
  have h1 : (1 : Int) ≤ 2 ^ (min b.toNat 64) := key _
  have e : a.fdiv (2 ^ (min b.toNat IntKind.i64.bits)) = a / 2 ^ (min b.toNat 64) := Int.fdiv_eq_ediv_of_nonneg _ (Int.le_of_lt (key _))
  rw [e]
  unfold I64 at ha ⊢
  have up : 0 ≤ a → 0 ≤ a / 2 ^ (min b.toNat 64) ∧ a / 2 ^ (min b.toNat 64) ≤ a := fun h0 => ⟨Int.ediv_nonneg h0 (Int.le_of_lt (key _)), Int.ediv_le_self _ h0⟩
  have dn : a < 0 → a ≤ a / 2 ^ (min b.toNat 64) ∧ a / 2 ^ (min b.toNat 64) < 0 := fun h0 => by
    refine ⟨?_, Int.ediv_lt_of_lt_mul (key _) (by simpa using h0)⟩
    refine Int.le_ediv_of_mul_le (key _) ?_
    have := Int.mul_le_mul_of_nonpos_left (Int.le_of_lt h0) h1
    simpa using this
  refine ⟨?_, fun hn => ?_, up⟩
  · rcases Int.lt_or_le a 0 with h0 | h0
    · have := dn h0; omega
    · have := up h0; omega
  · rcases Int.lt_or_le b 64 with hb | hb
    · exact hb
    · exfalso
      have hm : min b.toNat 64 = 64 := by omega
      rw [hm] at hn
      omega

/-- A part of a list of records, by a name of its own. -/
theorem ev_slice {τ : Type} {enc : τ → List AV} {sz : Nat} (hs : ∀ x, (enc x).length = sz) {x : Opd} {lo hi : Option Opd} (own : Own) (l : List τ) (hx : x.ev (L lf) = .list own (l.flatMap enc) l.length) (a b : Int)
    (hlo : (match lo with | none => a = 0 | some o => o.ev (L lf) = .int a)) (hhi : (match hi with | none => b = l.length | some o => o.ev (L lf) = .int b)) (h : 0 ≤ a ∧ a ≤ b ∧ b ≤ l.length) :
    ∃ y : Own × List τ, (∀ s, evOp P (·.ev (L lf)) s (.slice sz x lo hi none) = some (.list y.1 (y.2.flatMap enc) y.2.length, s)) ∧ ((y.2.length : Int) = b - a ∧ ∀ x ∈ y.2, x ∈ l) := by
  obtain ⟨h1, h2, h3⟩ := h
  obtain ⟨a, rfl⟩ := Int.eq_ofNat_of_zero_le h1
  obtain ⟨b, rfl⟩ := Int.eq_ofNat_of_zero_le (Int.le_trans h1 h2)
  have hb : boundsOf (·.ev (L lf)) l.length l.length lo hi none = some (a, b, l.length) := by
    cases lo with
    | none =>
      have : a = 0 := by simp only at hlo; omega
      subst this
      cases hi with
      | none => have : b = l.length := by simp only at hhi; omega
                subst this; rfl
      | some o => simp only at hhi; unfold boundsOf; simp only [hhi, intOf?]; rw [if_pos (by omega)]; simp
    | some o1 =>
      simp only at hlo
      cases hi with
      | none => have : b = l.length := by simp only at hhi; omega
                subst this; unfold boundsOf; simp only [hlo, intOf?]; rw [if_pos (by omega)]; simp
      | some o => simp only at hhi; unfold boundsOf; simp only [hlo, hhi, intOf?]; rw [if_pos (by omega)]; simp only; rw [if_pos (by omega)]; simp
  have hl : ((l.drop a).take (b - a)).length = b - a := by simp; omega
  refine ⟨(if (none : Option Opd).isSome ∧ l.length = b then .exact else if (none : Option Opd).isNone ∧ a = 0 ∧ b = l.length then own else .any, (l.drop a).take (b - a)), fun s => ?_, by simp only [hl]; omega, fun x hx => List.mem_of_mem_drop (List.mem_of_mem_take hx)⟩
  simp only [evOp, hx]
  rw [if_pos (enc_len hs l), hb]
  simp only
  rw [enc_drop hs, enc_take hs, hl]
end

section
variable {P : Program} {N : Nat} {lf : List AV} {st : St} {s0 : Base} {Q : Jmp → (Nat → AV) → St → Prop} {bb : CC} {m : List Cell} {t : List (Own × Nat)} {d : Option Nat} {r : List GOp}

theorem wr_appendX {τ : Type} {enc : τ → List AV} {sz bytes : Nat} {z : List AV} {x y : Opd} (hs : ∀ x, (enc x).length = sz) (h1 : ∀ x, (enc x).all AV.one = true) (H : SP s0 m t st) (hm : m.all (fun c => noArr c.o) = true) (j : Nat) (own : Own) (hj : t[j]? = some (own, sz)) (l l2 : List τ)
    (hx : x.ev (L lf) = .list own (l.flatMap enc) l.length) (own' : Own) (hy : y.ev (L lf) = .list own' (l2.flatMap enc) l2.length) (hx0 : own = .exact → l = []) (hb : ((l.length : Int) + (l2.length : Int)) * bytes ≤ 17592186044416) (hz : z.length = sz) (hd : dok lf d = true)
    (kk : ∀ own2 (l' : List τ) st', (l'.length : Int) = l.length + l2.length → l' = l ++ l2 → (own2 = .exact → l' = []) → SP s0 m (t.set j (own2, sz)) st' → RO P N r bb (stx lf d (.list own2 (l'.flatMap enc) l'.length)) st' Q) : RO P N (⟨d, none, .append sz bytes z x y⟩ :: r) bb lf st Q := by
  refine wr_appende hs h1 H hm j own hj l l2 hx own' hy ?_ hz hd fun own2 st' ho h => kk own2 (l ++ l2) st' (by simp) rfl (fun e => by obtain ⟨e1, e2⟩ := ho e; rw [hx0 e1, e2]; rfl) h
  have : (((l.length + l2.length) * bytes : Nat) : Int) ≤ 17592186044416 := by rw [Int.natCast_mul, Int.natCast_add]; exact hb
  generalize (l.length + l2.length) * bytes = q at this ⊢
  omega
end

/-! ### what a call changes -/
/-- All is as it was, but for some objects, which are now so. -/
structure Eff (l : List (Nat × AObj)) (st st' : St) : Prop where
  next : st.next ≤ st'.next
  get : ∀ a, a < st.next → (∀ p ∈ l, p.1 ≠ a) → st'.get a = st.get a
  now : ∀ p ∈ l, st'.get p.1 = some p.2

theorem Eff.ext {st st' : St} (h : Eff [] st st') : Ext st st' := ⟨h.next, fun a ha => h.get a ha (by simp)⟩

/-- One changed cell. -/
theorem SP.eff1 {s0 : Base} {st st' : St} {m : List Cell} {t : List (Own × Nat)} (h : SP s0 m t st) (j : Nat) {c : Cell} (hj : m[j]? = some c) (hc : noArr c.o = true) (o : AObj) (e : Eff [(c.a, o)] st st') : SP s0 (putC m j o) t st' :=
  h.turn j hj hc o e.next (e.now _ (List.mem_cons_self ..)) fun a ha hne => e.get a ha fun p hp => by simp at hp; subst hp; exact Ne.symm hne

theorem SP.eff {s0 st : St} {m : List Cell} {t : List (Own × Nat)} (h : SP s0 m t st) (l : List (Nat × AObj)) (h0 : ∀ c ∈ m, c.new = false → (c.a, c.o) ∈ l ∨ s0.get c.a = some c.o) (hl : ∀ p ∈ l, ∃ c ∈ m, c.a = p.1 ∧ c.o = p.2 ) : Eff l s0 st := by
  refine ⟨h.next, fun a ha hp => ?_, fun p hp => ?_⟩
  · by_cases hx : ∃ c ∈ m, c.new = false ∧ c.a = a
    · obtain ⟨c, hc, hn, rfl⟩ := hx
      rcases h0 c hc hn with hm | hg
      · exact absurd rfl (hp _ hm)
      · rw [h.facts c hc, hg]
    · exact h.old a ha trivial fun c hc hn e => hx ⟨c, hc, hn, e⟩
  · obtain ⟨c, hc, e1, e2⟩ := hl p hp
    rw [← e1, ← e2]; exact h.facts c hc
end Go.EF
