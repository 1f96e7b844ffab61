/- Bits that are set one by one: a count of those that are not. No conditions. -/
import Derived.Test.YtbekogkbdmaobaaEf26
namespace Go.EF
open Go Go.RowKit

theorem bitOf (a : Int) (j : Nat) : (BitVec.ofInt 64 a).getLsbD j = (decide (j < 64) && decide (a / 2 ^ j % 2 = 1)) := by
  by_cases hj : j < 64
  · simp only [hj, decide_true, Bool.true_and]
    have h1 : (BitVec.ofInt 64 a).toNat = (a % 18446744073709551616).toNat := by
      have := BitVec.toNat_ofInt (n := 64) (i := a); simp
    rw [BitVec.getLsbD, h1, Nat.testBit_eq_decide_div_mod_eq, decide_eq_decide]
    have hr : 0 ≤ a % 18446744073709551616 := Int.emod_nonneg _ (by decide)
    obtain ⟨r, hr⟩ := Int.eq_ofNat_of_zero_le hr
    rw [hr, Int.toNat_natCast]
    have ha : a = 18446744073709551616 * (a / 18446744073709551616) + r := by
      have := Int.mul_ediv_add_emod a 18446744073709551616; omega
    generalize a / 18446744073709551616 = q at ha
    have e64 : (18446744073709551616 : Int) = 2 ^ j * (2 * 2 ^ (63 - j)) := by
      have : (2 : Int) ^ j * (2 * 2 ^ (63 - j)) = 2 ^ (j + (1 + (63 - j))) := by rw [Int.pow_add, Int.pow_add]; simp
      rw [this, show j + (1 + (63 - j)) = 64 from by omega]; decide
    have hp : (2 : Int) ^ j ≠ 0 := Int.ne_of_gt (Int.pow_pos (by decide))
    have hd : a / 2 ^ j = 2 * (2 ^ (63 - j) * q) + r / 2 ^ j := by
      rw [ha, e64, Int.mul_assoc, Int.add_comm, Int.add_mul_ediv_left _ _ hp, Int.add_comm, Int.mul_assoc]
    rw [hd]
    have hc : ((r : Int) / 2 ^ j) = ((r / 2 ^ j : Nat) : Int) := by rw [Int.natCast_ediv]; simp
    rw [hc]
    generalize r / 2 ^ j = u
    generalize (2 : Int) ^ (63 - j) * q = v
    omega
  · rw [BitVec.getLsbD_of_ge _ _ (by omega)]; simp [hj]

theorem ofInt_wrap (n : Int) : BitVec.ofInt 64 (IntKind.i64.wrap n) = BitVec.ofInt 64 n := by
  apply BitVec.eq_of_toInt_eq
  rw [BitVec.toInt_ofInt, BitVec.toInt_ofInt, IntKind.wrap_i64]
  simp only [Int.bmod]
  have e : ((2 ^ 64 : Nat) : Int) = 18446744073709551616 := by decide
  rw [e]
  omega

def IsShr (a b n : Int) : Prop := n = a.fdiv (2 ^ (min b.toNat 64))
def IsBit (op : BinOp) (a b n : Int) : Prop := n = bitsI .i64 op a b
def IsShl (a b n : Int) : Prop := n = IntKind.i64.wrap (a * 2 ^ (min b.toNat 64))

section
variable {P : Program} {ty : TypeId}
theorem bxe_shr (a b : Int) (h : 0 ≤ b) : ∃ n : Int, binV P .shr ty (.int a) (.int b) = some (.int n) ∧ IsShr a b n := ⟨_, bin_shr _ _ _ _ _ h, rfl⟩
theorem bxe_shl (a b : Int) (h : 0 ≤ b) : ∃ n : Int, binV P .shl ty (.int a) (.int b) = some (.int n) ∧ IsShl a b n := ⟨_, bin_shl _ _ _ _ _ h, rfl⟩
theorem bxe_and (a b : Int) : ∃ n : Int, binV P .and ty (.int a) (.int b) = some (.int n) ∧ IsBit .and a b n := ⟨_, bin_and _ _ _ _ _, rfl⟩
theorem bxe_or (a b : Int) : ∃ n : Int, binV P .or ty (.int a) (.int b) = some (.int n) ∧ IsBit .or a b n := ⟨_, bin_or _ _ _ _ _, rfl⟩
theorem IsShl.rng {a b n : Int} (h : IsShl a b n) : I64 n := by rw [h]; exact wrap_rng _
theorem IsBit.rng {op : BinOp} {a b n : Int} (h : IsBit op a b n) : I64 n := by rw [h]; exact wrap_rng _
end

/-- How many of the bits are not set. -/
def M64 (a : Int) : Nat := (List.range 64).countP fun j => !(BitVec.ofInt 64 a).getLsbD j

theorem countP_lt {τ : Type} {p q : τ → Bool} : ∀ (l : List τ), (∀ x ∈ l, p x = true → q x = true) → (∃ x ∈ l, q x = true ∧ p x = false) → l.countP p < l.countP q
  | [], _, ⟨x, hx, _⟩ => by simp at hx
  | y :: l, h, ⟨x, hx, h1, h2⟩ => by
    have hm := List.countP_mono_left (l := l) (p := p) (q := q) fun x hx => h x (List.mem_cons_of_mem _ hx)
    rw [List.countP_cons, List.countP_cons]
    rcases List.mem_cons.1 hx with rfl | hx
    · simp [h1, h2]; omega
    · have := countP_lt l (fun x hx => h x (List.mem_cons_of_mem _ hx)) ⟨x, hx, h1, h2⟩
      have hy := h y (List.mem_cons_self ..)
      by_cases hp : p y = true
      · simp [hp, hy hp]; omega
      · simp [hp]; omega

theorem bits_or {a b n : Int} (h : IsBit .or a b n) : BitVec.ofInt 64 n = BitVec.ofInt 64 a ||| BitVec.ofInt 64 b := by
  rw [h, bitsI, ofInt_wrap]
  show BitVec.ofInt 64 (((BitVec.ofInt 64 a ||| BitVec.ofInt 64 b).toNat : Nat) : Int) = _
  rw [BitVec.ofInt_natCast, BitVec.ofNat_toNat, BitVec.setWidth_eq]

theorem bits_shl1 {t n : Int} (ht : 0 ≤ t ∧ t < 64) (h : IsShl 1 t n) (j : Nat) : (BitVec.ofInt 64 n).getLsbD j = decide (j = t.toNat) := by
  rw [h, ofInt_wrap, Int.one_mul, Nat.min_eq_left (by omega)]
  have e : (2 : Int) ^ t.toNat = ((2 ^ t.toNat : Nat) : Int) := by simp
  rw [e, BitVec.ofInt_natCast, BitVec.getLsbD_ofNat, Nat.testBit_two_pow]
  by_cases hj : j = t.toNat
  · simp [hj]; omega
  · simp [hj]; omega

/-- A bit that is not set is set. -/
theorem bits_grow {a t n1 n2 n3 n4 : Int} (ht : 0 ≤ t ∧ t < 64) (h1 : IsShr a t n1) (h2 : IsBit .and n1 1 n2) (h : n2 ≠ 1) (h3 : IsShl 1 t n3) (h4 : IsBit .or a n3 n4) : M64 n4 < M64 a := by
  have b4 := bits_or h4
  have b3 := bits_shl1 ht h3
  have hA : (BitVec.ofInt 64 a).getLsbD t.toNat = false := by
    rw [Bool.eq_false_iff]
    intro hb
    apply h
    have hx : (BitVec.ofInt 64 n1).getLsbD 0 = true := by
      rw [bitOf] at hb ⊢
      simp only [Bool.and_eq_true, decide_eq_true_eq] at hb ⊢
      refine ⟨by decide, ?_⟩
      rw [h1, Nat.min_eq_left (by omega), Int.fdiv_eq_ediv_of_nonneg _ (Int.le_of_lt (Int.pow_pos (by decide)))]
      simpa using hb.2
    have hand : BitVec.ofInt 64 n1 &&& BitVec.ofInt 64 1 = 1#64 := by
      apply BitVec.eq_of_getLsbD_eq
      intro i hi
      rw [BitVec.getLsbD_and]
      have e1 : BitVec.ofInt 64 1 = 1#64 := by decide
      rw [e1, BitVec.getLsbD_one]
      by_cases hi0 : i = 0
      · subst hi0; simp [hx]
      · simp [hi0]
    rw [h2, bitsI]
    show IntKind.i64.wrap (((BitVec.ofInt 64 n1 &&& BitVec.ofInt 64 1).toNat : Nat) : Int) = 1
    rw [hand]; decide
  unfold M64
  refine countP_lt _ (fun j hj hp => ?_) ⟨t.toNat, List.mem_range.2 (by omega), by simp [hA], ?_⟩
  · rw [b4, BitVec.getLsbD_or] at hp
    simp only [Bool.not_eq_true', Bool.or_eq_false_iff] at hp ⊢
    exact hp.1
  · rw [b4, BitVec.getLsbD_or, b3]; simp
end Go.EF
