/- Lemmas for stepping through resolved code. No conditions. -/
import Derived.Test.YtbekogkbdmaobaaEf14
namespace Go.EF
open Go Go.RowKit

section
variable {P : Program} {N : Nat} {fr : Nat → AV} {st : St} {Q : Jmp → (Nat → AV) → St → Prop}

theorem wc_assoc {a b c : CC} (h : wc P N (.seq a (.seq b c)) fr st Q) : wc P N (.seq (.seq a b) c) fr st Q := by
  simp only [wc] at h ⊢
  refine wc_loop.wc_mono a _ _ _ _ h fun x fr' st' h' => ?_
  by_cases hx : x = .normal
  · subst hx; simpa using h'
  · simp only [if_neg hx] at h' ⊢; exact h'

theorem wc_skip_seq {b : CC} (h : wc P N b fr st Q) : wc P N (.seq .skip b) fr st Q := by simpa [wc] using h
theorem wc_exit_seq {id : Nat} {b : CC} (h : Q (.exit id) fr st) : wc P N (.seq (.exit id) b) fr st Q := by simpa [wc] using h
theorem wc_ret_seq {b : CC} (h : Q .ret fr st) : wc P N (.seq .ret b) fr st Q := by simpa [wc] using h
theorem wc_cond_seq {c : Opd} {x y b : CC} (t : Bool) (hc : c.ev fr = .bool t) (h1 : t = true → wc P N (.seq x b) fr st Q) (h2 : t = false → wc P N (.seq y b) fr st Q) : wc P N (.seq (.cond c x y) b) fr st Q := by
  simp only [wc, hc] at h1 h2 ⊢
  cases t
  · exact h2 rfl
  · exact h1 rfl
/-- A block, then the rest: what its ways out lead to. -/
theorem wc_block_seq {id : Nat} {c b : CC} (h : wc P N c fr st fun x fr' st' => if x = .exit id ∨ x = .normal then wc P N b fr' st' Q else Q x fr' st') : wc P N (.seq (.block id c) b) fr st Q := by
  simp only [wc]
  refine wc_loop.wc_mono c _ _ _ _ h fun x fr' st' h' => ?_
  by_cases hx : x = .exit id
  · simpa [hx] using h'
  · by_cases hn : x = .normal
    · subst hn; simpa using h'
    · simpa [hx, hn] using h'
/-- A loop that is the whole of a block, then the rest. -/
theorem wc_blockloop_seq {id : Nat} {c b : CC} {σ : Type} (I : σ → (Nat → AV) → St → Prop) (μ : σ → Nat) (s : σ) (h0 : I s fr st)
    (round : ∀ s fr st, I s fr st → ∀ Q' : Jmp → (Nat → AV) → St → Prop, (∀ fr st, (∃ s', I s' fr st ∧ μ s' < μ s) → Q' .normal fr st) → (∀ fr st, wc P N b fr st Q → Q' (.exit id) fr st) →
      (∀ x fr st, x ≠ .normal → x ≠ .exit id → Q x fr st → Q' x fr st) → wc P N c fr st Q') : wc P N (.seq (.block id (.loop c)) b) fr st Q := by
  refine wc_block_seq (wc_loop I μ s h0 fun s fr st hI => round s fr st hI _ ?_ ?_ ?_)
  · intro fr st h; simpa using h
  · intro fr st h; simpa using h
  · intro x fr st h1 h2 h; simpa [h1, h2] using h
end

/-! ### operations, one lemma each (for simp) -/
section
variable {P : Program} {fr : Nat → AV} {st : St} {K : AV → St → Prop} {KK : (Nat → AV) → St → Prop}

end

section bins
variable (P : Program) (t : TypeId) (k : IntKind) (a b : Int)
theorem bin_add : binV P .add t (.v (.int k a)) (.v (.int k b)) = some (.v (.int k (k.wrap (a + b)))) := by simp [binV, AV.toV, eqGuard, binOp, Op.intArith, evSem, bind, Sem.bind, pure]
theorem bin_sub : binV P .sub t (.v (.int k a)) (.v (.int k b)) = some (.v (.int k (k.wrap (a - b)))) := by simp [binV, AV.toV, eqGuard, binOp, Op.intArith, evSem, bind, Sem.bind, pure]
def bitsI (k : IntKind) (op : BinOp) (a b : Int) : Int :=
  k.wrap (match op with
    | .and => (BitVec.ofInt k.bits a &&& BitVec.ofInt k.bits b).toNat
    | .or => (BitVec.ofInt k.bits a ||| BitVec.ofInt k.bits b).toNat
    | .xor => (BitVec.ofInt k.bits a ^^^ BitVec.ofInt k.bits b).toNat
    | _ => (BitVec.ofInt k.bits a &&& ~~~ BitVec.ofInt k.bits b).toNat)
theorem bin_and : binV P .and t (.v (.int k a)) (.v (.int k b)) = some (.v (.int k (bitsI k .and a b))) := by simp [binV, AV.toV, eqGuard, binOp, Op.intBits, evSem, bind, Sem.bind, pure, bitsI]
theorem bin_or : binV P .or t (.v (.int k a)) (.v (.int k b)) = some (.v (.int k (bitsI k .or a b))) := by simp [binV, AV.toV, eqGuard, binOp, Op.intBits, evSem, bind, Sem.bind, pure, bitsI]
theorem bin_andNot : binV P .andNot t (.v (.int k a)) (.v (.int k b)) = some (.v (.int k (bitsI k .andNot a b))) := by simp [binV, AV.toV, eqGuard, binOp, Op.intBits, evSem, bind, Sem.bind, pure, bitsI]
theorem bin_shl {j : IntKind} (h : 0 ≤ b) : binV P .shl t (.v (.int k a)) (.v (.int j b)) = some (.v (.int k (k.wrap (a * 2 ^ (min b.toNat k.bits))))) := by
  have h' : ¬ b < 0 := by omega
  simp [binV, AV.toV, eqGuard, binOp, Op.shift, evSem, bind, Sem.bind, pure, h']
theorem bin_shr {j : IntKind} (h : 0 ≤ b) : binV P .shr t (.v (.int k a)) (.v (.int j b)) = some (.v (.int k (a.fdiv (2 ^ (min b.toNat k.bits))))) := by
  have h' : ¬ b < 0 := by omega
  simp [binV, AV.toV, eqGuard, binOp, Op.shift, evSem, bind, Sem.bind, pure, h']
end bins

end Go.EF
