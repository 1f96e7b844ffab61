/- Equality of structs of whole numbers. No conditions. -/
import Derived.Test.YtbekogkbdmaobaaEf28
namespace Go.EF
open Go Go.RowKit

theorem evSem_underlying {P : Program} {t : TypeId} {d : TypeDesc} (h : P.underlying t = some d) : evSem P (underlying t) = some d := by
  have e : underlying t = Sem.program (fun p => match p.underlying t with | some d => pure d | none => stuck "no such type") := rfl
  rw [e]; simp only [evSem, h]; rfl

theorem evSem_program {P : Program} {α : Type} (f : Program → Sem α) : evSem P (program >>= f) = evSem P (f P) := rfl

/-- A loop over a list that looks at no world. -/
theorem evSem_forIn {P : Program} {α β : Type} (f : α → β → Sem (ForInStep β)) (J : β → Prop) : ∀ (l : List α) (b : β), (∀ x ∈ l, ∀ b, J b → ∃ s, evSem P (f x b) = some s ∧ J (match s with | .done c => c | .yield c => c)) → J b → ∃ c, evSem P (forIn l b f) = some c ∧ J c
  | [], b, _, hb => ⟨b, rfl, hb⟩
  | x :: l, b, h, hb => by
    obtain ⟨s, h1, h2⟩ := h x (List.mem_cons_self ..) b hb
    rw [List.forIn_cons, evSem_bind1 _ _ h1]
    cases s with
    | done c => exact ⟨c, rfl, h2⟩
    | yield c => exact evSem_forIn f J l c (fun y hy => h y (List.mem_cons_of_mem _ hy)) h2

def isIntT (P : Program) (t : TypeId) : Bool := match P.underlying t with
  | some (.int .i64) => true
  | _ => false
theorem isIntT_spec {P : Program} {t : TypeId} (h : isIntT P t = true) : P.underlying t = some (.int .i64) := by
  unfold isIntT at h
  split at h
  · assumption
  · cases h

/-- A struct of n whole numbers. -/
def intsT (P : Program) (t : TypeId) (n : Nat) : Bool := match P.underlying t with
  | some (.struct fields) => !P.stoodInHeld t && fields.toList.all fun f => f.name != "_" && isIntT P f.type && decide (f.offset < n)
  | _ => false

def IntV (v : Value) : Prop := ∃ n : Int, v = .int .i64 n

theorem isAgg_int {P : Program} {t : TypeId} (h : P.underlying t = some (.int .i64)) : evSem P (isAgg t) = some false := by
  unfold isAgg
  rw [evSem_bind1 _ _ (evSem_underlying h)]; rfl

theorem part_int {P : Program} {t : TypeId} (h : P.underlying t = some (.int .i64)) {xs : Array Value} {i : Nat} (hi : i < xs.size) (hv : ∀ v ∈ xs.toList, IntV v) : ∃ n : Int, evSem P (part t xs i) = some (.int .i64 n) := by
  obtain ⟨n, hn⟩ := hv xs[i] (by simp)
  refine ⟨n, ?_⟩
  unfold part
  rw [evSem_bind1 _ _ (isAgg_int h)]
  simp only [Bool.false_eq_true, if_false, Array.getElem?_eq_getElem hi, hn]; rfl

theorem equal_int {P : Program} {t : TypeId} (h : P.underlying t = some (.int .i64)) (d : Nat) (a b : Int) : evSem P (Op.equalIn (d + 1) t (.int .i64 a) (.int .i64 b)) = some (a == b) := by
  rw [Op.equalIn, evSem_bind1 _ _ (evSem_underlying h)]; simp [evSem, pure]

theorem equal_ints {P : Program} {t : TypeId} {n : Nat} (h : intsT P t n = true) (d : Nat) {xs ys : Array Value} (hx : xs.size = n) (hy : ys.size = n) (vx : ∀ v ∈ xs.toList, IntV v) (vy : ∀ v ∈ ys.toList, IntV v) : ∃ b, evSem P (Op.equalIn (d + 2) t (.agg xs) (.agg ys)) = some b := by
  unfold intsT at h
  split at h
  · rename_i fields hu
    simp only [Bool.and_eq_true, Bool.not_eq_true', List.all_eq_true] at h
    obtain ⟨hs, hf⟩ := h
    rw [Op.equalIn, evSem_bind1 _ _ (evSem_underlying hu)]
    simp only [evSem_program, hs, Bool.false_eq_true, if_false, ← Array.forIn_toList]
    have step : ∀ f ∈ fields.toList, ∀ b : Option Bool × Unit, True → ∃ s, evSem P ((fun (f : Field) (_ : Option Bool × Unit) => (if f.name ≠ "_" then do
                let a ← part f.type xs f.offset
                let b ← part f.type ys f.offset
                let c ← Op.equalIn (d + 1) f.type a b
                if (!c) = true then pure (ForInStep.done (some false, ())) else pure (ForInStep.yield (none, ()))
              else pure (ForInStep.yield (none, ())) : Sem (ForInStep (Option Bool × Unit)))) f b) = some s ∧ True := by
      intro f hm b _
      have := hf f hm
      simp only [bne_iff_ne, ne_eq, decide_eq_true_eq] at this
      obtain ⟨⟨f1, f2⟩, f3⟩ := this
      have hi := isIntT_spec f2
      obtain ⟨a, ha⟩ := part_int hi (xs := xs) (i := f.offset) (by omega) vx
      obtain ⟨b, hb⟩ := part_int hi (xs := ys) (i := f.offset) (by omega) vy
      simp only [f1, not_false_eq_true, if_true, ne_eq]
      rw [evSem_bind1 _ _ ha, evSem_bind1 _ _ hb, evSem_bind1 _ _ (equal_int hi d a b)]
      cases (a == b) <;> exact ⟨_, rfl, trivial⟩
    obtain ⟨⟨c1, c2⟩, h1, _⟩ := evSem_forIn (P := P) _ (fun _ => True) fields.toList (none, ()) step trivial
    rw [evSem_bind1 _ _ h1]
    cases c1 <;> exact ⟨_, rfl⟩
  · cases h

/-- An array of n whole numbers. -/
def arrT (P : Program) (t : TypeId) (n : Nat) : Bool := match P.underlying t with
  | some (.array len e) => isIntT P e && decide (len ≤ n) && (match P.info? e with | some i => i.size == 1 | none => false)
  | _ => false

theorem evSem_size {P : Program} {t : TypeId} {i : TypeInfo} (h : P.info? t = some i) : evSem P (sizeOf t) = some i.size := by
  unfold sizeOf typeInfo
  simp only [bind, Sem.bind, program, evSem, h, pure]

theorem equal_arr {P : Program} {t : TypeId} {n : Nat} (h : arrT P t n = true) (d : Nat) {xs ys : Array Value} (hx : xs.size = n) (hy : ys.size = n) (vx : ∀ v ∈ xs.toList, IntV v) (vy : ∀ v ∈ ys.toList, IntV v) : ∃ b, evSem P (Op.equalIn (d + 2) t (.agg xs) (.agg ys)) = some b := by
  unfold arrT at h
  split at h
  · rename_i len e hu
    simp only [Bool.and_eq_true, decide_eq_true_eq] at h
    obtain ⟨⟨h1, h2⟩, h3⟩ := h
    split at h3
    · rename_i i hi
      have hi1 : i.size = 1 := by simpa using h3
      have he := isIntT_spec h1
      rw [Op.equalIn, evSem_bind1 _ _ (evSem_underlying hu)]
      simp only
      rw [evSem_bind1 _ _ (evSem_size hi)]
      simp only [hi1, Std.Legacy.Range.forIn_eq_forIn_range', Nat.mul_one]
      have step : ∀ j ∈ List.range' 0 (Std.Legacy.Range.size [0:len]), ∀ b : Option Bool × Unit, True → ∃ s, evSem P ((fun (j : Nat) (_ : Option Bool × Unit) => (do
                  let a ← part e xs j
                  let b ← part e ys j
                  let c ← Op.equalIn (d + 1) e a b
                  if (!c) = true then pure (ForInStep.done (some false, ())) else pure (ForInStep.yield (none, ())) : Sem (ForInStep (Option Bool × Unit)))) j b) = some s ∧ True := by
        intro j hj b _
        have hj : j < len := by simp [Std.Legacy.Range.size] at hj; omega
        obtain ⟨a, ha⟩ := part_int he (xs := xs) (i := j) (by omega) vx
        obtain ⟨b, hb⟩ := part_int he (xs := ys) (i := j) (by omega) vy
        simp only
        rw [evSem_bind1 _ _ ha, evSem_bind1 _ _ hb, evSem_bind1 _ _ (equal_int he d a b)]
        cases (a == b) <;> exact ⟨_, rfl, trivial⟩
      obtain ⟨⟨c1, c2⟩, h4, _⟩ := evSem_forIn (P := P) _ (fun _ => True) _ (none, ()) step trivial
      rw [evSem_bind1 _ _ h4]
      cases c1 <;> exact ⟨_, rfl⟩
    · cases h3
  · cases h

theorem toVs_ints : ∀ (l : List Int), toVs (l.map AV.int) = some (l.map (Value.int .i64))
  | [] => rfl
  | x :: l => by
    have := toVs_ints l
    simp only [List.map_cons, toVs, AV.toV1, this]

theorem bin_eq {P : Program} {t : TypeId} {op : BinOp} (ho : op = .eql ∨ op = .neq) (hg : P.eqGuardType P.depth t = false) {cs ds : List Int} (h : ∃ b, evSem P (Op.equal t (.agg (cs.map (Value.int .i64)).toArray) (.agg (ds.map (Value.int .i64)).toArray)) = some b) :
    ∃ b : Bool, binV P op t (.agg (cs.map AV.int)) (.agg (ds.map AV.int)) = some (.bool b) := by
  obtain ⟨b, h⟩ := h
  simp only [binV, AV.toV, toVs_ints, Option.map_some]
  have guard : ∀ (op : BinOp) (a b : Array Value), evSem P (eqGuard op t (.const .nilIface) (.const .nilIface) (.agg a) (.agg b)) = some () := by
    intro op a b
    unfold eqGuard
    cases op <;> first | rfl | simp [bind, Sem.bind, program, evSem, hg, pure]
  rw [evSem_bind1 _ _ (guard _ _ _)]
  rcases ho with rfl | rfl
  · refine ⟨b, ?_⟩
    simp only [binOp]
    rw [evSem_bind1 _ _ h]; rfl
  · refine ⟨!b, ?_⟩
    simp only [binOp]
    rw [evSem_bind1 _ _ h]; rfl

theorem ints_all (l : List Int) : ∀ v ∈ (l.map (Value.int .i64)).toArray.toList, IntV v := by
  intro v hv
  simp at hv
  obtain ⟨n, _, rfl⟩ := hv
  exact ⟨n, rfl⟩

theorem bin_eq_ints {P : Program} {t : TypeId} {op : BinOp} (ho : op = .eql ∨ op = .neq) (hg : P.eqGuardType P.depth t = false) {cs ds : List Int} (n : Nat) (h : intsT P t n = true) (hc : cs.length = n) (hd : ds.length = n) :
    ∃ b : Bool, binV P op t (.agg (cs.map AV.int)) (.agg (ds.map AV.int)) = some (.bool b) :=
  bin_eq ho hg (equal_ints h (Op.maxDepth - 2) (by simpa using hc) (by simpa using hd) (ints_all cs) (ints_all ds))
theorem bin_eq_arr {P : Program} {t : TypeId} {op : BinOp} (ho : op = .eql ∨ op = .neq) (hg : P.eqGuardType P.depth t = false) {cs ds : List Int} (n : Nat) (h : arrT P t n = true) (hc : cs.length = n) (hd : ds.length = n) :
    ∃ b : Bool, binV P op t (.agg (cs.map AV.int)) (.agg (ds.map AV.int)) = some (.bool b) :=
  bin_eq ho hg (equal_arr h (Op.maxDepth - 2) (by simpa using hc) (by simpa using hd) (ints_all cs) (ints_all ds))

theorem ev_bool {P : Program} {lf : List AV} {ty : TypeId} {x y : Opd} {op : BinOp} (a b : AV) (hx : x.ev (L lf) = a) (hy : y.ev (L lf) = b) (h : ∃ c : Bool, binV P op ty a b = some (.bool c)) : ∃ c : Bool, (∀ s, evOp P (·.ev (L lf)) s (.bin op ty x y) = some (.bool c, s)) ∧ True := by
  obtain ⟨n, h1⟩ := h
  exact ⟨n, fun s => by simp only [evOp, hx, hy, h1], trivial⟩
end Go.EF
