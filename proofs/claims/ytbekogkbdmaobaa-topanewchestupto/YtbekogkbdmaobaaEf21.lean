/- Steps that look at the state, over literal frames and one hypothesis on the state. No conditions. -/
import Derived.Test.YtbekogkbdmaobaaEf20
import Derived.Laws.BitsLemmas
namespace Go.EF
open Go Go.RowKit

section
variable {P : Program} {lf : List AV} {st : St} {s0 : Base} {N : Nat} {Q : Jmp → (Nat → AV) → St → Prop} {bb : CC} {m : List Cell} {t : List (Own × Nat)} {d : Option Nat} {r : List GOp}

theorem wr_bin {op : BinOp} {ty : TypeId} {x y : Opd} (a b z : AV) (hx : x.ev (L lf) = a) (hy : y.ev (L lf) = b) (h : binV P op ty a b = some z) (hd : dok lf d = true) (k : RO P N r bb (stx lf d z) st Q) : RO P N (⟨d, none, .bin op ty x y⟩ :: r) bb lf st Q :=
  wr_op z (by simp only [evOp, hx, hy, h]) rfl hd k

theorem wr_alloc {z : List AV} (H : SP s0 m t st) (hd : dok lf d = true) (k : ∀ a st', SP s0 (⟨a, .cells z, true⟩ :: m) t st' → RO P N r bb (stx lf d (.ptr a 0)) st' Q) : RO P N (⟨d, none, .alloc z⟩ :: r) bb lf st Q :=
  wr_op (.ptr st.next 0) rfl rfl hd (k _ _ (H.alloc _))

theorem wr_box {x : Opd} (v : AV) (hx : x.ev (L lf) = v) (cs : List AV) (hv : v.boxable = true) (hc : v.cells = cs) (H : SP s0 m t st) (hd : dok lf d = true) (k : ∀ a st', SP s0 (⟨a, .cells cs, true⟩ :: m) t st' → RO P N r bb (stx lf d (.ptr a 0)) st' Q) : RO P N (⟨d, none, .box x⟩ :: r) bb lf st Q :=
  wr_op (.ptr st.next 0) (by simp only [evOp, hx, hv, hc, if_true]) rfl hd (k _ _ (H.alloc _))

theorem wr_mkmap (H : SP s0 m t st) (hd : dok lf d = true) (k : ∀ a st', SP s0 (⟨a, .map [] 0, true⟩ :: m) t st' → RO P N r bb (stx lf d (.map a)) st' Q) : RO P N (⟨d, none, .mkmap⟩ :: r) bb lf st Q :=
  wr_op (.map st.next) rfl rfl hd (k _ _ (H.alloc _))

theorem wr_mkslice {z : List AV} {sz bytes : Nat} {l c : Opd} (i j : Int) (hl : l.ev (L lf) = .int i) (hc : c.ev (L lf) = .int j) (h0 : 0 ≤ i) (h1 : i ≤ j) (h2 : (bytes : Int) * j ≤ 2 ^ 47) (H : SP s0 m t st) (hd : dok lf d = true)
    (k : ∀ a st', SP s0 (⟨a, .cells (rep z j.toNat), true⟩ :: m) t st' → RO P N r bb (stx lf d (.ms a 0 i.toNat j.toNat)) st' Q) : RO P N (⟨d, none, .mkslice z sz bytes l c⟩ :: r) bb lf st Q :=
  wr_op (.ms st.next 0 i.toNat j.toNat) (by simp only [evOp, hl, hc, intOf?]; rw [if_pos ⟨h0, h1, h2⟩]) rfl hd (k _ _ (H.alloc _))

/-- A load from a listed object. -/
theorem wr_load {g : Bool} {sz : Nat} {p : Opd} (H : SP s0 m t st) (j : Nat) (a off : Nat) (cs : List AV) (nw : Bool) (hj : m[j]? = some ⟨a, .cells cs, nw⟩) (hp : p.ev (L lf) = .ptr a off) (x : AV) (hx : getCells cs g sz off = some x) (hd : dok lf d = true) (k : RO P N r bb (stx lf d x) st Q) :
    RO P N (⟨d, none, .load g sz p⟩ :: r) bb lf st Q :=
  wr_op x (by have := H.facts _ (List.mem_of_getElem? hj); simp only at this; simp only [evOp, hp, loadS, this, hx]) rfl hd k

/-- A load from frozen cells. -/
theorem wr_loadl {g : Bool} {sz : Nat} {p : Opd} (cs : List AV) (off : Nat) (hp : p.ev (L lf) = .lptr cs off) (x : AV) (hx : getCells cs g sz off = some x) (hd : dok lf d = true) (k : RO P N r bb (stx lf d x) st Q) :
    RO P N (⟨d, none, .load g sz p⟩ :: r) bb lf st Q :=
  wr_op x (by simp only [evOp, hp, loadS, hx]) rfl hd k

theorem wr_store {sz : Nat} {p x : Opd} (H : SP s0 m t st) (j : Nat) (a off : Nat) (cs : List AV) (nw : Bool) (hj : m[j]? = some ⟨a, .cells cs, nw⟩) (hp : p.ev (L lf) = .ptr a off) (v : AV) (hv : x.ev (L lf) = v) (cs' : List AV) (h1 : v.boxable = true) (h2 : v.cells.all AV.one = true)
    (h3 : v.cells.length = sz) (h4 : off + sz ≤ cs.length) (h5 : splice cs off v.cells = cs') (hd : dok lf d = true) (k : ∀ st', SP s0 (putC m j (.cells cs')) t st' → RO P N r bb (stx lf d .junk) st' Q) :
    RO P N (⟨d, none, .store sz p x⟩ :: r) bb lf st Q := by
  have hf := H.facts _ (List.mem_of_getElem? hj)
  simp only at hf
  refine wr_op .junk (st' := st.set a (.cells cs')) ?_ rfl hd (k _ (H.set j hj rfl _))
  simp only [evOp, hp, hv, storeS, hf]
  rw [if_pos ⟨h1, h2, h3, h4⟩, h5]

theorem wr_iaddr {sz : Nat} {x i : Opd} (own : Own) (cs : List AV) (n : Nat) (hx : x.ev (L lf) = .list own cs n) (ix : Int) (hi : i.ev (L lf) = .int ix) (h : 0 ≤ ix ∧ ix < n) (hc : cs.length = n * sz) (hd : dok lf d = true) (k : RO P N r bb (stx lf d (.lptr cs (ix.toNat * sz))) st Q) :
    RO P N (⟨d, none, .iaddr sz x i⟩ :: r) bb lf st Q :=
  wr_op (.lptr cs (ix.toNat * sz)) (by simp only [evOp, hx, hi, intOf?]; rw [if_pos ⟨h, hc⟩]) rfl hd k

theorem wr_iaddrm {sz : Nat} {x i : Opd} (a off len cap : Nat) (hx : x.ev (L lf) = .ms a off len cap) (ix : Int) (hi : i.ev (L lf) = .int ix) (h : 0 ≤ ix ∧ ix < len) (hd : dok lf d = true) (k : RO P N r bb (stx lf d (.ptr a (off + ix.toNat * sz))) st Q) :
    RO P N (⟨d, none, .iaddr sz x i⟩ :: r) bb lf st Q :=
  wr_op (.ptr a (off + ix.toNat * sz)) (by simp only [evOp, hx, hi, intOf?]; rw [if_pos h]) rfl hd k

theorem wr_iaddra {n sz : Nat} {x i : Opd} (a off : Nat) (hx : x.ev (L lf) = .ptr a off) (ix : Int) (hi : i.ev (L lf) = .int ix) (h : 0 ≤ ix ∧ ix < n) (hd : dok lf d = true) (k : RO P N r bb (stx lf d (.ptr a (off + ix.toNat * sz))) st Q) :
    RO P N (⟨d, none, .iaddrarr n sz x i⟩ :: r) bb lf st Q :=
  wr_op (.ptr a (off + ix.toNat * sz)) (by simp only [evOp, hx, hi, intOf?]; rw [if_pos h]) rfl hd k

/-- A list that grows is appended to. -/
theorem wr_append {sz bytes : Nat} {z : List AV} {x y : Opd} (H : SP s0 m t st) (hm : m.all (fun c => noArr c.o) = true) (j : Nat) (own : Own) (hj : t[j]? = some (own, sz)) (cs : List AV) (n : Nat) (hx : x.ev (L lf) = .list own cs n) (own' : Own) (ys : List AV) (k : Nat) (hy : y.ev (L lf) = .list own' ys k)
    (hl : cs.length = n * sz) (hk : ys.length = k * sz) (hone : ys.all AV.one = true) (hb : (n + k) * bytes ≤ 2 ^ 44) (hz : z.length = sz) (hd : dok lf d = true)
    (kk : ∀ own2 st', (own2 = .exact → own = .exact ∧ k = 0) → SP s0 m (t.set j (own2, sz)) st' → RO P N r bb (stx lf d (.list own2 (cs ++ ys) (n + k))) st' Q) : RO P N (⟨d, none, .append sz bytes z x y⟩ :: r) bb lf st Q := by
  have hg := H.toks _ (List.mem_of_getElem? hj)
  have hsrc : srcCells st sz (y.ev (L lf)) = some (ys, k) := by rw [hy]; simp [srcCells, hk]
  have noM : ∀ a s l, st.get a = some (.arr l s) → ∀ x ∈ m, x.a ≠ a := fun a s l hg x hx e => by
    have h1 := H.facts x hx
    rw [e, hg] at h1
    have h2 := List.all_eq_true.1 hm x hx
    rw [← Option.some.inj h1] at h2; cases h2
  have setT : ∀ (own2 : Own) (st' : St), (∀ a s, (s0.st.next ≤ a ∨ ¬ s0.pr a) → st.get a = some (.arr true s) → own ≠ .tok a → st'.get a = some (.arr true s)) → Grown s0 st' (own2, sz) → (∀ a, own2 = .tok a → st.next ≤ a) → (∀ x ∈ t.set j (own2, sz), Grown s0 st' x) ∧ (t.set j (own2, sz)).Pairwise apart := by
    intro own2 st' h1 h2 h3
    have hp := List.pairwise_iff_getElem.1 H.apart
    obtain ⟨hjl, hje⟩ := List.getElem?_eq_some_iff.1 hj
    have key : ∀ i (hi : i < t.length), i ≠ j → Grown s0 st' t[i] := fun i hi hne => by
      have g := H.toks t[i] (List.getElem_mem hi)
      have ap : ∀ a, t[i].1 = .tok a → own ≠ .tok a := fun a e => by
        rcases Nat.lt_or_gt_of_ne hne with hlt | hgt
        · have := hp i j hi hjl hlt a e; rw [hje] at this; exact this
        · intro e2
          have := hp j i hjl hi hgt a (by rw [hje]; exact e2)
          exact this e
      cases hti : t[i] with
      | mk o s =>
        rw [hti] at g ap
        cases o with
        | any => exact g
        | exact => trivial
        | tok a => exact ⟨g.1, h1 a s g.1 g.2 (ap a rfl)⟩
    refine ⟨fun x hx => ?_, ?_⟩
    · obtain ⟨i, hi⟩ := List.getElem?_of_mem hx
      rw [List.getElem?_set] at hi
      by_cases hij : j = i
      · rw [if_pos hij, if_pos hjl] at hi; cases hi; exact h2
      · rw [if_neg hij] at hi
        obtain ⟨q1, q2⟩ := List.getElem?_eq_some_iff.1 hi
        rw [← q2]; exact key i q1 (Ne.symm hij)
    · rw [List.pairwise_iff_getElem]
      intro i1 i2 hi1 hi2 hlt a e
      simp only [List.length_set] at hi1 hi2
      rw [List.getElem_set] at e ⊢
      have small : ∀ i (hi : i < t.length), t[i].1 = .tok a → a < st.next := fun i hi e => by
        have g := H.toks t[i] (List.getElem_mem hi)
        cases hti : t[i] with
        | mk o s => rw [hti] at g e; simp only at e; subst e; exact St.lt_of_get g.2
      by_cases h1' : j = i1
      · rw [if_pos h1'] at e
        have h2' : j ≠ i2 := by omega
        rw [if_neg h2']
        intro e2
        have := small i2 hi2 e2; have := h3 a e; omega
      · rw [if_neg h1'] at e
        by_cases h2' : j = i2
        · rw [if_pos h2']
          intro e2
          have := small i1 hi1 e; have := h3 a e2; omega
        · rw [if_neg h2']; exact hp i1 i2 hi1 hi2 hlt a e
  by_cases hk0 : k = 0
  · subst hk0
    have : ys = [] := List.length_eq_zero_iff.1 (by simpa using hk)
    subst this
    refine wr_op (.list own (cs ++ []) (n + 0)) (st' := st) ?_ rfl hd (kk own st (fun e => ⟨e, rfl⟩) ?_)
    · simp only [evOp, hsrc, hx]; simp
    · have : t.set j (own, sz) = t := by
        obtain ⟨q1, q2⟩ := List.getElem?_eq_some_iff.1 hj
        rw [← q2]; simp
      rw [this]; exact H
  · cases own with
    | any => exact hg.elim
    | exact =>
      refine wr_op (.list (.tok st.next) (cs ++ ys) (n + k)) (st' := st.alloc (.arr true sz)) ?_ rfl hd (kk _ _ (fun e => nomatch e) ?_)
      · simp only [evOp, hsrc, hx, hone, if_true, hk0, if_false]; rw [if_pos ⟨hl, hb, hz⟩]
      · have A := H.alloc (.arr true sz)
        obtain ⟨u1, u2⟩ := setT (.tok st.next) (st.alloc (.arr true sz)) (fun a s _ g _ => by rw [St.get_alloc_old _ _ (St.lt_of_get g)]; exact g) ⟨Or.inl H.next, St.get_alloc_new _ _⟩ (fun a e => by cases e; exact Nat.le_refl _)
        exact ⟨A.next, fun a ha hp hx => A.old a ha hp fun x hx' => (List.mem_cons.1 hx').elim (fun e hf => by subst e; cases hf) (hx x), fun x hx => A.facts x (List.mem_cons_of_mem _ hx), H.isnew, H.nodup, u1, u2⟩
    | tok a =>
      obtain ⟨ha, hlive⟩ := hg
      refine wr_op (.list (.tok st.next) (cs ++ ys) (n + k)) (st' := (st.set a (.arr false sz)).alloc (.arr true sz)) ?_ rfl hd (kk _ _ (fun e => nomatch e) ?_)
      · simp only [evOp, hsrc, hx, hone, if_true, hk0, if_false]; rw [if_pos ⟨hl, hb, hz⟩]; simp only [hlive, if_true]
      · have hne := noM a sz true hlive
        have hlt := St.lt_of_get hlive
        have g1 : ∀ b, b < st.next → b ≠ a → ((st.set a (.arr false sz)).alloc (.arr true sz)).get b = st.get b := fun b hb hba => by rw [St.get_alloc_old _ _ (by rw [St.next_set]; exact hb), St.get_set_ne _ _ (Ne.symm hba)]
        have g2 : ((st.set a (.arr false sz)).alloc (.arr true sz)).get st.next = some (.arr true sz) := by have := St.get_alloc_new (st.set a (.arr false sz)) (.arr true sz); rwa [St.next_set] at this
        obtain ⟨u1, u2⟩ := setT (.tok st.next) ((st.set a (.arr false sz)).alloc (.arr true sz)) (fun b s _ g hnb => by rw [g1 b (St.lt_of_get g) (fun e => hnb (by rw [e]))]; exact g) ⟨Or.inl H.next, g2⟩ (fun a e => by cases e; exact Nat.le_refl _)
        refine ⟨by rw [St.next_alloc, St.next_set]; have := H.next; omega, fun b hb hp hx => ?_, fun x hx => ?_, H.isnew, H.nodup, u1, u2⟩
        · rw [g1 b (Nat.lt_of_lt_of_le hb H.next) (fun e => ha.elim (fun h => by omega) (fun h => h (e ▸ hp)))]; exact H.old b hb hp hx
        · rw [g1 x.a (St.lt_of_get (H.facts x hx)) (hne x hx)]; exact H.facts x hx
end

/-! ### numbers -/
section
variable {P : Program} {ty : TypeId}
theorem wrap64 {n : Int} (h : -2 ^ 63 ≤ n ∧ n < 2 ^ 63) : IntKind.i64.wrap n = n := by
  rw [IntKind.wrap_i64]; omega
theorem add64 {a b : Int} (h : -2 ^ 63 ≤ a + b ∧ a + b < 2 ^ 63) : binV P .add ty (.int a) (.int b) = some (.int (a + b)) := by rw [bin_add, wrap64 h]
theorem sub64 {a b : Int} (h : -2 ^ 63 ≤ a - b ∧ a - b < 2 ^ 63) : binV P .sub ty (.int a) (.int b) = some (.int (a - b)) := by rw [bin_sub, wrap64 h]
end

/-! ### lists of records -/
section
variable {τ : Type} {enc : τ → List AV} {sz : Nat}
theorem enc_len (h : ∀ x, (enc x).length = sz) : ∀ l : List τ, (l.flatMap enc).length = l.length * sz
  | [] => by simp
  | x :: l => by rw [List.flatMap_cons, List.length_append, h, enc_len h l, List.length_cons, Nat.add_mul]; omega
theorem enc_drop (h : ∀ x, (enc x).length = sz) : ∀ (l : List τ) (i : Nat), (l.flatMap enc).drop (i * sz) = (l.drop i).flatMap enc
  | l, 0 => by simp
  | [], i + 1 => by simp
  | x :: l, i + 1 => by
    rw [List.flatMap_cons, List.drop_succ_cons, ← enc_drop h l i, Nat.add_mul, Nat.one_mul, Nat.add_comm, ← List.drop_drop]
    congr 1
    rw [← h x, List.drop_left]
theorem enc_take (h : ∀ x, (enc x).length = sz) : ∀ (l : List τ) (i : Nat), (l.flatMap enc).take (i * sz) = (l.take i).flatMap enc
  | l, 0 => by simp
  | [], i + 1 => by simp
  | x :: l, i + 1 => by
    rw [List.flatMap_cons, List.take_succ_cons, List.flatMap_cons, ← enc_take h l i, Nat.add_mul, Nat.one_mul, Nat.add_comm, ← h x, List.take_length_add_append]
theorem enc_get (h : ∀ x, (enc x).length = sz) {l : List τ} {i : Nat} {x : τ} (hx : l[i]? = some x) (g : Bool) (s off : Nat) (hs : off + s ≤ sz) (h0 : 0 < s) : getCells (l.flatMap enc) g s (i * sz + off) = getCells (enc x) g s off := by
  have hi := (List.getElem?_eq_some_iff.1 hx).1
  have e1 : l.drop i = x :: l.drop (i + 1) := by
    obtain ⟨q1, q2⟩ := List.getElem?_eq_some_iff.1 hx
    rw [← q2]; exact List.drop_eq_getElem_cons q1
  have e2 : (l.flatMap enc).drop (i * sz) = enc x ++ (l.drop (i + 1)).flatMap enc := by rw [enc_drop h, e1, List.flatMap_cons]
  have hl := enc_len h l
  have hle : (i + 1) * sz ≤ l.length * sz := Nat.mul_le_mul_right _ hi
  rw [Nat.add_mul, Nat.one_mul] at hle
  unfold getCells
  cases g
  · simp only [Bool.false_eq_true, if_false]
    have e3 : (l.flatMap enc)[i * sz + off]? = ((l.flatMap enc).drop (i * sz))[off]? := by rw [List.getElem?_drop]
    rw [e3, e2, List.getElem?_append_left (by rw [h]; omega)]
  · simp only [if_true]
    rw [if_pos ⟨h0, by omega⟩, if_pos ⟨h0, by rw [h]; omega⟩]
    rw [← List.drop_drop, e2, List.drop_append_of_le_length (by rw [h]; omega), List.take_append_of_le_length (by simp [h]; omega)]
end
end Go.EF
