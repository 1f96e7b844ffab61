/- Maps, slices of the call's own, results that lie in cells. No conditions. -/
import Derived.Test.YtbekogkbdmaobaaEf24
namespace Go.EF
open Go Go.RowKit

section
variable {s0 : Base} {st : St} {m : List Cell} {t : List (Own × Nat)}
/-- The addresses at some places of the list of cells are apart. -/
theorem SP.pick (h : SP s0 m t st) (js : List Nat) (hj : js.Nodup) {l : List Nat} (hl : js.map (fun j => m[j]?.map (·.a)) = l.map some) : l.Nodup := by
  have hlen : js.length = l.length := by simpa using congrArg List.length hl
  have at_ : ∀ i (h1 : i < js.length) (h2 : i < l.length), (m[js[i]]?).map (·.a) = some l[i] := by
    intro i h1 h2
    have := congrArg (·[i]?) hl
    simpa [List.getElem?_map, List.getElem?_eq_getElem h1, List.getElem?_eq_getElem h2] using this
  refine List.pairwise_iff_getElem.2 fun i k hi hk hik e => ?_
  have a1 := at_ i (by omega) hi
  have a2 := at_ k (by omega) hk
  cases h1 : m[js[i]]? with
  | none => rw [h1] at a1; cases a1
  | some x =>
    cases h2 : m[js[k]]? with
    | none => rw [h2] at a2; cases a2
    | some y =>
      rw [h1] at a1; rw [h2] at a2; simp at a1 a2
      have := addr_inj h.nodup h1 h2 (by rw [a1, a2, e])
      exact List.pairwise_iff_getElem.1 hj i k (by omega) (by omega) hik this
end

theorem app_all {τ : Type} {l l1 l2 : List τ} {φ : τ → Prop} (e : l = l1 ++ l2) (h1 : ∀ x ∈ l1, φ x) (h2 : ∀ x ∈ l2, φ x) : ∀ x ∈ l, φ x := by
  subst e; intro x hx
  rcases List.mem_append.1 hx with h | h
  · exact h1 x h
  · exact h2 x h

/-! ### results that lie in cells -/
section
variable {P : Program} {fr : Nat → AV} {st : St}
theorem resC {a t p o s : Nat} {g : Bool} {cs : List AV} {v : AV} (hg : tagg P t = some g) (hs : tsize P t = some s) (hp : fr a = .ptr p o) (hc : st.get p = some (.cells cs)) (hv : getCells cs g s o = some v) : resV1 P fr st (.cell a t) = some v := by
  simp only [resV1, hg, hs, hp, loadS, hc, hv]
theorem resN : resVs P fr st [] = some [] := rfl
theorem resX {r : ResultVar} {rs : List ResultVar} {x : AV} {xs : List AV} (h1 : resV1 P fr st r = some x) (h2 : resVs P fr st rs = some xs) : resVs P fr st (r :: rs) = some (x :: xs) := by
  simp only [resVs, h1, h2]
theorem resV_many {rs : List ResultVar} {xs : List AV} (h : resVs P fr st rs = some xs) (hn : xs.length ≠ 1) : resV P rs fr st = some (.tup xs) := by
  simp only [resV, h]
  split
  · rename_i x e; cases e; exact absurd rfl hn
  · rename_i e; cases e; rfl
  · rename_i e; cases e
end

/-! ### slices of the call's own -/
section
variable {P : Program} {N : Nat} {lf : List AV} {st : St} {s0 : Base} {Q : Jmp → (Nat → AV) → St → Prop} {bb : CC} {m : List Cell} {t : List (Own × Nat)} {d : Option Nat} {r : List GOp} {bss : List (List Nat)} {als : Als} {hist : List (Nat × St)} {pend : Pend} {i : Nat}

theorem wd_frame {l : List GOp} (lf' : List AV) (h : lf = lf') (k : RD P N bss als i l bb lf' st hist pend Q) : RD P N bss als i l bb lf st hist pend Q := h ▸ k

theorem rep_enc {τ : Type} {enc : τ → List AV} {z : List AV} (z0 : τ) (hz : enc z0 = z) : ∀ n, rep z n = (List.replicate n z0).flatMap enc
  | 0 => rfl
  | n + 1 => by rw [rep, rep_enc z0 hz n, List.replicate_succ, List.flatMap_cons, hz]

theorem wr_mksliceX {τ : Type} {enc : τ → List AV} {sz bytes : Nat} {z : List AV} (_hs : ∀ x, (enc x).length = sz) (z0 : τ) (hz : enc z0 = z) {l c : Opd} (n : Int) (hl : l.ev (L lf) = .int n) (hc : c.ev (L lf) = .int n) (h : 0 ≤ n ∧ (bytes : Int) * n ≤ 140737488355328) (H : SP s0 m t st) (hd : dok lf d = true)
    (k : ∀ a st' (l : List τ) (k : Nat), (k : Int) = n ∧ (l.length : Int) = n → SP s0 (⟨a, .cells (l.flatMap enc), true⟩ :: m) t st' → RO P N r bb (stx lf d (.ms a 0 k k)) st' Q) : RO P N (⟨d, none, .mkslice z sz bytes l c⟩ :: r) bb lf st Q := by
  refine wr_mkslice n n hl hc h.1 (Int.le_refl _) (by have := h.2; simpa using this) H hd fun a st' H' => ?_
  rw [rep_enc z0 hz] at H'
  exact k a st' _ n.toNat ⟨by omega, by simp; omega⟩ H'

/-- A load through a place in a slice of the call's own. -/
theorem ev_loadV {τ : Type} {enc : τ → List AV} {sz : Nat} (hs : ∀ x, (enc x).length = sz) {g : Bool} {s : Nat} {p : Opd} {st : St} (H : SP s0 m t st) (j a : Nat) (l : List τ) (nw : Bool) (hj : m[j]? = some ⟨a, .cells (l.flatMap enc), nw⟩) (k ix fo : Nat) (hp : p.ev (L lf) = .ptr a (k * sz + ix * sz + fo)) (y : τ) (hy : l[k + ix]? = some y) (v : AV) (hv : getCells (enc y) g s fo = some v)
    (h1 : fo + s ≤ sz) (h2 : 0 < s) : evOp P (·.ev (L lf)) st (.load g s p) = some (v, st) := by
  refine ev_load H j a (k * sz + ix * sz + fo) _ nw hj hp v ?_
  rw [← Nat.add_mul]; exact (enc_get hs hy g s fo h1 h2).trans hv

theorem ev_iaddra {n sz : Nat} {x i : Opd} (a off : Nat) (hx : x.ev (L lf) = .ptr a off) (ix : Int) (hi : i.ev (L lf) = .int ix) (h : 0 ≤ ix ∧ ix < n) (s : St) : evOp P (·.ev (L lf)) s (.iaddrarr n sz x i) = some (.ptr a (off + ix.toNat * sz), s) := by
  simp only [evOp, hx, hi, intOf?]; rw [if_pos h]
theorem splice_enc {τ : Type} {enc : τ → List AV} {sz : Nat} (hs : ∀ x, (enc x).length = sz) (l l2 : List τ) (k : Nat) : splice (l.flatMap enc) (k * sz) (l2.flatMap enc) = (l.take k ++ l2 ++ l.drop (k + l2.length)).flatMap enc := by
  unfold splice
  rw [enc_take hs, enc_len hs l2, ← Nat.add_mul, enc_drop hs, List.flatMap_append, List.flatMap_append]

theorem wr_copyX {τ : Type} {enc : τ → List AV} {sz : Nat} (hs : ∀ x, (enc x).length = sz) (h1 : ∀ x, (enc x).all AV.one = true) {x y : Opd} (H : SP s0 m t st) (j a : Nat) (l : List τ) (nw : Bool) (hj : m[j]? = some ⟨a, .cells (l.flatMap enc), nw⟩) (k n c : Nat) (hx : x.ev (L lf) = .ms a (k * sz) n c) (own : Own) (l2 : List τ) (hy : y.ev (L lf) = .list own (l2.flatMap enc) l2.length) (hk : k + n ≤ l.length) (hd : dok lf d = true)
    (kk : ∀ st' (l' : List τ) (q : Int), ((l'.length : Int) = l.length ∧ 0 ≤ q ∧ q ≤ n ∧ q ≤ l2.length) → SP s0 (putC m j (.cells (l'.flatMap enc))) t st' → RO P N r bb (stx lf d (.int q)) st' Q) : RO P N (⟨d, none, .copy sz x y⟩ :: r) bb lf st Q := by
  have hf := H.facts _ (List.mem_of_getElem? hj)
  simp only at hf
  have hl2 := enc_len hs l2
  have hl := enc_len hs l
  have hsrc : srcCells st sz (y.ev (L lf)) = some (l2.flatMap enc, l2.length) := by rw [hy]; simp [srcCells, hl2]
  have hq : Nat.min l2.length n ≤ n := Nat.min_le_right _ _
  have hq2 : Nat.min l2.length n ≤ l2.length := Nat.min_le_left _ _
  generalize hqq : Nat.min l2.length n = q at hq hq2
  have e : splice (l.flatMap enc) (k * sz) ((l2.flatMap enc).take (q * sz)) = (l.take k ++ l2.take q ++ l.drop (k + (l2.take q).length)).flatMap enc := by
    rw [enc_take hs]; exact splice_enc hs l _ k
  have hone : (l2.flatMap enc).all AV.one = true := by
    rw [List.all_eq_true]
    intro v hv
    obtain ⟨w, _, hw⟩ := List.mem_flatMap.1 hv
    exact List.all_eq_true.1 (h1 w) v hw
  have hmul : k * sz + n * sz ≤ l.length * sz := by have := Nat.mul_le_mul_right sz hk; rwa [Nat.add_mul] at this
  refine wr_op (.int q) (st' := st.set a (.cells ((l.take k ++ l2.take q ++ l.drop (k + (l2.take q).length)).flatMap enc))) ?_ rfl hd (kk _ _ q ⟨?_, by omega, by omega, by omega⟩ (H.set j hj rfl _))
  · simp only [evOp, hsrc, hx, hf]
    rw [if_pos ⟨hone, by rw [hl]; exact hmul, hl2⟩, hqq, e]
  · simp; omega

theorem wr_sliceM {sz : Nat} {x : Opd} {lo hi : Option Opd} (a k n c : Nat) (hx : x.ev (L lf) = .ms a (k * sz) n c) (p q : Int) (hlo : (match lo with | none => p = 0 | some o => o.ev (L lf) = .int p)) (hhi : (match hi with | none => q = n | some o => o.ev (L lf) = .int q)) (h : 0 ≤ p ∧ p ≤ q ∧ q ≤ c ∧ n ≤ c) (hd : dok lf d = true)
    (kk : ∀ k' n' c' : Nat, ((n' : Int) = q - p ∧ (c' : Int) = c - p ∧ (k' : Int) + c' ≤ k + c ∧ (k' = k ∨ (k' : Int) = k + p)) → RO P N r bb (stx lf d (.ms a (k' * sz) n' c')) st Q) : RO P N (⟨d, none, .slice sz x lo hi none⟩ :: r) bb lf st Q := by
  obtain ⟨h1, h2, h3, h4⟩ := h
  obtain ⟨p, rfl⟩ := Int.eq_ofNat_of_zero_le h1
  obtain ⟨q, rfl⟩ := Int.eq_ofNat_of_zero_le (Int.le_trans h1 h2)
  have hb : boundsOf (·.ev (L lf)) n c lo hi none = some (p, q, c) := by
    cases lo with
    | none =>
      have : p = 0 := by simp only at hlo; omega
      subst this
      cases hi with
      | none => have : q = n := by simp only at hhi; omega
                subst this; rfl
      | some o => simp only at hhi; unfold boundsOf; simp only [hhi, intOf?]; rw [if_pos (by omega)]; simp
    | some o1 =>
      simp only at hlo
      cases hi with
      | none => have : q = n := by simp only at hhi; omega
                subst this; unfold boundsOf; simp only [hlo, intOf?]; rw [if_pos (by omega)]; simp
      | some o => simp only at hhi; unfold boundsOf; simp only [hlo, hhi, intOf?]; rw [if_pos (by omega)]; simp only; rw [if_pos (by omega)]; simp
  by_cases hc : c = p
  · refine wr_op (.ms a (k * sz) (q - p) (c - p)) (st' := st) ?_ rfl hd (kk k (q - p) (c - p) ⟨by omega, by omega, by omega, .inl rfl⟩)
    simp only [evOp, hx, hb]; rw [if_pos hc]
  · refine wr_op (.ms a ((k + p) * sz) (q - p) (c - p)) (st' := st) ?_ rfl hd (kk (k + p) (q - p) (c - p) ⟨by omega, by omega, by omega, .inr (by omega)⟩)
    simp only [evOp, hx, hb]; rw [if_neg hc, Nat.add_mul]
end

/-! ### maps -/
theorem evSem_bind1 {P : Program} {α β : Type} (s : Sem α) (f : α → Sem β) {a : α} (h : evSem P s = some a) : evSem P (s >>= f) = evSem P (f a) := by
  cases hb : evSem P (f a) with
  | some b => exact (evSem_bind s f b).2 ⟨a, h, hb⟩
  | none =>
    cases hc : evSem P (s >>= f) with
    | none => rfl
    | some c =>
      obtain ⟨a', h1, h2⟩ := (evSem_bind s f c).1 hc
      rw [h] at h1; cases h1; rw [hb] at h2; cases h2

structure KeyOK (P : Program) (kt : TypeId) (κ : Value → Prop) : Prop where
  und : ∃ u, evSem P (underlying kt) = some u
  chk : ∀ emp k, κ k → evSem P (Instr.checkKey emp 10000 kt k) = some ()
  eq : ∀ k k', κ k → κ k' → ∃ b, evSem P (Op.equal kt k k') = some b ∧ (b = true → Instr.sameBits 10000 k' k = true)

theorem sameNow_bits {u : TypeDesc} {a b : Value} (h : Instr.sameNow u a b = some true) : Instr.sameBits 10000 b a = true := by
  unfold Instr.sameNow at h
  split at h
  · split at h
    · rename_i e; subst e; simp at h; subst h; simp [Instr.sameBits]
    · cases h
  · rename_i a b
    have e : a = b := by
      cases a with | mk a => cases b with | mk b =>
      exact congrArg _ (eq_of_beq (Option.some.inj h : (a == b) = true))
    subst e
    have : (a == a) = true := Option.some.inj h
    simp only [Instr.sameBits, this]
  · have e := eq_of_beq (Option.some.inj h); subst e; simp [Instr.sameBits]
  · cases h

theorem findNow_spec {u : TypeDesc} {k : Value} : ∀ (es : List MapEntry) (i : Nat) (r : Option (Nat × Value)), Instr.findNow u k es i = some r → ∀ j v, r = some (j, v) → ∃ e, i ≤ j ∧ es[j - i]? = some e ∧ Instr.sameBits 10000 e.key k = true
  | [], i, r, h, j, v, e => by simp [Instr.findNow] at h; subst h; cases e
  | x :: es, i, r, h, j, v, e => by
    simp only [Instr.findNow] at h
    split at h
    · rename_i hs; simp at h; subst h; cases e; exact ⟨x, Nat.le_refl _, by simp, sameNow_bits hs⟩
    · obtain ⟨y, h1, h2, h3⟩ := findNow_spec es (i + 1) r h j v e
      refine ⟨y, by omega, ?_, h3⟩
      rw [show j - i = (j - (i + 1)) + 1 from by omega, List.getElem?_cons_succ]; exact h2
    · cases h

theorem findAsking_spec {P : Program} {kt : TypeId} {κ : Value → Prop} (K : KeyOK P kt κ) {k : Value} (hk : κ k) : ∀ (es : List MapEntry) (i : Nat), (∀ e ∈ es, κ e.key) →
    ∃ r, evSem P (Instr.findAsking kt k es i) = some r ∧ ∀ j v, r = some (j, v) → ∃ e, i ≤ j ∧ es[j - i]? = some e ∧ Instr.sameBits 10000 e.key k = true
  | [], i, _ => ⟨none, rfl, by intro j v e; cases e⟩
  | x :: es, i, h => by
    obtain ⟨b, h1, h2⟩ := K.eq k x.key hk (h x (List.mem_cons_self ..))
    simp only [Instr.findAsking]
    cases b with
    | true =>
      refine ⟨some (i, x.val), by rw [evSem_bind1 _ _ h1]; rfl, fun j v e => ?_⟩
      cases e; exact ⟨x, Nat.le_refl _, by simp, h2 rfl⟩
    | false =>
      obtain ⟨r, e1, e2⟩ := findAsking_spec K hk es (i + 1) fun e he => h e (List.mem_cons_of_mem _ he)
      refine ⟨r, by rw [evSem_bind1 _ _ h1]; exact e1, fun j v e => ?_⟩
      obtain ⟨y, h3, h4, h5⟩ := e2 j v e
      refine ⟨y, by omega, ?_, h5⟩
      rw [show j - i = (j - (i + 1)) + 1 from by omega, List.getElem?_cons_succ]; exact h4

theorem findK_total {P : Program} {kt : TypeId} {κ : Value → Prop} (K : KeyOK P kt κ) {emp : Bool} {k : Value} {es : List MEnt} (hk : κ k) (hes : ∀ e ∈ es, κ e.key) :
    ∃ o, findK P emp kt k es = some o ∧ ∀ i, o = some i → ∃ e, es[i]? = some e ∧ Instr.sameBits 10000 e.key k = true := by
  obtain ⟨u, hu⟩ := K.und
  have hd : ∀ e ∈ dents es, κ e.key := by
    intro e he
    obtain ⟨x, hx, rfl⟩ := List.mem_map.1 he
    exact hes x hx
  have back : ∀ (j : Nat) (e : MapEntry), (dents es)[j]? = some e → ∃ x, es[j]? = some x ∧ x.key = e.key := by
    intro j e h
    simp only [dents, List.getElem?_map, Option.map_eq_some_iff] at h
    obtain ⟨x, h1, rfl⟩ := h
    exact ⟨x, h1, rfl⟩
  have key : ∃ r, evSem P (Instr.findKey kt k (dents es)) = some r ∧ ∀ j v, r = some (j, v) → ∃ e, (dents es)[j]? = some e ∧ Instr.sameBits 10000 e.key k = true := by
    unfold Instr.findKey
    rw [evSem_bind1 _ _ hu]
    split
    · rename_i r hr
      refine ⟨r, rfl, fun j v e => ?_⟩
      obtain ⟨y, _, h2, h3⟩ := findNow_spec _ 0 r hr j v e
      exact ⟨y, by simpa using h2, h3⟩
    · obtain ⟨r, e1, e2⟩ := findAsking_spec K hk (dents es) 0 hd
      refine ⟨r, e1, fun j v e => ?_⟩
      obtain ⟨y, _, h2, h3⟩ := e2 j v e
      exact ⟨y, by simpa using h2, h3⟩
  obtain ⟨r, e1, e2⟩ := key
  refine ⟨r.map (·.1), ?_, fun i e => ?_⟩
  · unfold findK
    rw [evSem_bind1 _ _ (K.chk emp k hk), evSem_bind1 _ _ e1]; rfl
  · obtain ⟨⟨j, v⟩, rfl, rfl⟩ := Option.map_eq_some_iff.1 e
    obtain ⟨y, h1, h2⟩ := e2 j v rfl
    obtain ⟨x, h3, h4⟩ := back _ _ h1
    exact ⟨x, h3, by rw [h4]; exact h2⟩

def MapOK (κ : Value → Prop) (φ : AV → Prop) (es : List MEnt) : Prop := ∀ e ∈ es, κ e.key ∧ φ e.val
theorem mapok_nil {κ : Value → Prop} {φ : AV → Prop} : MapOK κ φ [] := fun _ h => nomatch h

section
variable {P : Program} {N : Nat} {lf : List AV} {st : St} {s0 : Base} {Q : Jmp → (Nat → AV) → St → Prop} {bb : CC} {m : List Cell} {t : List (Own × Nat)} {d : Option Nat} {r : List GOp} {κ : Value → Prop} {φ : AV → Prop}

theorem ev_lookup {kt : TypeId} {z : AV} {ok : Bool} {mo ko : Opd} {st : St} (H : SP s0 m t st) (j a : Nat) (es : List MEnt) (clk : Nat) (nw : Bool) (hj : m[j]? = some ⟨a, .map es clk, nw⟩) (hm : mo.ev (L lf) = .map a) (kv : AV) (hk : ko.ev (L lf) = kv) (hM : MapOK κ φ es) (K : KeyOK P kt κ) (hkv : ∃ x, kv.toV = some x ∧ κ x) (hz : φ z) :
    ∃ x b, φ x ∧ evOp P (·.ev (L lf)) st (.lookup kt z ok mo ko) = some (if ok then .tup [x, .bool b] else x, st) := by
  have hf := H.facts _ (List.mem_of_getElem? hj)
  simp only at hf
  obtain ⟨kx, h1, h2⟩ := hkv
  obtain ⟨o, h3, h4⟩ := findK_total K (emp := es.isEmpty) h2 fun e he => (hM e he).1
  cases o with
  | none => exact ⟨z, false, hz, by simp only [evOp, hm, mapOf, hf, hk, h1, h3]⟩
  | some i =>
    obtain ⟨e, h5, _⟩ := h4 i rfl
    exact ⟨e.val, true, (hM e (List.mem_of_getElem? h5)).2, by simp only [evOp, hm, mapOf, hf, hk, h1, h3, h5]⟩

theorem wr_lookup2 {kt : TypeId} {z : AV} {mo ko : Opd} (H : SP s0 m t st) (j a : Nat) (es : List MEnt) (clk : Nat) (nw : Bool) (hj : m[j]? = some ⟨a, .map es clk, nw⟩) (hm : mo.ev (L lf) = .map a) (kv : AV) (hk : ko.ev (L lf) = kv) (hM : MapOK κ φ es) (K : KeyOK P kt κ) (hkv : ∃ x, kv.toV = some x ∧ κ x) (hz : φ z) (hd : dok lf d = true)
    (k : ∀ x b, φ x → RO P N r bb (stx lf d (.tup [x, .bool b])) st Q) : RO P N (⟨d, none, .lookup kt z true mo ko⟩ :: r) bb lf st Q := by
  obtain ⟨x, b, h1, h2⟩ := ev_lookup (ok := true) H j a es clk nw hj hm kv hk hM K hkv hz
  exact wr_op _ h2 rfl hd (k x b h1)
theorem wr_mapsetX {kt : TypeId} {mo ko xo : Opd} (H : SP s0 m t st) (j a : Nat) (es : List MEnt) (clk : Nat) (nw : Bool) (hj : m[j]? = some ⟨a, .map es clk, nw⟩) (hm : mo.ev (L lf) = .map a) (kv : AV) (hk : ko.ev (L lf) = kv) (x : AV) (hx : xo.ev (L lf) = x) (hM : MapOK κ φ es) (K : KeyOK P kt κ) (hkv : ∃ x, kv.toV = some x ∧ κ x) (hφ : φ x) (hd : dok lf d = true)
    (k : ∀ es' clk' st', MapOK κ φ es' → SP s0 (putC m j (.map es' clk')) t st' → RO P N r bb (stx lf d .junk) st' Q) : RO P N (⟨d, none, .mapset kt mo ko xo⟩ :: r) bb lf st Q := by
  have hf := H.facts _ (List.mem_of_getElem? hj)
  simp only at hf
  obtain ⟨kx, h1, h2⟩ := hkv
  obtain ⟨o, h3, h4⟩ := findK_total K (emp := false) h2 fun e he => (hM e he).1
  cases o with
  | none =>
    refine wr_op .junk (st' := st.set a (.map (es ++ [⟨kx, x, clk⟩]) (clk + 1))) (by simp only [evOp, hm, mapOf, hf, hk, h1, h3, hx]) rfl hd (k _ _ _ ?_ (H.set j hj rfl _))
    intro e he
    rcases List.mem_append.1 he with he | he
    · exact hM e he
    · simp at he; subst he; exact ⟨h2, hφ⟩
  | some i =>
    obtain ⟨e, h5, h6⟩ := h4 i rfl
    refine wr_op .junk (st' := st.set a (.map (es.set i { e with key := kx, val := x }) clk)) (by simp only [evOp, hm, mapOf, hf, hk, h1, h3, h5, h6, hx, if_true]) rfl hd (k _ _ _ ?_ (H.set j hj rfl _))
    intro e' he
    rcases List.mem_or_eq_of_mem_set he with he | he
    · exact hM e' he
    · subst he; exact ⟨h2, hφ⟩
end

/-- Whole numbers as keys. -/
def KInt (k : Value) : Prop := ∃ n : Int, k = .int .i64 n
theorem keyInt {P : Program} {kt : TypeId} {q : IntKind} (h : P.underlying kt = some (.int q)) : KeyOK P kt KInt := by
  have hu : evSem P (underlying kt) = some (.int q) := by
    have e : underlying kt = Sem.program (fun p => match p.underlying kt with | some d => pure d | none => stuck "no such type") := rfl
    rw [e]; simp only [evSem, h]; rfl
  refine ⟨⟨_, hu⟩, fun emp k ⟨n, hk⟩ => ?_, fun k k' ⟨n, hk⟩ ⟨n', hk'⟩ => ⟨n == n', ?_, fun e => ?_⟩⟩
  · subst hk
    show evSem P (Instr.checkKey emp (9999 + 1) kt _) = _
    rw [Instr.checkKey, evSem_bind1 _ _ hu]; rfl
  · subst hk hk'
    show evSem P (Op.equalIn Op.maxDepth kt _ _) = _
    have : Op.maxDepth = (Op.maxDepth - 1) + 1 := by decide
    rw [this, Op.equalIn, evSem_bind1 _ _ hu]; simp [evSem, pure]
  · subst hk hk'
    have e := eq_of_beq e; subst e; simp [Instr.sameBits]
end Go.EF
