/- Small lemmas for printed scripts. No conditions. -/
import Derived.Test.YtbekogkbdmaobaaEf21
namespace Go.EF
open Go Go.RowKit

section
variable {P : Program} {N : Nat} {lf : List AV} {st : St} {s0 : Base} {Q : Jmp → (Nat → AV) → St → Prop} {bb : CC} {m : List Cell} {t : List (Own × Nat)} {d : Option Nat} {r : List GOp}

theorem SP.tail {c : Cell} (h : SP s0 (c :: m) t st) (hn : c.new = true) : SP s0 m t st :=
  ⟨h.next, fun a ha hp hx => h.old a ha hp fun x hx' hf => (List.mem_cons.1 hx').elim (fun e => by subst e; rw [hn] at hf; cases hf) (fun hm => hx x hm hf), fun x hx => h.facts x (List.mem_cons_of_mem _ hx), fun x hx => h.isnew x (List.mem_cons_of_mem _ hx), (List.nodup_cons.1 h.nodup).2, h.toks, h.apart⟩
/-- Some objects of the caller's are listed from the start. -/
theorem SP.startm (m : List Cell) (h : ∀ x ∈ m, st.get x.a = some x.o ∧ x.new = false) (hn : (m.map (·.a)).Nodup) : SP st m [] st :=
  ⟨Nat.le_refl _, fun _ _ _ _ => rfl, fun x hx => (h x hx).1, fun x hx hn => by { rw [(h x hx).2] at hn; cases hn }, hn, by simp, by simp⟩
/-- Old objects that are as they were. -/
theorem SP.ext' {s0 : St} (h : SP s0 m t st) (ho : ∀ x ∈ m, x.new = false → s0.get x.a = some x.o) : Ext s0 st := by
  refine ⟨h.next, fun a ha => ?_⟩
  by_cases hx : ∃ x ∈ m, x.new = false ∧ x.a = a
  · obtain ⟨x, h1, h2, rfl⟩ := hx
    rw [h.facts x h1, ho x h1 h2]
  · exact h.old a ha trivial fun x h1 h2 e => hx ⟨x, h1, h2, e⟩
theorem SP.tok (h : SP s0 m t st) (j : Nat) {x : Own × Nat} (hj : t[j]? = some x) : Grown s0 st x := h.toks x (List.mem_of_getElem? hj)

theorem getx {τ : Type} (l : List τ) (i : Int) (h : 0 ≤ i ∧ i < l.length) : ∃ x, l[i.toNat]? = some x := ⟨l[i.toNat]'(by omega), List.getElem?_eq_getElem _⟩

/-- A load out of a list of records. -/
theorem wr_loade {τ : Type} {enc : τ → List AV} {sz : Nat} (hs : ∀ x, (enc x).length = sz) {g : Bool} {s : Nat} {p : Opd} (l : List τ) (i off : Nat) (x : τ) (hx : l[i]? = some x) (hp : p.ev (L lf) = .lptr (l.flatMap enc) (i * sz + off)) (v : AV) (hv : getCells (enc x) g s off = some v)
    (h1 : off + s ≤ sz) (h2 : 0 < s) (hd : dok lf d = true) (k : RO P N r bb (stx lf d v) st Q) : RO P N (⟨d, none, .load g s p⟩ :: r) bb lf st Q :=
  wr_loadl _ _ hp v ((enc_get hs hx g s off h1 h2).trans hv) hd k

theorem wr_iaddre {τ : Type} {enc : τ → List AV} {sz : Nat} (hs : ∀ x, (enc x).length = sz) {x i : Opd} (own : Own) (l : List τ) (hx : x.ev (L lf) = .list own (l.flatMap enc) l.length) (ix : Int) (hi : i.ev (L lf) = .int ix) (h : 0 ≤ ix ∧ ix < l.length) (hd : dok lf d = true) (k : ∀ y, l[ix.toNat]? = some y → RO P N r bb (stx lf d (.lptr (l.flatMap enc) (ix.toNat * sz))) st Q) :
    RO P N (⟨d, none, .iaddr sz x i⟩ :: r) bb lf st Q := by
  obtain ⟨y, hy⟩ := getx l ix h
  exact wr_iaddr own _ _ hx ix hi h (enc_len hs l) hd (k y hy)

end

theorem some_get {τ : Type} {l : List τ} {i : Nat} {x : τ} (h : l[i]? = some x) : x ∈ l := List.mem_of_getElem? h
end Go.EF
namespace Go.EF
open Go Go.RowKit
section
variable {P : Program} {N : Nat} {lf : List AV} {st : St} {s0 : Base} {Q : Jmp → (Nat → AV) → St → Prop} {bb : CC} {m : List Cell} {t : List (Own × Nat)} {d : Option Nat} {r : List GOp}

theorem frame0_L (args : List AV) (k : Nat) : frame0 args = L (args ++ List.replicate k .junk) := by
  funext i
  unfold frame0 L
  rw [List.getD_eq_getElem?_getD, List.getD_eq_getElem?_getD, List.getElem?_append]
  split
  · rfl
  · rename_i h
    rw [List.getElem?_eq_none (by omega), List.getElem?_replicate]
    split <;> rfl

theorem wf_L {f : Nat} {rs : List ResultVar} {cc : CC} {args : List AV} {K : AV → St → Prop} (hc : compF P f = some (N, rs, cc)) (hn : Nat.ble args.length N = true)
    (h : RC P N cc (args ++ List.replicate (N - args.length) .junk) st (FinP P rs K)) : WF P f args st K :=
  wf_of hc (Nat.le_of_ble_eq_true hn) (wc_loop.wc_mono cc _ _ (FinP P rs K) _ (by rw [frame0_L]; exact h.run) fun _ _ _ (h : FinP P rs K _ _ _) => h.h)

theorem post_i {rs : List ResultVar} {x : Jmp} {fr : Nat → AV} {K : AV → St → Prop} (hx : x = .normal ∨ x = .ret) (v : AV) (h : resV P rs fr st = some v) (hk : K v st)   : FinP P rs K x fr st := ⟨hx, v, h, hk⟩

theorem wr_appende {τ : Type} {enc : τ → List AV} {sz bytes : Nat} {z : List AV} {x y : Opd} (hs : ∀ x, (enc x).length = sz) (h1 : ∀ x, (enc x).all AV.one = true) (H : SP s0 m t st) (hm : m.all (fun c => noArr c.o) = true) (j : Nat) (own : Own) (hj : t[j]? = some (own, sz)) (l l2 : List τ)
    (hx : x.ev (L lf) = .list own (l.flatMap enc) l.length) (own' : Own) (hy : y.ev (L lf) = .list own' (l2.flatMap enc) l2.length) (hb : (l.length + l2.length) * bytes ≤ 2 ^ 44) (hz : z.length = sz) (hd : dok lf d = true)
    (kk : ∀ own2 st', (own2 = .exact → own = .exact ∧ l2 = []) → SP s0 m (t.set j (own2, sz)) st' → RO P N r bb (stx lf d (.list own2 ((l ++ l2).flatMap enc) (l ++ l2).length)) st' Q) : RO P N (⟨d, none, .append sz bytes z x y⟩ :: r) bb lf st Q := by
  refine wr_append H hm j own hj _ _ hx own' _ _ hy (enc_len hs l) (enc_len hs l2) ?_ hb hz hd fun own2 st' ho h => ?_
  · rw [List.all_eq_true]
    intro v hv
    obtain ⟨w, _, hw⟩ := List.mem_flatMap.1 hv
    exact List.all_eq_true.1 (h1 w) v hw
  · have := kk own2 st' (fun e => ⟨(ho e).1, List.length_eq_zero_iff.1 (ho e).2⟩) h
    rwa [List.flatMap_append, List.length_append] at this
end

def encI (n : Int) : List AV := [.int n]
def encS (s : ByteArray) : List AV := [.str s]
theorem encI_len (x : Int) : (encI x).length = 1 := rfl
theorem encS_len (x : ByteArray) : (encS x).length = 1 := rfl
theorem encI_one (x : Int) : (encI x).all AV.one = true := rfl
theorem encS_one (x : ByteArray) : (encS x).all AV.one = true := rfl
abbrev lst {τ : Type} (own : Own) (enc : τ → List AV) (l : List τ) : AV := .list own (l.flatMap enc) l.length
end Go.EF
namespace Go.EF
theorem take_step {τ : Type} {l : List τ} {i : Nat} {φ : τ → Prop} {y : τ} (h : ∀ x ∈ l.take i, φ x) (hy : l[i]? = some y) (hp : φ y) : ∀ x ∈ l.take (i + 1), φ x := by
  intro x hx
  rw [List.take_add_one, hy] at hx
  rcases List.mem_append.1 hx with h1 | h1
  · exact h x h1
  · simp at h1; rw [h1]; exact hp
end Go.EF
namespace Go.EF
theorem SP.fact {s0 : Base} {st : St} {m : List Cell} {t : List (Own × Nat)} (h : SP s0 m t st) (j : Nat) {c : Cell} (hj : m[j]? = some c) : st.get c.a = some c.o := h.facts c (List.mem_of_getElem? hj)
theorem SP.ne {s0 : Base} {st : St} {m : List Cell} {t : List (Own × Nat)} (h : SP s0 m t st) (i j : Nat) {x y : Cell} (hi : m[i]? = some x) (hj : m[j]? = some y) (hij : i ≠ j) : x.a ≠ y.a := fun e => hij (addr_inj h.nodup hi hj e)
end Go.EF
namespace Go.EF
open Go Go.RowKit
theorem decode_width (s : ByteArray) (i : Nat) : 1 ≤ (Utf8.decode s i).2 := by
  unfold Utf8.decode
  simp only
  repeat' split
  all_goals simp

section
variable {P : Program} {N : Nat} {lf : List AV} {st : St} {s0 : Base} {Q : Jmp → (Nat → AV) → St → Prop} {bb : CC} {m : List Cell} {t : List (Own × Nat)} {d : Option Nat} {r : List GOp}
theorem wr_srange {x : Opd} (s : ByteArray) (hx : x.ev (L lf) = .str s) (H : SP s0 m t st) (hd : dok lf d = true) (k : ∀ a st', SP s0 (⟨a, .sit s 0, true⟩ :: m) t st' → RO P N r bb (stx lf d (.ptr a 0)) st' Q) : RO P N (⟨d, none, .srange x⟩ :: r) bb lf st Q :=
  wr_op (.ptr st.next 0) (by simp only [evOp, hx]) rfl hd (k _ _ (H.alloc _))
theorem wr_snext {x : Opd} (H : SP s0 m t st) (j : Nat) (a : Nat) (s : ByteArray) (pos : Nat) (nw : Bool) (hj : m[j]? = some ⟨a, .sit s pos, nw⟩) (hx : x.ev (L lf) = .ptr a 0) (hd : dok lf d = true)
    (k1 : pos < s.size → ∀ (c : Int) (w : Nat) st', 1 ≤ w → SP s0 (putC m j (.sit s (pos + w))) t st' → RO P N r bb (stx lf d (.tup [.bool true, .int pos, .v (.int .i32 c)])) st' Q)
    (k2 : ¬ pos < s.size → RO P N r bb (stx lf d (.tup [.bool false])) st Q) : RO P N (⟨d, none, .snext x⟩ :: r) bb lf st Q := by
  have hf := H.facts _ (List.mem_of_getElem? hj)
  simp only at hf
  by_cases hp : pos < s.size
  · refine wr_op (.tup [.bool true, .int pos, .v (.int .i32 (Utf8.decode s pos).1)]) (st' := st.set a (.sit s (pos + (Utf8.decode s pos).2))) ?_ rfl hd (k1 hp _ _ _ (decode_width s pos) (H.set j hj rfl _))
    simp only [evOp, hx, hf]; rw [if_pos hp]
  · refine wr_op (.tup [.bool false]) (st' := st) ?_ rfl hd (k2 hp)
    simp only [evOp, hx, hf]; rw [if_neg hp]
end
end Go.EF
namespace Go.EF
theorem nth_step {τ : Type} {l : List τ} {i : Nat} {φ : Nat → τ → Prop} {y : τ} (h : ∀ (j : Nat) x, j < i → l[j]? = some x → φ j x) (hy : l[i]? = some y) (hp : φ i y) : ∀ (j : Nat) x, j < i + 1 → l[j]? = some x → φ j x := by
  intro j x hj hx
  by_cases e : j = i
  · subst e; rw [hy] at hx; cases hx; exact hp
  · exact h j x (by omega) hx
end Go.EF
