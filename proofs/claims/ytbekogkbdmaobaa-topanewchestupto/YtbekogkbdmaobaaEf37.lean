/- Arguments that are read: their shape, what they hold, how much of it. No conditions. -/
import Derived.Test.YtbekogkbdmaobaaEf36
import Derived.OpenShut
import Derived.DataElems
namespace Go.EF
open Go Go.RowKit

inductive Sh where
  | int
  | bool
  | str
  | agg (fs : List Sh)
  | rows (n : Nat) (s : Sh)
  | sl (s : Sh)

mutual
def Sh.width : Sh → Nat
  | .int | .bool | .str | .sl _ => 1
  | .agg fs => Sh.widths fs
  | .rows n s => n * s.width
def Sh.widths : List Sh → Nat
  | [] => 0
  | s :: r => s.width + Sh.widths r
end

mutual
def ShRel (B : Nat) : Sh → List AV → Prop
  | .int, as => ∃ n : Int, (-9223372036854775808 ≤ n ∧ n ≤ 9223372036854775807) ∧ as = [.int n]
  | .bool, as => ∃ b, as = [.bool b]
  | .str, as => ∃ s : ByteArray, s.size ≤ B ∧ as = [.str s]
  | .agg fs, as => ShRels B fs as
  | .rows n s, as => ∃ els : List (List AV), els.length = n ∧ (∀ e ∈ els, ShRel B s e) ∧ as = els.flatten
  | .sl s, as => ∃ els : List (List AV), els.length ≤ B ∧ (∀ e ∈ els, ShRel B s e) ∧ as = [.list .any els.flatten els.length]
def ShRels (B : Nat) : List Sh → List AV → Prop
  | [], as => as = []
  | s :: r, as => ∃ a b, as = a ++ b ∧ ShRel B s a ∧ ShRels B r b
end

mutual
def shOK (P : Program) : Sh → TypeId → Bool
  | .int, t => match P.underlying t with | some (.int .i64) => true | _ => false
  | .bool, t => match P.underlying t with | some .bool => true | _ => false
  | .str, t => match P.underlying t with | some .string => true | _ => false
  | .agg shs, t => match P.underlying t with | some (.struct fs) => Nat.beq (P.cellsOf t) (Sh.widths shs) && shOKs P shs fs.toList 0 | _ => false
  | .rows n s, t => match P.underlying t with | some (.array m e) => Nat.beq m n && (Nat.beq (P.cellsOf e) s.width && (Nat.beq (P.cellsOf t) (n * s.width) && shOK P s e)) | _ => false
  | .sl s, t => match P.underlying t with | some (.slice e) => Nat.beq (P.cellsOf e) s.width && (Nat.ble 1 s.width && shOK P s e) | _ => false
def shOKs (P : Program) : List Sh → List Field → Nat → Bool
  | [], [], _ => true
  | s :: r, f :: fs, o => Nat.beq f.offset o && (Nat.beq (P.cellsOf f.type) s.width && (shOK P s f.type && shOKs P r fs (o + s.width)))
  | _, _, _ => false
end

mutual
/-- How many letters and elements a reading holds. -/
def bulk {H : Type} : DataW H → Nat
  | .lit (.string b) => b.length
  | .slice e _ => e.length + bulks e
  | .agg p => bulks p
  | _ => 0
def bulks {H : Type} : List (DataW H) → Nat
  | [] => 0
  | d :: r => bulk d + bulks r
end

/-- All that a world holds is frozen. -/
def gAll (w : World) : Gh :=
  { w0 := ⟨w, fun b => b < w.heap.size, fun _ h => h⟩, nx := 0, mu := fun _ => none, fz := fun b o => w.cell? ⟨b, o, none⟩, arr := fun _ => none, dfr := [], lps := [] }

section
variable {P : Program} {w : World}
theorem cell_at {a : Addr} {y : Value} (h : w.cell? a = some y) : a.spot = none ∧ ∃ vs t fr, w.heap[a.block]? = some (.cells vs t fr) ∧ vs[a.off]? = some y := by
  unfold World.cell? at h
  split at h
  · rename_i c t fr hc
    split at h
    · cases h
    · rename_i hs; exact ⟨by simpa using hs, c, t, fr, hc, h⟩
  · cases h

theorem gAll_rel : Rel P (gAll w) ⟨[]⟩ w :=
  { nxeq := rfl, below := ⟨rfl, rfl, rfl, Nat.le_refl _, fun _ _ => rfl⟩, dom := by simp [gAll], adom := by simp [gAll], inj := by simp [gAll], fresh := by simp [gAll], obj := by simp [St.get],
    fzok := fun b o y e => by obtain ⟨_, vs, t, fr, h1, h2⟩ := cell_at e; exact ⟨vs, t, fr, h1, h2⟩,
    fzmu := by simp [gAll], arr := by simp [St.get], arrinj := by simp [St.get], dfr := by simp [gAll], lps := by simp [gAll] }

section
variable {H : Type} {enc : TypeId × Value → H} {B : Nat}

theorem bulk_mem {d : DataW H} : ∀ {l : List (DataW H)}, d ∈ l → bulk d ≤ bulks l
  | x :: l, h => by
    simp only [bulks]
    rcases List.mem_cons.1 h with rfl | h
    · omega
    · have := bulk_mem h; omega

theorem chunks (cs : List Value) (sz : Nat) : ∀ n, (List.range n).flatMap (fun i => (cs.drop (i * sz)).take sz) = cs.take (n * sz)
  | 0 => by simp
  | n + 1 => by
    rw [List.range_succ, List.flatMap_append, chunks cs sz n, Nat.succ_mul, List.take_add]
    simp

/-- Rows of equal elements, one behind another. -/
theorem read_rows {s : Sh} (f : Nat → List Value) : ∀ n, (∀ i, i < n → ∃ as, ShRel B s as ∧ VRels (gAll w) as (f i)) → ∃ els : List (List AV), els.length = n ∧ (∀ e ∈ els, ShRel B s e) ∧ VRels (gAll w) els.flatten ((List.range n).flatMap f)
  | 0, _ => ⟨[], rfl, by simp, by simp [VRels]⟩
  | n + 1, each => by
    obtain ⟨els, h1, h2, h3⟩ := read_rows f n fun i hi => each i (by omega)
    obtain ⟨as, h4, h5⟩ := each n (by omega)
    refine ⟨els ++ [as], by simp [h1], ?_, ?_⟩
    · intro e he
      rcases List.mem_append.1 he with he | he
      · exact h2 e he
      · simp at he; subst he; exact h4
    · rw [List.range_succ, List.flatMap_append, List.flatten_append]
      exact h3.append (by simpa using h5)

/-- The cells of a slice's elements. -/
def cellF (w : World) (a : Addr) (sz i : Nat) : List Value := (w.cells? 0 (a.add (i * sz)) sz).getD []

theorem read_cells (a : Addr) (sz : Nat) : ∀ (n : Nat), (∀ i, i < n → ∃ c, w.cells? 0 (a.add (i * sz)) sz = some c) →
    ((List.range n).flatMap (cellF w a sz)).length = n * sz ∧ ∀ k y, ((List.range n).flatMap (cellF w a sz))[k]? = some y → w.cell? (a.add k) = some y
  | 0, _ => ⟨by simp, by simp⟩
  | n + 1, each => by
    obtain ⟨h2, h3⟩ := read_cells a sz n fun i hi => each i (by omega)
    obtain ⟨c, hc⟩ := each n (by omega)
    obtain ⟨_, hl, hk⟩ := World.cells?_some hc
    have hf : cellF w a sz n = c := by simp [cellF, hc]
    refine ⟨?_, ?_⟩
    · rw [List.range_succ, List.flatMap_append, List.length_append, h2]; simp [hf, hl, Nat.succ_mul]
    · intro k y hy
      rw [List.range_succ, List.flatMap_append, List.getElem?_append] at hy
      split at hy
      · exact h3 k y hy
      · rename_i hk2
        rw [h2] at hy hk2
        simp only [List.flatMap_cons, List.flatMap_nil, List.append_nil, hf] at hy
        have h4 := hk (k - n * sz) (by have := (List.getElem?_eq_some_iff.1 hy).1; omega)
        rw [hy, Addr.add_add] at h4
        rwa [show n * sz + (k - n * sz) = k by omega] at h4

mutual
theorem read : ∀ (sh : Sh) (t : TypeId) (fuel : Nat) (cs : List Value) (x : DataW H × List MemPlace), shOK P sh t = true → bulk x.1 ≤ B → DataW.trod enc P w 0 (fun _ => true) true fuel t cs = some x → ∃ as, ShRel B sh as ∧ VRels (gAll w) as cs
  | .int, t, fuel, cs, x, hs, hB, h => by
    simp only [shOK] at hs
    split at hs
    · rename_i ht
      obtain ⟨n, rfl, rfl, hw⟩ := DataW.trod_int ht h
      refine ⟨[.int n], ⟨n, ?_, rfl⟩, by simp [VRels, VRel]⟩
      simp [Lit.wf, IntKind.min, IntKind.max, IntKind.signed, IntKind.bits] at hw
      omega
    · cases hs
  | .bool, t, fuel, cs, x, hs, hB, h => by
    simp only [shOK] at hs
    split at hs
    · rename_i ht
      obtain ⟨n, rfl, rfl⟩ := DataW.trod_bool ht h
      exact ⟨[.bool n], ⟨n, rfl⟩, by simp [VRels, VRel]⟩
    · cases hs
  | .str, t, fuel, cs, x, hs, hB, h => by
    simp only [shOK] at hs
    split at hs
    · rename_i ht
      obtain ⟨n, rfl, rfl, hw⟩ := DataW.trod_string ht h
      refine ⟨[.str n], ⟨n, ?_, rfl⟩, by simp [VRels, VRel]⟩
      simp only [bulk] at hB
      have e : n.data.toList.length = n.size := by rw [Array.length_toList]; rfl
      omega
    · cases hs
  | .agg shs, t, fuel, cs, x, hs, hB, h => by
    simp only [shOK] at hs
    split at hs
    · rename_i fs ht
      simp only [Bool.and_eq_true] at hs
      obtain ⟨xs, n, rfl, rfl, hl, hlen, hf⟩ := DataW.trod_struct ht h
      simp only [bulk] at hB
      rw [Nat.eq_of_beq_eq_true hs.1] at hl
      obtain ⟨as, h1, h2⟩ := reads shs fs.toList 0 n cs xs hs.2 (by simpa using hlen) (fun i f hi => hf i f (by simpa using hi)) hB (by omega)
      exact ⟨as, h1, by simpa using h2⟩
    · cases hs
  | .rows n s, t, fuel, cs, x, hs, hB, h => by
    simp only [shOK] at hs
    split at hs
    · rename_i m e ht
      simp only [Bool.and_eq_true] at hs
      obtain ⟨hm, he, hct, hse⟩ := hs
      have hm := Nat.eq_of_beq_eq_true hm
      have he := Nat.eq_of_beq_eq_true he
      have hct := Nat.eq_of_beq_eq_true hct
      subst hm
      obtain ⟨xs, k, rfl, rfl, hl, hlen, hf⟩ := DataW.trod_array ht h
      simp only [bulk] at hB
      obtain ⟨els, h1, h2, h3⟩ := read_rows (w := w) (B := B) (s := s) (fun i => (cs.drop (i * P.cellsOf e)).take (P.cellsOf e)) m fun i hi => by
        have := hf i hi
        have hx : xs[i]? = some xs[i] := List.getElem?_eq_getElem (by omega)
        rw [hx] at this
        refine read s e k _ xs[i] hse ?_ this
        have := bulk_mem (d := xs[i].1) (l := xs.map (·.1)) (List.mem_map.2 ⟨_, List.getElem_mem _, rfl⟩)
        omega
      refine ⟨els.flatten, ⟨els, h1, h2, rfl⟩, ?_⟩
      rw [chunks, he, List.take_of_length_le (by omega)] at h3
      exact h3
    · cases hs
  | .sl s, t, fuel, cs, x, hs, hB, h => by
    simp only [shOK] at hs
    split at hs
    · rename_i e ht
      simp only [Bool.and_eq_true] at hs
      obtain ⟨he, hw1, hse⟩ := hs
      have he := Nat.eq_of_beq_eq_true he
      have hw1 := Nat.le_of_ble_eq_true hw1
      rcases DataW.trod_slice ht h with ⟨rfl, rfl⟩ | ⟨a, len, cap, elems, rest, k, rfl, rfl, rfl, _, hlc, _, hlen, hf, _, _⟩
      · exact ⟨[.list .any [] 0], ⟨[], by simp, by simp, rfl⟩, by simp only [VRels, VRel]; exact ⟨_, [], rfl, ⟨none, 0, rfl, Nat.le_refl _, trivial, [], rfl, fun e => absurd rfl e⟩, rfl⟩⟩
      · simp only [bulk, List.length_map] at hB
        have each : ∀ i, i < len → ∃ c, w.cells? 0 (a.add (i * P.cellsOf e)) (P.cellsOf e) = some c ∧ ∃ y, elems[i]? = some y ∧ DataW.trod enc P w 0 (fun _ => true) true k e c = some y := by
          intro i hi
          have h1 := hf i hi
          have hx : elems[i]? = some elems[i] := List.getElem?_eq_getElem (by omega)
          rw [hx, Option.bind_eq_some_iff] at h1
          obtain ⟨c, h2, h3⟩ := h1
          exact ⟨c, h2, _, hx, h3⟩
        obtain ⟨els, h1, h2, h3⟩ := read_rows (w := w) (B := B) (s := s) (cellF w a (P.cellsOf e)) len fun i hi => by
          obtain ⟨c, hc, y, hy, hr⟩ := each i hi
          have : cellF w a (P.cellsOf e) i = c := by simp [cellF, hc]
          rw [this]
          refine read s e k c y hse ?_ hr
          have := bulk_mem (d := y.1) (l := elems.map (·.1)) (List.mem_map.2 ⟨_, List.mem_of_getElem? hy, rfl⟩)
          omega
        obtain ⟨h4, h5⟩ := read_cells (w := w) a (P.cellsOf e) len fun i hi => let ⟨c, hc, _⟩ := each i hi; ⟨c, hc⟩
        refine ⟨[.list .any els.flatten els.length], ⟨els, by omega, h2, rfl⟩, ?_⟩
        simp only [VRels, VRel]
        refine ⟨_, [], rfl, ⟨some a, cap, by rw [h1], by omega, trivial, _, h3, fun hne => ?_⟩, rfl⟩
        have h0 : ((List.range len).flatMap (cellF w a (P.cellsOf e)))[0]? = some (((List.range len).flatMap (cellF w a (P.cellsOf e))).head hne) := by
          rw [← List.head?_eq_getElem?, List.head?_eq_some_head]
        have hsp := (cell_at (by have := h5 0 _ h0; simpa [Addr.add] using this)).1
        obtain ⟨b, o, sp⟩ := a
        simp only at hsp; subst hsp
        refine ⟨b, o, rfl, fun i y hy => ?_⟩
        have := h5 i y hy
        have e : (⟨b, o, none⟩ : Addr).add i = ⟨b, o + i, none⟩ := by unfold Addr.add; split <;> simp_all
        rw [e] at this
        exact this
    · cases hs
theorem reads : ∀ (shs : List Sh) (fs : List Field) (o n : Nat) (cs : List Value) (xs : List (DataW H × List MemPlace)), shOKs P shs fs o = true → xs.length = fs.length →
    (∀ (i : Nat) (f : Field), fs[i]? = some f → DataW.trod enc P w 0 (fun _ => true) true n f.type ((cs.drop f.offset).take (P.cellsOf f.type)) = xs[i]?) → bulks (xs.map (·.1)) ≤ B → cs.length = o + Sh.widths shs →
    ∃ as, ShRels B shs as ∧ VRels (gAll w) as (cs.drop o)
  | [], [], o, n, cs, xs, hs, hl, hf, hB, hc => by
    refine ⟨[], rfl, ?_⟩
    simp only [Sh.widths] at hc
    rw [List.drop_eq_nil_of_le (by omega)]; simp [VRels]
  | s :: r, f :: fs, o, n, cs, [], hs, hl, hf, hB, hc => by simp at hl
  | s :: r, f :: fs, o, n, cs, x :: xs, hs, hl, hf, hB, hc => by
    simp only [shOKs, Bool.and_eq_true] at hs
    obtain ⟨ho, hw, hsf, hr⟩ := hs
    have ho := Nat.eq_of_beq_eq_true ho
    have hw := Nat.eq_of_beq_eq_true hw
    simp only [List.map_cons, bulks] at hB
    simp only [Sh.widths] at hc
    have h0 := hf 0 f rfl
    obtain ⟨a, h1, h2⟩ := read s f.type n _ x hsf (by omega) (by simpa using h0)
    obtain ⟨b, h3, h4⟩ := reads r fs (o + s.width) n cs xs hr (by simpa using hl) (fun i g hi => by simpa using hf (i + 1) g (by simpa using hi)) (by omega) (by omega)
    refine ⟨a ++ b, ⟨a, b, rfl, h1, h3⟩, ?_⟩
    have := h2.append h4
    rw [ho, hw, ← List.drop_drop, List.take_append_drop] at this
    exact this
  | [], f :: fs, o, n, cs, xs, hs, hl, hf, hB, hc => by simp [shOKs] at hs
  | s :: r, [], o, n, cs, xs, hs, hl, hf, hB, hc => by simp [shOKs] at hs
end
end
end
end Go.EF
