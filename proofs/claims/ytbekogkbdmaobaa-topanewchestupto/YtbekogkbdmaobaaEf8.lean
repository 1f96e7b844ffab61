/- Each operation of the machine does what the resolved operation says (fifth part: len, append, copy, min, max, maps). No conditions. -/
import Derived.Test.YtbekogkbdmaobaaEf7
namespace Go.EF
open Go Go.RowKit

section
variable {P : Program} {G : Gh} {st : St} {w : World} {x : AV}

theorem mapOf_rel {m : AV} {y : Value} {a clock : Nat} {es : List MEnt} (hR : Rel P G st w) (r : VRel G m y) (h : mapOf st m = some (a, es, clock)) :
    ∃ b rs, m = .map a ∧ y = .map (some b) ∧ G.mu a = some b ∧ st.get a = some (.map es clock) ∧ w.heap[b]? = some (.map rs clock) ∧ EntsRel G es rs.toList := by
  unfold mapOf at h
  split at h
  · rename_i a'
    split at h
    · rename_i es' c' hg; cases h
      simp only [VRel] at r; obtain ⟨b, h1, rfl⟩ := r
      obtain ⟨b', rs, h2, h3, h4⟩ := hR.obj _ _ _ hg h1
      rw [h1] at h2; cases h2
      exact ⟨b, rs, rfl, rfl, h1, hg, h3, h4⟩
    · cases h
  · cases h

theorem EntsRel.length {G : Gh} : ∀ {es : List MEnt} {rs : List MapEntry}, EntsRel G es rs → es.length = rs.length
  | [], rs, h => by simp only [EntsRel] at h; subst h; rfl
  | e :: es, rs, h => by simp only [EntsRel] at h; obtain ⟨r, rs', rfl, _, _, _, h⟩ := h; simp [EntsRel.length h]

theorem EntsRel.get {G : Gh} : ∀ {es : List MEnt} {rs : List MapEntry}, EntsRel G es rs → ∀ (i : Nat) (e : MEnt), es[i]? = some e → ∃ r : MapEntry, rs[i]? = some r ∧ r.key = e.key ∧ r.born = e.born ∧ VRel G e.val r.val
  | [], rs, h, i, e, h' => by simp at h'
  | e :: es, rs, h, i, e', h' => by
    simp only [EntsRel] at h; obtain ⟨r, rs', rfl, h1, h2, h3, h⟩ := h
    cases i with
    | zero => simp at h'; subst h'; exact ⟨r, rfl, h1, h2, h3⟩
    | succ i => simp at h'; obtain ⟨r', g, g'⟩ := EntsRel.get h i e' h'; exact ⟨r', by simpa using g, g'⟩

theorem EntsRel.append {G : Gh} : ∀ {es : List MEnt} {rs : List MapEntry} {e : MEnt} {r : MapEntry}, EntsRel G es rs → r.key = e.key → r.born = e.born → VRel G e.val r.val → EntsRel G (es ++ [e]) (rs ++ [r])
  | [], rs, e, r, h, h1, h2, h3 => by simp only [EntsRel] at h; subst h; exact ⟨r, [], rfl, h1, h2, h3, rfl⟩
  | e' :: es, rs, e, r, h, h1, h2, h3 => by
    simp only [EntsRel] at h; obtain ⟨r', rs', rfl, g1, g2, g3, h⟩ := h
    exact ⟨r', rs' ++ [r], rfl, g1, g2, g3, EntsRel.append h h1 h2 h3⟩

theorem EntsRel.set {G : Gh} : ∀ {es : List MEnt} {rs : List MapEntry} (i : Nat) {e : MEnt} {r : MapEntry}, EntsRel G es rs → r.key = e.key → r.born = e.born → VRel G e.val r.val → EntsRel G (es.set i e) (rs.set i r)
  | [], rs, i, e, r, h, h1, h2, h3 => by simp only [EntsRel] at h; subst h; simp [EntsRel]
  | e' :: es, rs, i, e, r, h, h1, h2, h3 => by
    simp only [EntsRel] at h; obtain ⟨r', rs', rfl, g1, g2, g3, h⟩ := h
    cases i with
    | zero => exact ⟨r, rs', rfl, h1, h2, h3, h⟩
    | succ i => exact ⟨r', rs'.set i r, rfl, g1, g2, g3, EntsRel.set i h h1 h2 h3⟩

theorem EntsRel.find {G : Gh} (b : Int) : ∀ {es : List MEnt} {rs : List MapEntry}, EntsRel G es rs → rs.findIdx? (fun e => (e.born : Int) == b) = es.findIdx? (fun e => (e.born : Int) == b)
  | [], rs, h => by simp only [EntsRel] at h; subst h; rfl
  | e' :: es, rs, h => by
    simp only [EntsRel] at h; obtain ⟨r', rs', rfl, g1, g2, g3, h⟩ := h
    simp only [List.findIdx?_cons, g2, EntsRel.find b h]

theorem run_len_str {argTypes : Array TypeId} {ty : TypeId} {args : Array Value} {t : TypeId} {y : Value} {b : ByteArray} (h1 : argTypes[0]? = some t) (h2 : args[0]? = some y) (hu : P.underlying t = some .string) (hR : Rel P G st w)
    (rx : VRel G (.v (.string b)) y) : OpOK P G st (.int b.size) w (do pure (Next.value (← Builtin.len_ argTypes ty args))) := by
  simp only [VRel] at rx; subst rx
  exact OpOK.same (y := goInt b.size) (by simp [Builtin.len_, h1, h2, run_underlying_of hu]) hR (by simp [VRel, goInt])

theorem run_len_sl {argTypes : Array TypeId} {ty e : TypeId} {args : Array Value} {t : TypeId} {y : Value} {x : AV} {n : Nat} (h1 : argTypes[0]? = some t) (h2 : args[0]? = some y) (hu : P.underlying t = some (.slice e)) (hR : Rel P G st w)
    (rx : VRel G x y) (h : (∃ o c, x = .list o c n) ∨ (∃ a o c, x = .ms a o n c) ∨ (∃ a, x = .mx a n)) : OpOK P G st (.int n) w (do pure (Next.value (← Builtin.len_ argTypes ty args))) := by
  rcases h with ⟨o, c, rfl⟩ | ⟨a, o, c, rfl⟩ | ⟨a, rfl⟩
  · simp only [VRel] at rx; obtain ⟨base, cap, rfl, _⟩ := rx
    exact OpOK.same (y := goInt n) (by simp [Builtin.len_, h1, h2, run_underlying_of hu]) hR (by simp [VRel, goInt])
  · simp only [VRel] at rx; obtain ⟨b, h3, rfl⟩ := rx
    exact OpOK.same (y := goInt n) (by simp [Builtin.len_, h1, h2, run_underlying_of hu]) hR (by simp [VRel, goInt])
  · simp only [VRel] at rx; obtain ⟨b, c, h3, rfl⟩ := rx
    exact OpOK.same (y := goInt n) (by simp [Builtin.len_, h1, h2, run_underlying_of hu]) hR (by simp [VRel, goInt])

theorem run_len_mp {argTypes : Array TypeId} {ty k e : TypeId} {args : Array Value} {t : TypeId} {y : Value} {x : AV} {a clock : Nat} {es : List MEnt} (h1 : argTypes[0]? = some t) (h2 : args[0]? = some y) (hu : P.underlying t = some (.map k e)) (hR : Rel P G st w)
    (rx : VRel G x y) (h : mapOf st x = some (a, es, clock)) : OpOK P G st (.int es.length) w (do pure (Next.value (← Builtin.len_ argTypes ty args))) := by
  obtain ⟨b, rs, e1, rfl, h3, h4, h5, h6⟩ := mapOf_rel hR rx h
  have hl := h6.length
  have hg : (getObj b).run P w = .ok (.map rs clock) w := by simp [getObj, Sem.run, h5]
  have hl' : rs.size = es.length := by simpa using hl.symm
  exact OpOK.same (y := goInt rs.size) (by simp [Builtin.len_, h1, h2, run_underlying_of hu, hg]) hR (by simp [VRel, goInt, hl'])

/-! ### the source of an append or a copy -/
theorem src_rel {sz k : Nat} {y : AV} {v : Value} {ys : List AV} (hR : Rel P G st w) (r : VRel G y v) (h : srcCells st sz y = some (ys, k)) :
    ∃ us : Array Value, VRels G ys us.toList ∧ ∀ w' : World, w'.heap = w.heap → (Builtin.lenOf v).run P w' = .ok k w' ∧
      (∀ n, n ≤ k → ys.length = k * sz → (Builtin.firstCells sz n v).run P w' = .ok (us.extract 0 (n * sz)) w') := by
  unfold srcCells at h
  split at h
  · rename_i own cs n
    split at h
    · rename_i hl; cases h
      simp only [VRel] at r; obtain ⟨base, cap, rfl, hnc, hown, zs, hv, hf⟩ := r
      refine ⟨zs.toArray, by simpa using hv, fun w' hw => ⟨by simp [Builtin.lenOf], fun n' hn hlen => ?_⟩⟩
      have hl2 := hv.length
      by_cases hz : zs = []
      · subst hz
        simp at hl2; subst hl2
        have h0 : n' * sz = 0 := by
          have h3 : n' * sz ≤ k * sz := Nat.mul_le_mul_right _ hn
          simp at hlen; omega
        cases base with
        | none => simp [Builtin.firstCells]
        | some a => simp [Builtin.firstCells, h0, loadCells, loadCellsFrom]
      · obtain ⟨b, o, rfl, e2⟩ := hf hz
        obtain ⟨vs, t, fr, g1, g2⟩ := fz_block hR e2 hz
        have h3 : n' * sz ≤ k * sz := Nat.mul_le_mul_right _ hn
        simp only [Builtin.firstCells]
        rcases fz_extract g2 (off := 0) (sz := n' * sz) (by omega) with h4 | h4
        · rw [run_loadCells (by rw [hw]; exact g1) (by omega)]
          have := fz_drop g2 (off := 0) (sz := n' * sz) (by omega)
          simp only [Nat.add_zero, List.drop_zero] at this
          congr 1
          apply Array.ext'
          rw [this]; simp [List.extract_eq_drop_take']
        · simp [h4, loadCells, loadCellsFrom]
    · cases h
  · rename_i a off len cap
    split at h
    · rename_i cs hg
      split at h
      · rename_i hl; cases h
        simp only [VRel] at r; obtain ⟨b, h1, rfl⟩ := r
        obtain ⟨b', vs, t, h2, h3, h4⟩ := hR.obj _ _ _ hg h1
        rw [h1] at h2; cases h2
        have hl4 := h4.length
        refine ⟨vs.extract off (off + k * sz), by rw [extract_list]; exact (h4.drop _).take _, fun w' hw => ⟨by simp [Builtin.lenOf], fun n' hn hlen => ?_⟩⟩
        have h5 : n' * sz ≤ k * sz := Nat.mul_le_mul_right _ hn
        simp only [Builtin.firstCells]
        rw [run_loadCells (by rw [hw]; exact h3) (by simp at hl4; omega)]
        congr 1
        apply Array.ext'
        simp only [Array.toList_extract, List.extract_eq_drop_take', List.drop_zero, Nat.sub_zero]
        rw [List.drop_take, List.drop_take]
        rw [List.take_take]
        congr 1; omega
      · cases h
    · cases h
  · cases h

theorem growBy_le : ∀ (rounds c n : Nat), 256 ≤ c → Builtin.growBy n rounds c ≤ 2 ^ rounds * c
  | 0, c, n, h => by simp [Builtin.growBy]
  | r + 1, c, n, h => by
    unfold Builtin.growBy
    split
    · calc c = 1 * c := by omega
        _ ≤ 2 ^ (r + 1) * c := Nat.mul_le_mul_right _ Nat.one_le_two_pow
    · have h1 : (c + 768) / 4 ≤ c := by omega
      have h2 := growBy_le r (c + (c + 768) / 4) n (by omega)
      calc _ ≤ 2 ^ r * (c + (c + 768) / 4) := h2
        _ ≤ 2 ^ r * (2 * c) := Nat.mul_le_mul_left _ (by omega)
        _ = 2 ^ (r + 1) * c := by rw [Nat.pow_succ, Nat.mul_assoc]

theorem nextcap_le (need cap : Nat) (h : cap < need) : Builtin.nextslicecap need cap ≤ 16 * need := by
  unfold Builtin.nextslicecap
  split
  · omega
  · split
    · omega
    · have := growBy_le 4 cap need (by omega)
      omega

/-- An append that finds no room. -/
theorem run_append_new {argTypes : Array TypeId} {ty t t' e : TypeId} {d' : TypeDesc} {args : Array Value} {base : Option Addr} {sLen cap : Nat} {v : Value} {i : TypeInfo} {k : Nat} {old us : Array Value} {z : Value}
    (h1 : argTypes[0]? = some t) (h2 : argTypes[1]? = some t') (h3 : args[0]? = some (.slice base sLen cap)) (h4 : args[1]? = some v) (hu : P.underlying t = some (.slice e)) (hu' : P.underlying t' = some d') (hd' : ∀ k, d' ≠ .int k)
    (hi : P.info? e = some i) (hp : 0 < i.bytes) (hz : i.zero = some z) (hroom : cap < sLen + k) (hsz : (sLen + k) * i.bytes ≤ 2 ^ 44)
    (hl : ∀ w' : World, w'.heap = w.heap → (Builtin.lenOf v).run P w' = .ok k w') (ho : ∀ w' : World, w'.heap = w.heap → (Builtin.firstCells i.size sLen (.slice base sLen cap)).run P w' = .ok old w')
    (hf : ∀ w' : World, w'.heap = w.heap → (Builtin.firstCells i.size k v).run P w' = .ok us w') :
    ∃ (cap' : Nat) (cs : Array Value), sLen + k ≤ cap' ∧ cs = old ++ us ++ Builtin.zeroCells z.cells (cap' - (sLen + k)) ∧
      (Builtin.append_ argTypes ty args).run P w = .ok (.slice (some ⟨w.heap.size, 0, none⟩) (sLen + k) cap') (({ w with drawn := w.drawn + 1 } : World).alloc (.cells cs e)) := by
  have hs : tsize P e = some i.size := by simp [tsize, hi]
  have hn1 : ¬ sLen + k ≤ cap := by omega
  have hneed : sLen + k ≤ 2 ^ 44 := by
    have : (sLen + k) * 1 ≤ (sLen + k) * i.bytes := Nat.mul_le_mul_left _ hp
    omega
  have hcap : ¬ Builtin.nextslicecap (sLen + k) cap * i.bytes > 2 ^ 48 := by
    have h5 := nextcap_le (sLen + k) cap hroom
    have h6 : Builtin.nextslicecap (sLen + k) cap * i.bytes ≤ 16 * (sLen + k) * i.bytes := Nat.mul_le_mul_right _ h5
    have h7 : 16 * (sLen + k) * i.bytes = 16 * ((sLen + k) * i.bytes) := Nat.mul_assoc _ _ _
    omega
  refine ⟨(Question.appendCap (sLen + k) cap e).cut (w.tape w.drawn (Question.appendCap (sLen + k) cap e)), _, by simp [Question.cut], rfl, ?_⟩
  have hd : (d' matches .int _) = false := by cases d' <;> first | rfl | exact absurd rfl (hd' _)
  have hb0 : i.bytes ≠ 0 := by omega
  have hzr : ∀ w, (zeroValue e).run P w = .ok z w := fun w => by simp [zeroValue, typeInfo, hi, hz]
  simp only [Builtin.append_, h1, h2, h3, h4, Sem.run_bind, run_underlying_of hu, run_underlying_of hu', Result.andThen_ok, run_sizeOf_of hs, Sem.run_pure, hd, Bool.false_eq_true, if_false, hl w rfl, hn1]
  simp only [typeInfo, run_program, hi, Result.andThen_ok, Sem.run_bind, Sem.run_pure, hb0, or_false, and_false, if_false, hcap, run_choose, Question.forced, Bool.false_eq_true, run_askRoom]
  rw [ho { w with drawn := w.drawn + 1 } rfl]
  simp only [Result.andThen_ok, Bool.not_false, if_true]
  rw [hf { w with drawn := w.drawn + 1 } rfl]
  simp only [Result.andThen_ok, hzr, newRow, run_newObj, Sem.run_bind, Sem.run_pure]
  rfl

/-- An append that finds room. -/
theorem run_append_in {argTypes : Array TypeId} {ty t t' e : TypeId} {d' : TypeDesc} {args : Array Value} {b o : Nat} {sLen cap : Nat} {v : Value} {sz : Nat} {k : Nat} {us vs : Array Value} {te : TypeId}
    (h1 : argTypes[0]? = some t) (h2 : argTypes[1]? = some t') (h3 : args[0]? = some (.slice (some ⟨b, o, none⟩) sLen cap)) (h4 : args[1]? = some v) (hu : P.underlying t = some (.slice e)) (hu' : P.underlying t' = some d') (hd' : ∀ k, d' ≠ .int k)
    (hs : tsize P e = some sz) (hroom : sLen + k ≤ cap)
    (hl : ∀ w' : World, w'.heap = w.heap → (Builtin.lenOf v).run P w' = .ok k w')
    (hf : ∀ w' : World, w'.heap = w.heap → (Builtin.firstCells sz k v).run P w' = .ok us w')
    (hb : w.heap[b]? = some (.cells vs te (0, 0))) (hone : ∀ y ∈ us.toList, y.oneCell' = true) (hfit : o + sLen * sz + us.size ≤ vs.size) :
    (Builtin.append_ argTypes ty args).run P w = .ok (.slice (some ⟨b, o, none⟩) (sLen + k) cap) (w.putObj b (.cells (spliceA vs (o + sLen * sz) us.toList) te (0, 0))) := by
  have hd : (d' matches .int _) = false := by cases d' <;> first | rfl | exact absurd rfl (hd' _)
  simp only [Builtin.append_, h1, h2, h3, h4, Sem.run_bind, run_underlying_of hu, run_underlying_of hu', Result.andThen_ok, run_sizeOf_of hs, Sem.run_pure, hd, Bool.false_eq_true, if_false, hl w rfl, hroom, if_true, Bool.not_false, hf w rfl, add_none]
  rw [run_storeCells us.toList 0 w b (o + sLen * sz) vs te hb hone (by simpa using hfit)]
  rfl

/-- An append of nothing. -/
theorem run_append_nil {argTypes : Array TypeId} {ty t t' e : TypeId} {d' : TypeDesc} {args : Array Value} {base : Option Addr} {sLen cap : Nat} {v : Value} {sz : Nat}
    (h1 : argTypes[0]? = some t) (h2 : argTypes[1]? = some t') (h3 : args[0]? = some (.slice base sLen cap)) (h4 : args[1]? = some v) (hu : P.underlying t = some (.slice e)) (hu' : P.underlying t' = some d') (hd' : ∀ k, d' ≠ .int k)
    (hs : tsize P e = some sz) (hroom : sLen ≤ cap)
    (hl : ∀ w' : World, w'.heap = w.heap → (Builtin.lenOf v).run P w' = .ok 0 w')
    (hf : ∀ w' : World, w'.heap = w.heap → (Builtin.firstCells sz 0 v).run P w' = .ok #[] w') :
    (Builtin.append_ argTypes ty args).run P w = .ok (.slice base sLen cap) w := by
  have hd : (d' matches .int _) = false := by cases d' <;> first | rfl | exact absurd rfl (hd' _)
  simp only [Builtin.append_, h1, h2, h3, h4, Sem.run_bind, run_underlying_of hu, run_underlying_of hu', Result.andThen_ok, run_sizeOf_of hs, Sem.run_pure, hd, Bool.false_eq_true, if_false, hl w rfl, Nat.add_zero, hroom, if_true, Bool.not_false, hf w rfl]
  cases base <;> simp [storeCells]

/-- A new row of an append: frozen up to its length, and a growing row from there. -/
theorem new_row (hR : Rel P G st w) (e : TypeId) {cs : List AV} {vs : List Value} {n sz cap : Nat} (rest : List Value) (hv : VRels G cs vs) (hl : cs.length = n * sz) (hcap : n ≤ cap) (hrest : rest.length = (cap - n) * sz) :
    ∃ G', G.le G' ∧ Rel P G' (st.alloc (.arr true sz)) (w.alloc (.cells (vs ++ rest).toArray e)) ∧ VRel G' (.list (.tok st.next) cs n) (.slice (some ⟨w.heap.size, 0, none⟩) n cap) := by
  have hl2 := hv.length
  obtain ⟨G1, h1, h2, h3, h4, h5, h6⟩ := hR.alloc_frozen (vs ++ rest).toArray e (n * sz)
  have hsz : cap * sz ≤ ((vs ++ rest).toArray).size := by
    simp only [List.size_toArray, List.length_append, hrest]
    rw [← hl2, hl, ← Nat.add_mul]; exact Nat.mul_le_mul_right _ (by omega)
  obtain ⟨G2, k1, k2, k3, k4⟩ := h2.add_arr (b := w.heap.size) (n := n) (cap := cap) (sz := sz) (World.alloc_heap_new _ _) hsz hcap
    (by rw [h1.w0]; exact hR.hsize) h4 (fun a' e' => by rw [h5] at e'; have := (hR.fresh a' _ e').2; omega)
    (fun a' s' n' c' g e' => by
      rw [h6] at e'
      obtain ⟨b', n'', cap'', vs'', t'', g1, g2, _⟩ := hR.arr a' s' g
      rw [e'] at g1; cases g1
      have := (Array.getElem?_eq_some_iff.1 g2).1; omega)
  refine ⟨G2, h1.trans k1, k2, ?_⟩
  refine list_rel (ys := vs) ((hv.mono h1).mono k1) ?_ hcap ⟨_, k3, rfl⟩
  intro i y ey
  rw [k4]
  have hi : i < vs.length := (List.getElem?_eq_some_iff.1 ey).1
  refine h3 i y ?_
  rw [List.getElem?_take, if_pos (by omega)]
  show (vs ++ rest)[i]? = _
  rw [List.getElem?_append_left hi]; exact ey

theorem ok_append {argTypes : Array TypeId} {ty t t' e : TypeId} {d' : TypeDesc} {args : Array Value} {i : TypeInfo} {z : List AV} {x y r : AV} {vx vy : Value} {st' : St}
    (h1 : argTypes[0]? = some t) (h2 : argTypes[1]? = some t') (h3 : args[0]? = some vx) (h4 : args[1]? = some vy) (hu : P.underlying t = some (.slice e)) (hu' : P.underlying t' = some d') (hd' : ∀ k, d' ≠ .int k)
    (hi : P.info? e = some i) (hz : tzero P e = some z) (hp : 0 < i.bytes ∧ 0 < i.size) (hR : Rel P G st w) (rx : VRel G x vx) (ry : VRel G y vy) (ρ : Opd → AV) (a b : Opd) (ha : ρ a = x) (hb : ρ b = y)
    (h : evOp P ρ st (.append i.size i.bytes z a b) = some (r, st')) :
    OpOK P G st' r w (do pure (Next.value (← Builtin.append_ argTypes ty args))) := by
  obtain ⟨zv, i', g1, g2, g3, g4, g5⟩ := tzero_run hz
  rw [hi] at g1; cases g1
  have hs : tsize P e = some i.size := by simp [tsize, hi]
  simp only [evOp, ha, hb] at h
  split at h
  · cases h
  · rename_i ys k hsrc
    split at h
    · rename_i hone
      obtain ⟨us, ru, hus⟩ := src_rel hR ry hsrc
      have hlu := ru.length
      have hlen : ∀ w' : World, w'.heap = w.heap → (Builtin.lenOf vy).run P w' = .ok k w' := fun w' hw => (hus w' hw).1
      have hysk : ys.length = k * i.size := by
        unfold srcCells at hsrc
        split at hsrc
        · split at hsrc
          · cases hsrc; assumption
          · cases hsrc
        · split at hsrc
          · split at hsrc
            · cases hsrc; simp; omega
            · cases hsrc
          · cases hsrc
        · cases hsrc
      have hfirst : ∀ w' : World, w'.heap = w.heap → (Builtin.firstCells i.size k vy).run P w' = .ok us w' := fun w' hw => by
        rw [(hus w' hw).2 k (Nat.le_refl _) hysk]
        congr 1
        have : us.size = k * i.size := by rw [← hysk, hlu]; simp
        rw [← this]; simp
      have hones := ones_rel hone ru
      split at h
      · -- a list
        rename_i own cs n
        split at h
        · rename_i hk; subst hk
          cases h
          have rx0 := rx
          simp only [VRel] at rx; obtain ⟨base, cap, rfl, hnc, _⟩ := rx
          have hu0 : us = #[] := by
            apply Array.eq_empty_of_size_eq_zero
            simp at hysk; subst hysk; simpa using hlu.symm
          subst hu0
          exact OpOK.same (run_append_nil h1 h2 h3 h4 hu hu' hd' hs hnc hlen hfirst) hR rx0
        · rename_i hk
          split at h
          · rename_i hc
            obtain ⟨c1, c2, c3⟩ := hc
            have rx0 := rx
            simp only [VRel] at rx; obtain ⟨base, cap, rfl, hnc, hown, zs, hv, hf⟩ := rx
            have hlz := hv.length
            -- the old cells
            obtain ⟨old, ro, hold⟩ := src_rel (sz := i.size) (k := n) (ys := cs) hR rx0 (by simp [srcCells, c1])
            have hlo := ro.length
            have hold' : ∀ w' : World, w'.heap = w.heap → (Builtin.firstCells i.size n (.slice base n cap)).run P w' = .ok old w' := fun w' hw => by
              rw [(hold w' hw).2 n (Nat.le_refl _) c1]
              congr 1
              have : old.size = n * i.size := by rw [← c1, hlo]; simp
              rw [← this]; simp
            have fresh : ∀ (st0 : St), Rel P G st0 w → cap < n + k → ∃ nx yv w' G', (do pure (Next.value (← Builtin.append_ argTypes ty args)) : Sem Next).run P w = .ok nx w' ∧ (nx = .value yv ∨ (nx = .skip ∧ yv = undef)) ∧ G.le G' ∧
                Rel P G' (st0.alloc (.arr true i.size)) w' ∧ VRel G' (.list (.tok st0.next) (cs ++ ys) (n + k)) yv := by
              intro st0 hR0 hroom
              obtain ⟨cap', cs', q1, q2, q3⟩ := run_append_new (P := P) (w := w) (ty := ty) h1 h2 h3 h4 hu hu' hd' hi hp.1 g2 hroom c2 hlen hold' hfirst
              have hR1 := hR0.drewN 1
              have hrest : (Builtin.zeroCells zv.cells (cap' - (n + k))).toList.length = (cap' - (n + k)) * i.size := by simp [Builtin.zeroCells, g3]
              obtain ⟨G', k1, k2, k3⟩ := new_row hR1 e (n := n + k) (cap := cap') (Builtin.zeroCells zv.cells (cap' - (n + k))).toList (ro.append ru) (by rw [List.length_append, c1, hysk, Nat.add_mul]) q1 hrest
              refine ⟨_, _, _, G', by rw [Sem.run_bind, q3]; rfl, .inl rfl, k1, ?_, k3⟩
              have e1 : cs' = ((old.toList ++ us.toList) ++ (Builtin.zeroCells zv.cells (cap' - (n + k))).toList).toArray := by rw [q2]; apply Array.ext'; simp
              rw [e1]; exact k2
            split at h
            · cases h
              simp only [OwnRel] at hown
              obtain ⟨nx, yv, w', G', p1, p2, p3, p4, p5⟩ := fresh st hR (by omega)
              exact ⟨nx, yv, w', G', p1, p2, p3, p4, p5⟩
            · rename_i a'
              split at h
              · rename_i s' hlive
                split at h
                · rename_i hss; subst hss; cases h
                  simp only [OwnRel] at hown
                  obtain ⟨b', hb1, rfl⟩ := hown
                  by_cases hroom : n + k ≤ cap
                  · obtain ⟨b'', n'', cap'', vs, te, f1, f2, f3, f4, f5, f6, f7⟩ := hR.arr a' _ hlive
                    rw [hb1] at f1; cases f1
                    have hfit : 0 + n * i.size + us.size ≤ vs.size := by
                      have : us.size = k * i.size := by rw [← hysk, hlu]; simp
                      have h5 : (n + k) * i.size ≤ cap * i.size := Nat.mul_le_mul_right _ hroom
                      rw [Nat.add_mul] at h5; omega
                    have hrun := run_append_in (P := P) (w := w) (ty := ty) h1 h2 h3 h4 hu hu' hd' hs hroom hlen hfirst f2 hones hfit
                    rw [Nat.zero_add] at hrun
                    obtain ⟨G', k1, k2, k3, k4⟩ := hR.grow hlive hb1 f2 (ys := us.toList) (k := k) (by rw [← hlu, hysk]) hroom
                    refine ⟨_, _, _, G', by rw [Sem.run_bind, hrun]; rfl, .inl rfl, k1, k2, ?_⟩
                    refine list_rel (ys := zs ++ us.toList) ((hv.mono k1).append (ru.mono k1)) ?_ hroom ⟨_, k3, rfl⟩
                    intro j yj ej
                    rw [List.getElem?_append] at ej
                    by_cases hj : j < zs.length
                    · rw [if_pos hj] at ej
                      obtain ⟨b3, o3, e3, e4⟩ := hf (by intro e; subst e; simp at hj)
                      cases e3
                      exact k1.fz _ _ _ (e4 j yj ej)
                    · rw [if_neg hj] at ej
                      have := k4 _ _ ej
                      rw [← this]; congr 1; omega
                  · obtain ⟨nx, yv, w', G', p1, p2, p3, p4, p5⟩ := fresh (st.set a' (.arr false i.size)) (hR.kill_arr a' _ ⟨_, hlive⟩) (by omega)
                    rw [St.next_set] at p5
                    exact ⟨nx, yv, w', G', p1, p2, p3, p4, p5⟩
                · cases h
              · cases h
            · cases h
          · cases h
      · -- a slice over an object
        rename_i a' off len cap
        split at h
        · rename_i cs hcs
          split at h
          · rename_i hc0
            obtain ⟨c0, c0'⟩ := hc0
            have rx0 := rx
            simp only [VRel] at rx; obtain ⟨bb, hm, rfl⟩ := rx
            obtain ⟨b', vs, te, h5, h6, h7⟩ := hR.obj _ _ _ hcs hm
            rw [hm] at h5; cases h5
            have hl7 := h7.length
            have husz : us.size = k * i.size := by rw [← hysk, hlu]; simp
            split at h
            · rename_i hroom; cases h
              have h8 : (len + k) * i.size ≤ cap * i.size := Nat.mul_le_mul_right _ hroom
              rw [Nat.add_mul] at h8
              have hrun := run_append_in (P := P) (w := w) (ty := ty) h1 h2 h3 h4 hu hu' hd' hs hroom hlen hfirst h6 hones (by simp at hl7; omega)
              exact ⟨_, _, _, G, by rw [Sem.run_bind, hrun]; rfl, .inl rfl, .refl _, put_cells hR (off + len * i.size) hcs hm h6 h7 ru, by simp [VRel, hm]⟩
            · rename_i hroom
              split at h
              · rename_i hc; cases h
                obtain ⟨c2, c3⟩ := hc
                have h8 : len * i.size ≤ cap * i.size := Nat.mul_le_mul_right _ c0'
                obtain ⟨old, ro, hold⟩ := src_rel (sz := i.size) (k := len) (ys := (cs.drop off).take (len * i.size)) hR rx0 (by simp [srcCells, hcs]; omega)
                have hlo := ro.length
                have c1 : ((cs.drop off).take (len * i.size)).length = len * i.size := by simp; omega
                have hold' : ∀ w' : World, w'.heap = w.heap → (Builtin.firstCells i.size len (.slice (some ⟨bb, off, none⟩) len cap)).run P w' = .ok old w' := fun w' hw => by
                  rw [(hold w' hw).2 len (Nat.le_refl _) c1]
                  congr 1
                  have : old.size = len * i.size := by rw [← c1, hlo]; simp
                  rw [← this]; simp
                obtain ⟨cap', cs', q1, q2, q3⟩ := run_append_new (P := P) (w := w) (ty := ty) h1 h2 h3 h4 hu hu' hd' hi hp.1 g2 (by omega) c2 hlen hold' hfirst
                have hR1 := hR.drewN 1
                have hrest : (Builtin.zeroCells zv.cells (cap' - (len + k))).toList.length = (cap' - (len + k)) * i.size := by simp [Builtin.zeroCells, g3]
                obtain ⟨G', k1, k2, k3⟩ := new_row hR1 e (n := len + k) (cap := cap') (Builtin.zeroCells zv.cells (cap' - (len + k))).toList (ro.append ru) (by rw [List.length_append, c1, hysk, Nat.add_mul]) q1 hrest
                refine ⟨_, _, _, G', by rw [Sem.run_bind, q3]; rfl, .inl rfl, k1, ?_, k3⟩
                have e1 : cs' = ((old.toList ++ us.toList) ++ (Builtin.zeroCells zv.cells (cap' - (len + k))).toList).toArray := by rw [q2]; apply Array.ext'; simp
                rw [e1]; exact k2
              · cases h
          · cases h
        · cases h
      · cases h
    · cases h

end
end Go.EF
