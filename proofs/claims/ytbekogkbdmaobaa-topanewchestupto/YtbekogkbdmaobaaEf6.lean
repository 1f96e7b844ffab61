/- Each operation of the machine does what the resolved operation says (third part). No conditions. -/
import Derived.Test.YtbekogkbdmaobaaEf5
namespace Go.EF
open Go Go.RowKit

section
variable {P : Program} {G : Gh} {st : St} {w : World} {x : AV}

theorem rep_length {α : Type} (z : List α) (n : Nat) : (rep z n).length = n * z.length := by
  induction n with
  | zero => simp [rep]
  | succ n ih => simp only [rep, List.length_append, ih, Nat.add_mul]; omega

theorem rep_get {α : Type} (z : List α) (hz : 0 < z.length) : ∀ (n i : Nat), i < n * z.length → (rep z n)[i]? = z[i % z.length]?
  | 0, i, h => by simp at h
  | n + 1, i, h => by
    simp only [rep, List.getElem?_append]
    rw [Nat.add_mul] at h
    by_cases hi : i < z.length
    · rw [if_pos hi, Nat.mod_eq_of_lt hi]
    · rw [if_neg hi, rep_get z hz n _ (by omega)]
      congr 1
      rw [← Nat.mod_eq_sub_mod (by omega)]

theorem zeros_eq (z : Array Value) (hz : 0 < z.size) (n : Nat) : ((Array.range (n * z.size)).map (fun i => z[i % z.size]!)).toList = rep z.toList n := by
  apply List.ext_getElem?
  intro i
  by_cases hi : i < n * z.size
  · rw [rep_get z.toList (by simpa using hz) n i (by simpa using hi)]
    have hm : i % z.size < z.size := Nat.mod_lt _ hz
    simp [hi, hm]
  · rw [List.getElem?_eq_none (by simp; omega), List.getElem?_eq_none (by rw [rep_length]; simp; omega)]

theorem ok_build_struct {t : TypeId} {fields : Array Field} {z cs : List AV} {places : List (Nat × Nat)} {parts : Array (Nat × Operand)} {ps : List (Nat × Nat × Opd)} {N : Nat} {fr : Nat → AV} {a : Act}
    (hu : P.underlying t = some (.struct fields)) (hz : tzero P t = some z) (hp : fields.toList.mapM (fun f => (tsize P f.type).map fun s => (f.offset, s)) = some places)
    (hc : compParts (fun i : Nat => places[i]?) parts.toList = some ps) (hF : FrRel G N fr a.tmps) (hR : Rel P G st w) (h : fillA (·.ev fr) z ps = some cs) :
    OpOK P G st (.agg cs) w (do pure (Next.value (← Instr.build t (parts.map fun (i, x) => (i, a.eval x))))) := by
  obtain ⟨v, i, h1, h2, h3, h4, h5⟩ := tzero_run hz
  obtain ⟨vs, g1, g2⟩ := fill_rel hF _ parts.toList ps z cs v.cells hc h (h5 G)
  refine OpOK.same (y := .agg vs) ?_ hR (by simp only [VRel]; exact ⟨_, rfl, g2⟩)
  have hm : ∀ w, (fields.mapM fun f => (do pure (f.offset, ← sizeOf f.type) : Sem (Nat × Nat))).run P w = .ok places.toArray w := fun w => by
    rw [Array.mapM_eq_mapM_toList, Sem.run_map, mapM_some_get (P := P) _ _ (fun f b e w => ?_) _ _ hp w]
    · rfl
    · rw [Option.map_eq_some_iff] at e; obtain ⟨s, e1, rfl⟩ := e
      simp [run_sizeOf_of e1]
  have g1' : Instr.fill (fun x : Nat => places[x]?) v.cells (List.map (fun x => (x.fst, a.eval x.snd)) parts.toList) = some vs := g1
  simp only [Instr.build, Sem.run_bind, h4, run_underlying_of hu, hm, Result.andThen_ok, Array.toList_map, List.getElem?_toArray]
  rw [g1']; rfl

theorem ok_build_array {t : TypeId} {n s : Nat} {e : TypeId} {z cs : List AV} {parts : Array (Nat × Operand)} {ps : List (Nat × Nat × Opd)} {N : Nat} {fr : Nat → AV} {a : Act}
    (hu : P.underlying t = some (.array n e)) (hz : tzero P t = some z) (hs : tsize P e = some s)
    (hc : compParts (fun i => some (i * s, s)) parts.toList = some ps) (hF : FrRel G N fr a.tmps) (hR : Rel P G st w) (h : fillA (·.ev fr) z ps = some cs) :
    OpOK P G st (.agg cs) w (do pure (Next.value (← Instr.build t (parts.map fun (i, x) => (i, a.eval x))))) := by
  obtain ⟨v, i, h1, h2, h3, h4, h5⟩ := tzero_run hz
  obtain ⟨vs, g1, g2⟩ := fill_rel hF _ parts.toList ps z cs v.cells hc h (h5 G)
  refine OpOK.same (y := .agg vs) ?_ hR (by simp only [VRel]; exact ⟨_, rfl, g2⟩)
  have g1' : Instr.fill (fun i => some (i * s, s)) v.cells (List.map (fun x => (x.fst, a.eval x.snd)) parts.toList) = some vs := g1
  simp [Instr.build, h4, run_underlying_of hu, run_sizeOf_of hs, g1']

theorem list_rel {G' : Gh} {own : Own} {cs : List AV} {n cap b o : Nat} {ys : List Value} (hv : VRels G' cs ys) (hf : FzAt G' b o ys) (hn : n ≤ cap) (ho : OwnRel G' (some ⟨b, o, none⟩) n cap own) :
    VRel G' (.list own cs n) (.slice (some ⟨b, o, none⟩) n cap) := by
  simp only [VRel]
  exact ⟨_, _, rfl, hn, ho, ys, hv, fun _ => ⟨b, o, rfl, hf⟩⟩

theorem ok_lit {t e : TypeId} {n s : Nat} {z cs : List AV} {parts : Array (Nat × Operand)} {ps : List (Nat × Nat × Opd)} {N : Nat} {fr : Nat → AV} {a : Act}
    (hu : P.underlying t = some (.slice e)) (hz : tzero P e = some z) (hs : tsize P e = some s) (hn : n * s ≤ 2 ^ 24 ∧ 0 < s)
    (hc : compParts (fun i => some (i * s, s)) parts.toList = some ps) (hF : FrRel G N fr a.tmps) (hR : Rel P G st w) (h : fillA (·.ev fr) (rep z n) ps = some cs) :
    OpOK P G st (.list .exact cs n) w (do pure (Next.value (← Instr.buildSlice t n (parts.map fun (i, x) => (i, a.eval x))))) := by
  obtain ⟨v, i, h1, h2, h3, h4, h5⟩ := tzero_run hz
  have hi : i.size = s := by unfold tsize at hs; rw [h1] at hs; simpa using hs
  have hvs : v.cells.size = s := by omega
  have hzero : VRels G (rep z n) (if n * s = 0 then (#[] : Array Value) else (Array.range (n * s)).map fun i => v.cells[i % v.cells.size]!).toList := by
    split
    · have : n = 0 := by
        rcases Nat.mul_eq_zero.1 ‹_› with h | h
        · exact h
        · omega
      subst this; simp [rep, VRels]
    · have := zeros_eq v.cells (by omega) n
      rw [hvs] at this ⊢; rw [this]; exact (h5 G).rep n
  obtain ⟨vs, g1, g2⟩ := fill_rel hF _ parts.toList ps (rep z n) cs _ hc h hzero
  obtain ⟨G', k1, k2, k3, _⟩ := hR.alloc_frozen vs e vs.size
  refine OpOK.val (y := .slice (some ⟨w.heap.size, 0, none⟩) n n) ?_ k1 k2 (list_rel (g2.mono k1) (by rw [List.take_of_length_le (by simp)] at k3; exact k3) (Nat.le_refl _) rfl)
  have g1' : Instr.fill (fun i => some (i * s, s)) (if n * s = 0 then (#[] : Array Value) else (Array.range (n * s)).map fun i => v.cells[i % v.cells.size]!) (List.map (fun x => (x.fst, a.eval x.snd)) parts.toList) = some vs := g1
  simp only [Instr.buildSlice, Sem.run_bind, run_underlying_of hu, Result.andThen_ok, run_sizeOf_of hs]
  rw [if_neg (by omega)]
  by_cases h0 : n * s = 0
  · rw [if_pos h0] at g1'
    have e0 : (Array.range 0).map (fun i => (#[] : Array Value)[i % (#[] : Array Value).size]!) = #[] := Array.eq_empty_of_size_eq_zero (by simp)
    simp only [h0, if_true, pure_bind]
    rw [e0]
    rw [show (Array.map (fun x => (x.fst, a.eval x.snd)) parts).toList = List.map (fun x => (x.fst, a.eval x.snd)) parts.toList from by simp, g1']
    simp [newRow]
  · rw [if_neg h0] at g1'
    simp [h0, h4, newRow, g1']

/-! ### what touches no memory -/
theorem eqGuard_ops (op : BinOp) (t : TypeId) (x y x' y' : Operand) (a b : Value) (h : a ≠ .nilIface) : eqGuard op t x y a b = eqGuard op t x' y' a b := by
  unfold eqGuard
  cases a <;> first | exact absurd rfl h | (cases b <;> rfl)

theorem ok_bin {op : BinOp} {t : TypeId} {x y : Operand} {ax ay r : AV} {vx vy : Value} (hR : Rel P G st w) (rx : VRel G ax vx) (ry : VRel G ay vy) (h : binV P op t ax ay = some r) :
    OpOK P G st r w (do pure (Next.value (← (do eqGuard op t x y vx vy; binOp op t vx vy)))) := by
  unfold binV at h
  cases e1 : ax.toV with
  | none => rw [e1] at h; simp at h
  | some a =>
    cases e2 : ay.toV with
    | none => rw [e1, e2] at h; cases a <;> simp at h
    | some b =>
      rw [e1, e2] at h
      by_cases ha : a = .nilIface
      · subst ha; simp at h
      · have h' : (evSem P (do eqGuard op t (.const (.nilIface)) (.const (.nilIface)) a b; binOp op t a b)).map .v = some r := by
          cases a <;> first | exact absurd rfl ha | exact h
        rw [Option.map_eq_some_iff] at h'
        obtain ⟨v, h1, rfl⟩ := h'
        have hx := toV_rel e1 rx; have hy := toV_rel e2 ry
        subst hx; subst hy
        refine OpOK.same (y := v) ?_ hR (by simp [VRel])
        have := evSem_run _ h1 w
        rw [eqGuard_ops op t _ _ x y _ _ ha] at this
        exact this

theorem ok_un {op : UnOp} {ax : AV} {vx v r : Value} (hR : Rel P G st w) (rx : VRel G ax vx) (hv : ax.toV = some v) (h : evSem P (Op.unary op v) = some r) :
    OpOK P G st (.v r) w (do pure (Next.value (← Op.unary op vx))) := by
  have := toV_rel hv rx; subst this
  exact OpOK.same (evSem_run _ h w) hR (by simp [VRel])

theorem ok_conv {k j : IntKind} {n : Int} {vx : Value} {s d : TypeId} (hR : Rel P G st w) (hu : P.underlying d = some (.int k)) (hs : ∃ e, P.underlying s = some e) (rx : VRel G (.v (.int j n)) vx) :
    OpOK P G st (.v (.int k (k.wrap n))) w (do pure (Next.value (← convert s d vx))) := by
  simp only [VRel] at rx; subst rx
  obtain ⟨e, he⟩ := hs
  refine OpOK.same (y := .int k (k.wrap n)) ?_ hR (by simp [VRel])
  simp only [convert, Sem.run_bind, run_underlying_of he, run_underlying_of hu, Result.andThen_ok]
  cases e <;> rfl

theorem ok_pick {c a b : AV} {vc va vb : Value} {t : Bool} (hR : Rel P G st w) (rc : VRel G c vc) (ra : VRel G a va) (rb : VRel G b vb) (hc : c = .v (.bool t)) :
    OpOK P G st (if t then a else b) w (do pure (Next.value (if ← asBool vc then va else vb))) := by
  subst hc; simp only [VRel] at rc; subst rc
  cases t
  · exact ⟨.value vb, vb, w, G, by simp [asBool], .inl rfl, .refl _, hR, rb⟩
  · exact ⟨.value va, va, w, G, by simp [asBool], .inl rfl, .refl _, hR, ra⟩

end
end Go.EF
