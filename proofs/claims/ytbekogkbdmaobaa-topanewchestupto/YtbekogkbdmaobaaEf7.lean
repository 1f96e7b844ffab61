/- Each operation of the machine does what the resolved operation says (fourth part: slices, addresses, append, copy, make). No conditions. -/
import Derived.Test.YtbekogkbdmaobaaEf6
namespace Go.EF
open Go Go.RowKit

section
variable {P : Program} {G : Gh} {st : St} {w : World} {x : AV}

theorem zeros_eq' (z : Array Value) (s : Nat) (hs : z.size = s) (h : 0 < s) (n : Nat) : ((Array.range (n * s)).map (fun i => z[i % z.size]!)).toList = rep z.toList n := by
  subst hs; exact zeros_eq z h n

theorem intOf_rel {x : AV} {y : Value} {i : Int} (h : intOf? x = some i) (r : VRel G x y) : ∃ k, y = .int k i := by
  unfold intOf? at h
  split at h
  · cases h; simp only [VRel] at r; exact ⟨_, r⟩
  · cases h

theorem run_bound {y : Value} {i : Int} {k : IntKind} (hy : y = .int k i) {m : Nat} (h : 0 ≤ i ∧ i ≤ m) (code : BoundsCode) (w : World) : (Instr.sliceBound y m code).run P w = .ok i.toNat w := by
  subst hy; simp [Instr.sliceBound, asIntOf, h.1, h.2]

def OptRel (G : Gh) (ρ : Opd → AV) : Option Opd → Option Value → Prop
  | none, none => True
  | some o, some y => VRel G (ρ o) y
  | _, _ => False

theorem run_bounds {ρ : Opd → AV} {lo hi mx : Option Opd} {ylo yhi ymx : Option Value} (r1 : OptRel G ρ lo ylo) (r2 : OptRel G ρ hi yhi) (r3 : OptRel G ρ mx ymx) {n cap l h m : Nat} (e : boundsOf ρ n cap lo hi mx = some (l, h, m)) (b : Bool) (w : World) :
    (Instr.sliceBounds b n cap ylo yhi ymx).run P w = .ok (l, h, m) w := by
  unfold boundsOf at e
  simp only at e
  cases mx with
  | none =>
    cases ymx with
    | some _ => simp [OptRel] at r3
    | none =>
      simp only at e
      cases hi with
      | none =>
        cases yhi with
        | some _ => simp [OptRel] at r2
        | none =>
          simp only at e
          cases lo with
          | none =>
            cases ylo with
            | some _ => simp [OptRel] at r1
            | none => simp only [Option.some.injEq, Prod.mk.injEq] at e; obtain ⟨rfl, rfl, rfl⟩ := e; simp [Instr.sliceBounds]
          | some lo =>
            cases ylo with
            | none => simp [OptRel] at r1
            | some ylo =>
              simp only [OptRel] at r1
              simp only at e
              split at e
              · rename_i i hi
                split at e
                · rename_i hc
                  simp only [Option.some.injEq, Prod.mk.injEq] at e; obtain ⟨rfl, rfl, rfl⟩ := e
                  obtain ⟨k, hk⟩ := intOf_rel hi r1
                  simp [Instr.sliceBounds, run_bound hk hc]
                · cases e
              · cases e
      | some hi =>
        cases yhi with
        | none => simp [OptRel] at r2
        | some yhi =>
          simp only [OptRel] at r2
          simp only at e
          split at e
          · cases e
          · rename_i h' hh
            split at hh
            · rename_i i hi'
              split at hh
              · rename_i hc; cases hh
                obtain ⟨k, hk⟩ := intOf_rel hi' r2
                cases lo with
                | none =>
                  cases ylo with
                  | some _ => simp [OptRel] at r1
                  | none => simp only [Option.some.injEq, Prod.mk.injEq] at e; obtain ⟨rfl, rfl, rfl⟩ := e; simp [Instr.sliceBounds, run_bound hk hc]
                | some lo =>
                  cases ylo with
                  | none => simp [OptRel] at r1
                  | some ylo =>
                    simp only [OptRel] at r1
                    simp only at e
                    split at e
                    · rename_i i' hi''
                      split at e
                      · rename_i hc'
                        simp only [Option.some.injEq, Prod.mk.injEq] at e; obtain ⟨rfl, rfl, rfl⟩ := e
                        obtain ⟨k', hk'⟩ := intOf_rel hi'' r1
                        simp [Instr.sliceBounds, run_bound hk hc, run_bound hk' hc']
                      · cases e
                    · cases e
              · cases hh
            · cases hh
  | some mx =>
    cases ymx with
    | none => simp [OptRel] at r3
    | some ymx =>
      simp only [OptRel] at r3
      simp only at e
      split at e
      · cases e
      · rename_i m' hm
        split at hm
        · rename_i i hi'
          split at hm
          · rename_i hc; cases hm
            obtain ⟨k, hk⟩ := intOf_rel hi' r3
            cases hi with
            | none => simp at e
            | some hi =>
              cases yhi with
              | none => simp [OptRel] at r2
              | some yhi =>
                simp only [OptRel] at r2
                simp only at e
                split at e
                · cases e
                · rename_i h' hh
                  split at hh
                  · rename_i j hj
                    split at hh
                    · rename_i hc2; cases hh
                      obtain ⟨k2, hk2⟩ := intOf_rel hj r2
                      cases lo with
                      | none =>
                        cases ylo with
                        | some _ => simp [OptRel] at r1
                        | none => simp only [Option.some.injEq, Prod.mk.injEq] at e; obtain ⟨rfl, rfl, rfl⟩ := e; simp [Instr.sliceBounds, run_bound hk hc, run_bound hk2 hc2]
                      | some lo =>
                        cases ylo with
                        | none => simp [OptRel] at r1
                        | some ylo =>
                          simp only [OptRel] at r1
                          simp only at e
                          split at e
                          · rename_i i' hi''
                            split at e
                            · rename_i hc'
                              simp only [Option.some.injEq, Prod.mk.injEq] at e; obtain ⟨rfl, rfl, rfl⟩ := e
                              obtain ⟨k', hk'⟩ := intOf_rel hi'' r1
                              simp [Instr.sliceBounds, run_bound hk hc, run_bound hk2 hc2, run_bound hk' hc']
                            · cases e
                          · cases e
                    · cases hh
                  · cases hh
          · cases hm
        · cases hm

theorem bounds_le {ρ : Opd → AV} {lo hi mx : Option Opd} {n cap l h m : Nat} (e : boundsOf ρ n cap lo hi mx = some (l, h, m)) (hn : n ≤ cap) : l ≤ h ∧ h ≤ m ∧ m ≤ cap := by
  unfold boundsOf at e
  simp only at e
  split at e
  · cases e
  · rename_i m' hm
    have hmc : m' ≤ cap ∧ (mx = none → m' = cap) := by
      cases mx with
      | none => simp at hm; omega
      | some o =>
        simp only at hm
        split at hm
        · split at hm
          · cases hm; constructor
            · omega
            · intro e; cases e
          · cases hm
        · cases hm
    split at e
    · cases e
    · rename_i h' hh
      have hhm : h' ≤ m' := by
        split at hh
        · cases hh; have := hmc.2 rfl; omega
        · cases hh
        · split at hh
          · split at hh
            · cases hh; omega
            · cases hh
          · cases hh
      split at e
      · cases e; omega
      · split at e
        · split at e
          · cases e; omega
          · cases e
        · cases e

theorem ok_slicearr {t e : TypeId} {n s : Nat} {ρ : Opd → AV} {x : AV} {lo hi : Option Opd} {yx : Value} {ylo yhi : Option Value} {l h m : Nat} {r : AV} (hu : P.underlying t = some (.array n e)) (hs : tsize P e = some s)
    (hR : Rel P G st w) (rx : VRel G x yx) (r1 : OptRel G ρ lo ylo) (r2 : OptRel G ρ hi yhi) (hb : boundsOf ρ n n lo hi none = some (l, h, m))
    (hr : (∃ a off, x = .ptr a off ∧ r = .ms a (if m = l then off else off + l * s) (h - l) (m - l)) ∨
      (∃ cs off, x = .lptr cs off ∧ off + n * s ≤ cs.length ∧ r = .list .any ((cs.drop (off + l * s)).take ((h - l) * s)) (h - l))) :
    OpOK P G st r w (do pure (Next.value (← Instr.sliceAt t yx ylo yhi none))) := by
  have hrun := fun w => run_bounds (P := P) (G := G) r1 r2 (mx := none) (ymx := none) trivial hb false w
  have hle := bounds_le hb (Nat.le_refl _)
  rcases hr with ⟨a, off, rfl, rfl⟩ | ⟨cs, off, rfl, hlen, rfl⟩
  · simp only [VRel] at rx; obtain ⟨b, h1, rfl⟩ := rx
    refine OpOK.same (y := .slice (some ⟨b, if m = l then off else off + l * s, none⟩) (h - l) (m - l)) ?_ hR (by simp [VRel, h1])
    simp only [Instr.sliceAt, Sem.run_bind, run_underlying_of hu, Result.andThen_ok, Instr.sureAddr, Sem.run_pure, hrun, run_sizeOf_of hs, add_none]
    split <;> rfl
  · simp only [VRel] at rx; obtain ⟨b, o, ys, rfl, h2, h3⟩ := rx
    have hl3 := h3.length
    refine OpOK.same (y := .slice (some ⟨b, if m = l then o + off else o + off + l * s, none⟩) (h - l) (m - l)) ?_ hR ?_
    · simp only [Instr.sliceAt, Sem.run_bind, run_underlying_of hu, Result.andThen_ok, Instr.sureAddr, Sem.run_pure, hrun, run_sizeOf_of hs, add_none]
      split <;> rfl
    · simp only [VRel]
      refine ⟨_, _, rfl, by omega, trivial, _, (h3.drop _).take _, fun hne => ⟨b, _, rfl, ?_⟩⟩
      intro i y e
      rw [List.getElem?_take] at e
      split at e
      · rename_i hi
        rw [List.getElem?_drop] at e
        have hml : m ≠ l := by
          intro eml
          have : h - l = 0 := by omega
          rw [this] at hi; omega
        rw [if_neg hml]
        have := h2 _ _ e
        rw [← this]; congr 1; omega
      · cases e

theorem ok_slice_ms {t e : TypeId} {s : Nat} {ρ : Opd → AV} {a off len cap : Nat} {lo hi mx : Option Opd} {yx : Value} {ylo yhi ymx : Option Value} {l h m : Nat} (hu : P.underlying t = some (.slice e)) (hs : tsize P e = some s)
    (hR : Rel P G st w) (rx : VRel G (.ms a off len cap) yx) (r1 : OptRel G ρ lo ylo) (r2 : OptRel G ρ hi yhi) (r3 : OptRel G ρ mx ymx) (hb : boundsOf ρ len cap lo hi mx = some (l, h, m)) :
    OpOK P G st (.ms a (if m = l then off else off + l * s) (h - l) (m - l)) w (do pure (Next.value (← Instr.sliceAt t yx ylo yhi ymx))) := by
  have hrun := fun w => run_bounds (P := P) (G := G) r1 r2 r3 hb true w
  simp only [VRel] at rx; obtain ⟨b, h1, rfl⟩ := rx
  refine OpOK.same (y := .slice (some ⟨b, if m = l then off else off + l * s, none⟩) (h - l) (m - l)) ?_ hR (by simp [VRel, h1])
  simp only [Instr.sliceAt, Instr.slice, Sem.run_bind, run_underlying_of hu, Result.andThen_ok, hrun, run_sizeOf_of hs, Option.map_some, add_none]
  split <;> rfl

theorem ok_slice_list {t e : TypeId} {s n : Nat} {ρ : Opd → AV} {own own' : Own} {cs : List AV} {lo hi mx : Option Opd} {yx : Value} {ylo yhi ymx : Option Value} {l h m : Nat} (hu : P.underlying t = some (.slice e)) (hs : tsize P e = some s)
    (hR : Rel P G st w) (rx : VRel G (.list own cs n) yx) (r1 : OptRel G ρ lo ylo) (r2 : OptRel G ρ hi yhi) (r3 : OptRel G ρ mx ymx) (hb : boundsOf ρ n n lo hi mx = some (l, h, m)) (hl : cs.length = n * s)
    (ho : own' = (if mx.isSome ∧ m = h then .exact else if mx.isNone ∧ l = 0 ∧ h = n then own else .any)) :
    OpOK P G st (.list own' ((cs.drop (l * s)).take ((h - l) * s)) (h - l)) w (do pure (Next.value (← Instr.sliceAt t yx ylo yhi ymx))) := by
  have hle := bounds_le hb (Nat.le_refl _)
  simp only [VRel] at rx; obtain ⟨base, cap, rfl, hnc, hown, ys, hv, hf⟩ := rx
  have hlen := hv.length
  -- the machine's room is cap, not n: its third bound
  obtain ⟨m', hb', hm'⟩ : ∃ m', boundsOf ρ n cap lo hi mx = some (l, h, m') ∧ (mx.isSome → m' = m) ∧ (mx.isNone → m' = cap) ∧ h ≤ m' := by
    unfold boundsOf at hb ⊢
    simp only at hb ⊢
    cases mx with
    | none =>
      simp only at hb ⊢
      cases hi with
      | none =>
        simp only at hb ⊢
        cases lo with
        | none => simp only [Option.some.injEq, Prod.mk.injEq] at hb ⊢; obtain ⟨rfl, rfl, rfl⟩ := hb; exact ⟨cap, ⟨rfl, rfl, rfl⟩, by simp, by simp, by omega⟩
        | some lo =>
          simp only at hb ⊢
          split at hb
          · split at hb
            · simp only [Option.some.injEq, Prod.mk.injEq] at hb; obtain ⟨rfl, rfl, rfl⟩ := hb
              rename_i i hi hc; exact ⟨cap, by rw [if_pos hc], by simp, by simp, by omega⟩
            · cases hb
          · cases hb
      | some hi =>
        simp only at hb ⊢
        split at hb
        · cases hb
        · rename_i h' hh
          split at hh
          · split at hh
            · rename_i i hi' hc
              cases hh
              have hc2 : 0 ≤ i ∧ i ≤ cap := by omega
              rw [if_pos hc2]; simp only
              cases lo with
              | none => simp only [Option.some.injEq, Prod.mk.injEq] at hb ⊢; obtain ⟨rfl, rfl, rfl⟩ := hb; exact ⟨cap, ⟨rfl, rfl, rfl⟩, by simp, by simp, by omega⟩
              | some lo =>
                simp only at hb ⊢
                split at hb
                · split at hb
                  · simp only [Option.some.injEq, Prod.mk.injEq] at hb; obtain ⟨rfl, rfl, rfl⟩ := hb
                    rename_i j hj hcj; exact ⟨cap, by rw [if_pos hcj], by simp, by simp, by omega⟩
                  · cases hb
                · cases hb
            · cases hh
          · cases hh
    | some mx =>
      simp only at hb ⊢
      split at hb
      · cases hb
      · rename_i m'' hm''
        split at hm''
        · split at hm''
          · rename_i i hi' hc
            cases hm''
            have hc2 : 0 ≤ i ∧ i ≤ cap := by omega
            rw [if_pos hc2]; simp only
            have : m = i.toNat := by
              split at hb
              · cases hb
              · split at hb
                · cases hb; rfl
                · split at hb
                  · split at hb
                    · cases hb; rfl
                    · cases hb
                  · cases hb
            refine ⟨m, by rw [← this]; rw [← this] at hb; exact hb, fun _ => rfl, (fun e => by cases e), by omega⟩
          · cases hm''
        · cases hm''
  have hrun := fun w => run_bounds (P := P) (G := G) r1 r2 r3 hb' true w
  refine OpOK.same (y := .slice (if m' = l then base else base.map (·.add (l * s))) (h - l) (m' - l)) ?_ hR ?_
  · simp only [Instr.sliceAt, Instr.slice, Sem.run_bind, run_underlying_of hu, Result.andThen_ok, hrun, run_sizeOf_of hs]
    split <;> rfl
  · simp only [VRel]
    have hml : ∀ hh : ((ys.drop (l * s)).take ((h - l) * s)) ≠ [], m' ≠ l ∧ ys ≠ [] := fun hh => ⟨fun eml => hh (by
      have : h - l = 0 := by omega
      rw [this]; simp), fun e => hh (by subst e; simp)⟩
    refine ⟨_, _, rfl, by omega, ?_, _, (hv.drop _).take _, fun hne => ?_⟩
    · by_cases hc : mx.isSome = true ∧ m = h
      · rw [if_pos hc] at ho; subst ho; have := hm'.1 hc.1; simp only [OwnRel]; omega
      · rw [if_neg hc] at ho
        by_cases hc' : mx.isNone = true ∧ l = 0 ∧ h = n
        · rw [if_pos hc'] at ho; subst ho
          obtain ⟨c1, c2, c3⟩ := hc'
          have e3 := hm'.2.1 c1
          subst c2; subst c3; subst e3
          have e4 : (if m' = 0 then base else base.map (·.add (0 * s))) = base := by
            by_cases hz : m' = 0
            · rw [if_pos hz]
            · rw [if_neg hz]; cases base <;> simp [Addr.add]
          rw [e4]
          simpa using hown
        · rw [if_neg hc'] at ho; subst ho; trivial
    · obtain ⟨b, o, e1, e2⟩ := hf (hml hne).2
      refine ⟨b, o + l * s, by rw [if_neg (hml hne).1, e1]; simp [add_none], fun i y e => ?_⟩
      rw [List.getElem?_take] at e
      split at e
      · rw [List.getElem?_drop] at e
        have := e2 _ _ e
        rw [← this]; congr 1; omega
      · cases e

theorem ok_slicestr {t : TypeId} {ρ : Opd → AV} {b : ByteArray} {lo hi : Option Opd} {yx : Value} {ylo yhi : Option Value} {l h m : Nat} (hu : P.underlying t = some .string)
    (hR : Rel P G st w) (rx : VRel G (.v (.string b)) yx) (r1 : OptRel G ρ lo ylo) (r2 : OptRel G ρ hi yhi) (hb : boundsOf ρ b.size b.size lo hi none = some (l, h, m)) :
    OpOK P G st (.v (.string (b.extract l h))) w (do pure (Next.value (← Instr.sliceAt t yx ylo yhi none))) := by
  have hrun := fun w => run_bounds (P := P) (G := G) r1 r2 (mx := none) (ymx := none) trivial hb false w
  simp only [VRel] at rx; subst rx
  refine OpOK.same (y := .string (b.extract l h)) ?_ hR (by simp [VRel])
  simp [Instr.sliceAt, Instr.slice, run_underlying_of hu, hrun]

theorem ok_faddr {t : TypeId} {fields : Array Field} {f : Nat} {fd : Field} {s : Nat} {x r : AV} {yx : Value} (hu : P.underlying t = some (.struct fields)) (hf : fields[f]? = some fd) (hs : tsize P fd.type = some (s + 1))
    (hR : Rel P G st w) (rx : VRel G x yx) (hr : (∃ a o, x = .ptr a o ∧ r = .ptr a (o + fd.offset)) ∨ (∃ cs o, x = .lptr cs o ∧ r = .lptr cs (o + fd.offset))) :
    OpOK P G st r w (do pure (Next.value (← Instr.fieldAt t yx f))) := by
  rcases hr with ⟨a, o, rfl, rfl⟩ | ⟨cs, o, rfl, rfl⟩
  · simp only [VRel] at rx; obtain ⟨b, h1, rfl⟩ := rx
    refine OpOK.same (y := .pointer (some ⟨b, o + fd.offset, none⟩)) ?_ hR (by simp [VRel, h1])
    simp [Instr.fieldAt, run_underlying_of hu, hf, Instr.sureAddr, fieldPlace, run_sizeOf_of hs, add_none]
  · simp only [VRel] at rx; obtain ⟨b, o', ys, rfl, h2, h3⟩ := rx
    refine OpOK.same (y := .pointer (some ⟨b, o' + (o + fd.offset), none⟩)) ?_ hR (by simp only [VRel]; exact ⟨b, o', ys, rfl, h2, h3⟩)
    simp [Instr.fieldAt, run_underlying_of hu, hf, Instr.sureAddr, fieldPlace, run_sizeOf_of hs, add_none, Nat.add_assoc]

theorem part_rel {g : Bool} {cs : List AV} {ys : Array Value} {sz off : Nat} {t : TypeId} (h : getCells cs g sz off = some x) (r : VRels G cs ys.toList) (hg : tagg P t = some g) (hs : tsize P t = some sz) :
    ∃ y, (∀ w, (part t ys off).run P w = .ok y w) ∧ VRel G x y := by
  unfold getCells at h
  cases g with
  | true =>
    simp only [if_true] at h
    split at h
    · rename_i hc; cases h
      refine ⟨.agg (ys.extract off (off + sz)), fun w => by simp [part, run_isAgg_of hg, run_sizeOf_of hs], ?_⟩
      simp only [VRel]
      exact ⟨_, rfl, by rw [extract_list]; exact (r.drop off).take sz⟩
    · cases h
  | false =>
    simp only [Bool.false_eq_true, if_false] at h
    obtain ⟨y, h1, h2⟩ := r.get off x h
    have h1' : ys[off]? = some y := by simpa using h1
    exact ⟨y, fun w => by simp [part, run_isAgg_of hg, h1'], h2⟩

theorem ok_field {t : TypeId} {fields : Array Field} {f : Nat} {fd : Field} {s : Nat} {g : Bool} {cs : List AV} {yx : Value} (hu : P.underlying t = some (.struct fields)) (hf : fields[f]? = some fd) (hg : tagg P fd.type = some g) (hs : tsize P fd.type = some s)
    (hR : Rel P G st w) (rx : VRel G (.agg cs) yx) (h : getCells cs g s fd.offset = some x) : OpOK P G st x w (do pure (Next.value (← Instr.field t yx f))) := by
  simp only [VRel] at rx; obtain ⟨ys, rfl, r⟩ := rx
  obtain ⟨y, h1, h2⟩ := part_rel h r hg hs
  exact OpOK.same (by simp [Instr.field, run_underlying_of hu, hf, asAgg, h1]) hR h2

theorem ok_index {t e : TypeId} {n s : Nat} {g : Bool} {cs : List AV} {yx yi : Value} {xi : AV} {i : Int} (hu : P.underlying t = some (.array n e)) (hg : tagg P e = some g) (hs : tsize P e = some s)
    (hR : Rel P G st w) (rx : VRel G (.agg cs) yx) (ri : VRel G xi yi) (hi : intOf? xi = some i) (hb : 0 ≤ i ∧ i < n) (h : getCells cs g s (i.toNat * s) = some x) : OpOK P G st x w (do pure (Next.value (← Instr.index t yx yi))) := by
  simp only [VRel] at rx; obtain ⟨ys, rfl, r⟩ := rx
  obtain ⟨k, rfl⟩ := intOf_rel hi ri
  obtain ⟨y, h1, h2⟩ := part_rel h r hg hs
  exact OpOK.same (by simp [Instr.index, asIntOf, run_underlying_of hu, hb.1, hb.2, run_sizeOf_of hs, h1]) hR h2

theorem ok_indexstr {t : TypeId} {b : ByteArray} {yx yi : Value} {xi : AV} {i : Int} {c : UInt8} (hu : P.underlying t = some .string)
    (hR : Rel P G st w) (rx : VRel G (.v (.string b)) yx) (ri : VRel G xi yi) (hi : intOf? xi = some i) (hb : 0 ≤ i) (h : b[i.toNat]? = some c) : OpOK P G st (.v (.int .u8 c.toNat)) w (do pure (Next.value (← Instr.index t yx yi))) := by
  simp only [VRel] at rx; subst rx
  obtain ⟨k, rfl⟩ := intOf_rel hi ri
  exact OpOK.same (y := .int .u8 c.toNat) (by simp [Instr.index, asIntOf, run_underlying_of hu, hb, h]) hR (by simp [VRel])

theorem ok_iaddr {t e : TypeId} {s : Nat} {x xi r : AV} {yx yi : Value} {i : Int} (hu : P.underlying t = some (.slice e)) (hs : tsize P e = some s) (hR : Rel P G st w) (rx : VRel G x yx) (ri : VRel G xi yi) (hi : intOf? xi = some i)
    (hr : (∃ own cs n, x = .list own cs n ∧ cs.length = n * s ∧ 0 < s ∧ (0 ≤ i ∧ i < n) ∧ r = .lptr cs (i.toNat * s)) ∨ (∃ a off len cap, x = .ms a off len cap ∧ (0 ≤ i ∧ i < len) ∧ r = .ptr a (off + i.toNat * s)) ∨ (∃ a len, x = .mx a len ∧ (0 ≤ i ∧ i < len) ∧ r = .ptr a (0 + i.toNat * s))) :
    OpOK P G st r w (do pure (Next.value (← Instr.indexAt t yx yi))) := by
  obtain ⟨k, rfl⟩ := intOf_rel hi ri
  rcases hr with ⟨own, cs, n, rfl, hl, h0, hb, rfl⟩ | ⟨a, off, len, cap, rfl, hb, rfl⟩ | ⟨a, len, rfl, hb, rfl⟩
  · simp only [VRel] at rx; obtain ⟨base, cap, rfl, hnc, hown, ys, hv, hf⟩ := rx
    have hlen := hv.length
    have hne : ys ≠ [] := by
      intro e
      have h2 : 1 * s ≤ n * s := Nat.mul_le_mul_right _ (by omega)
      have h3 : ys.length = 0 := by rw [e]; rfl
      omega
    obtain ⟨b, o, rfl, e2⟩ := hf hne
    refine OpOK.same (y := .pointer (some ⟨b, o + i.toNat * s, none⟩)) ?_ hR (by simp only [VRel]; exact ⟨b, o, ys, rfl, e2, hv⟩)
    simp [Instr.indexAt, asIntOf, run_underlying_of hu, hb.1, hb.2, run_sizeOf_of hs, add_none]
  · simp only [VRel] at rx; obtain ⟨b, h1, rfl⟩ := rx
    refine OpOK.same (y := .pointer (some ⟨b, off + i.toNat * s, none⟩)) ?_ hR (by simp [VRel, h1])
    simp [Instr.indexAt, asIntOf, run_underlying_of hu, hb.1, hb.2, run_sizeOf_of hs, add_none]
  · simp only [VRel] at rx; obtain ⟨b, cap, h1, rfl⟩ := rx
    refine OpOK.same (y := .pointer (some ⟨b, 0 + i.toNat * s, none⟩)) ?_ hR (by simp [VRel, h1])
    simp [Instr.indexAt, asIntOf, run_underlying_of hu, hb.1, hb.2, run_sizeOf_of hs, add_none]

theorem ok_iaddrarr {t e : TypeId} {n s : Nat} {x xi r : AV} {yx yi : Value} {i : Int} (hu : P.underlying t = some (.array n e)) (hs : tsize P e = some s) (hR : Rel P G st w) (rx : VRel G x yx) (ri : VRel G xi yi) (hi : intOf? xi = some i) (hb : 0 ≤ i ∧ i < n)
    (hr : (∃ a o, x = .ptr a o ∧ r = .ptr a (o + i.toNat * s)) ∨ (∃ cs o, x = .lptr cs o ∧ r = .lptr cs (o + i.toNat * s))) :
    OpOK P G st r w (do pure (Next.value (← Instr.indexAt t yx yi))) := by
  obtain ⟨k, rfl⟩ := intOf_rel hi ri
  rcases hr with ⟨a, o, rfl, rfl⟩ | ⟨cs, o, rfl, rfl⟩
  · simp only [VRel] at rx; obtain ⟨b, h1, rfl⟩ := rx
    refine OpOK.same (y := .pointer (some ⟨b, o + i.toNat * s, none⟩)) ?_ hR (by simp [VRel, h1])
    simp [Instr.indexAt, asIntOf, run_underlying_of hu, Instr.sureAddr, hb.1, hb.2, run_sizeOf_of hs, add_none]
  · simp only [VRel] at rx; obtain ⟨b, o', ys, rfl, h2, h3⟩ := rx
    refine OpOK.same (y := .pointer (some ⟨b, o' + (o + i.toNat * s), none⟩)) ?_ hR (by simp only [VRel]; exact ⟨b, o', ys, rfl, h2, h3⟩)
    simp [Instr.indexAt, asIntOf, run_underlying_of hu, Instr.sureAddr, hb.1, hb.2, run_sizeOf_of hs, add_none, Nat.add_assoc]

theorem ok_extract {vs : List AV} {yx : Value} {i : Nat} (hR : Rel P G st w) (rx : VRel G (.tup vs) yx) (h : vs[i]? = some x) : OpOK P G st x w (do pure (Next.value (← Instr.extract yx i))) := by
  simp only [VRel] at rx; obtain ⟨ys, rfl, r⟩ := rx
  obtain ⟨y, h1, h2⟩ := r.get i x h
  have h1' : ys[i]? = some y := by simpa using h1
  exact OpOK.same (by simp [Instr.extract, h1']) hR h2

theorem wrap_id {n : Int} (h0 : 0 ≤ n) (h : n ≤ 2 ^ 62) : IntKind.i64.wrap n = n := by
  have hm : n % 2 ^ 64 = n := Int.emod_eq_of_lt h0 (by omega)
  show (if (true && decide (n % (2 ^ 64 : Int) ≥ (2 ^ 63 : Int))) = true then n % (2 ^ 64 : Int) - (2 ^ 64 : Int) else n % (2 ^ 64 : Int)) = n
  simp only [hm, Bool.true_and, decide_eq_true_eq]
  rw [if_neg (by omega)]

theorem ok_mkslice {t e : TypeId} {i : TypeInfo} {z : List AV} {xl xc : AV} {yl yc : Value} {l c : Int} (hu : P.underlying t = some (.slice e)) (hi : P.info? e = some i) (hz : tzero P e = some z) (hp : 0 < i.bytes ∧ 0 < i.size)
    (hR : Rel P G st w) (rl : VRel G xl yl) (rc : VRel G xc yc) (hl : intOf? xl = some l) (hc : intOf? xc = some c) (hb : 0 ≤ l ∧ l ≤ c ∧ i.bytes * c ≤ 2 ^ 47) :
    OpOK P G (st.alloc (.cells (rep z c.toNat))) (.ms st.next 0 l.toNat c.toNat) w (do pure (Next.value (← Instr.makeSlice t yl yc))) := by
  obtain ⟨k1, rfl⟩ := intOf_rel hl rl
  obtain ⟨k2, rfl⟩ := intOf_rel hc rc
  obtain ⟨v, i', h1, h2, h3, h4, h5⟩ := tzero_run hz
  rw [hi] at h1; cases h1
  have hcb : c ≤ 2 ^ 47 := by
    have : 1 * c ≤ (i.bytes : Int) * c := Int.mul_le_mul_of_nonneg_right (by omega) (by omega)
    omega
  have hlb : (i.bytes : Int) * l ≤ 2 ^ 47 := by
    have : (i.bytes : Int) * l ≤ (i.bytes : Int) * c := Int.mul_le_mul_of_nonneg_left hb.2.1 (by omega)
    omega
  have e1 := wrap_id hb.1 (by omega : l ≤ 2 ^ 62)
  have e2 := wrap_id (by omega : 0 ≤ c) (by omega : c ≤ 2 ^ 62)
  have hzero : VRels G (rep z c.toNat) ((Array.range (c.toNat * i.size)).map fun j => v.cells[j % v.cells.size]!).toList := by
    rw [zeros_eq' v.cells i.size h3 hp.2 c.toNat]; exact (h5 G).rep _
  obtain ⟨G', g1, g2, g3⟩ := new_cells hR e hzero
  refine OpOK.val (y := .slice (some ⟨w.heap.size, 0, none⟩) l.toNat c.toNat) ?_ g1 g2 (by simp [VRel, g3])
  have c1 : ¬ c < 0 := by omega
  have c2 : ¬ (i.bytes : Int) * c > 2 ^ 48 := by omega
  have c3 : ¬ l < 0 := by omega
  have c4 : ¬ l > c := by omega
  have hs : tsize P e = some i.size := by simp [tsize, hi]
  simp only [Instr.makeSlice, Sem.run_bind, run_underlying_of hu, Result.andThen_ok, asInt, asIntOf, Sem.run_pure, typeInfo, run_program, hi, e1, e2, c1, c2, c3, c4, decide_false, Bool.or_self, Bool.false_eq_true, if_false, run_askRoom, run_sizeOf_of hs]
  by_cases h0 : c.toNat * i.size = 0
  · have hc0 : c.toNat = 0 := by rcases Nat.mul_eq_zero.1 h0 with h | h <;> omega
    have e0 : (Array.range 0).map (fun j => (#[] : Array Value)[j % (#[] : Array Value).size]!) = #[] := Array.eq_empty_of_size_eq_zero (by simp)
    have e0' : (Array.range 0).map (fun j => v.cells[j % v.cells.size]!) = #[] := Array.eq_empty_of_size_eq_zero (by simp)
    simp only [h0, if_true, pure_bind, newRow]
    rw [e0, e0']; rfl
  · simp [h0, h4, newRow]
end
end Go.EF
