/- New objects that a call leaves behind. No conditions. -/
import Derived.Test.YtbekogkbdmaobaaEf25
namespace Go.EF
open Go Go.RowKit

/-- Some objects came since, apart from each other, and are now so. -/
structure New (l : List (Nat × AObj)) (st st' : St) : Prop where
  ge : ∀ p ∈ l, st.next ≤ p.1
  now : ∀ p ∈ l, st'.get p.1 = some p.2
  nd : (l.map (·.1)).Nodup

section
variable {s0 : Base} {st st' : St} {m : List Cell} {t : List (Own × Nat)}
theorem SP.news {s0 : St} (H : SP s0 m t st) (js : List Nat) (hj : js.Nodup) (l : List (Nat × AObj)) (hl : js.map (fun j => m[j]?) = l.map fun p => some ⟨p.1, p.2, true⟩) : New l s0 st := by
  have at_ : ∀ p ∈ l, ∃ c ∈ m, c = ⟨p.1, p.2, true⟩ := by
    intro p hp
    have : some (⟨p.1, p.2, true⟩ : Cell) ∈ js.map (fun j => m[j]?) := by rw [hl]; exact List.mem_map.2 ⟨p, hp, rfl⟩
    obtain ⟨j, _, e⟩ := List.mem_map.1 this
    exact ⟨_, List.mem_of_getElem? e, rfl⟩
  refine ⟨fun p hp => ?_, fun p hp => ?_, H.pick js hj ?_⟩
  · obtain ⟨c, hc, rfl⟩ := at_ p hp; exact H.isnew _ hc rfl
  · obtain ⟨c, hc, rfl⟩ := at_ p hp; exact H.facts _ hc
  · have := congrArg (List.map (fun x : Option Cell => x.map (·.a))) hl
    simpa [List.map_map, Function.comp_def] using this

theorem SP.addnew {l : List (Nat × AObj)} (H : SP s0 m t st) (E : Ext st st') (W : New l st st') : SP s0 (l.map (fun p => (⟨p.1, p.2, true⟩ : Cell)) ++ m) t st' := by
  have K := H.then E
  refine ⟨K.next, fun a ha hp hx => K.old a ha hp fun x hm => hx x (List.mem_append.2 (.inr hm)), fun x hx => ?_, fun x hx hn => ?_, ?_, K.toks, K.apart⟩
  · rcases List.mem_append.1 hx with h | h
    · obtain ⟨p, hp, rfl⟩ := List.mem_map.1 h; exact W.now p hp
    · exact K.facts x h
  · rcases List.mem_append.1 hx with h | h
    · obtain ⟨p, hp, rfl⟩ := List.mem_map.1 h; exact Nat.le_trans H.next (W.ge p hp)
    · exact K.isnew x h hn
  · rw [List.map_append, List.map_map]
    refine List.nodup_append.2 ⟨W.nd, H.nodup, fun a ha b hb e => ?_⟩
    obtain ⟨p, hp, rfl⟩ := List.mem_map.1 ha
    obtain ⟨c, hc, rfl⟩ := List.mem_map.1 hb
    have h1 := W.ge p hp
    have h2 := St.lt_of_get (H.facts c hc)
    simp only [Function.comp] at e
    omega
end

section
variable {s0 : Base} {st st' : St} {m m' : List Cell} {t t' : List (Own × Nat)}
/-- A list that a call has made may grow on. -/
theorem SP.addtok (K : SP s0 m' t st') (H : SP s0 m t st) (own : Own) (sz : Nat) (g : Grown (st : Base) st' (own, sz)) : SP s0 m' ((own, sz) :: t) st' := by
  refine ⟨K.next, K.old, K.facts, K.isnew, K.nodup, fun x hx => ?_, List.pairwise_cons.2 ⟨fun y hy a e e2 => ?_, K.apart⟩⟩
  · rcases List.mem_cons.1 hx with rfl | hx
    · cases own with
      | any => exact g
      | exact => trivial
      | tok a =>
        refine ⟨.inl ?_, g.2⟩
        rcases g.1 with h | h
        · exact Nat.le_trans H.next h
        · exact absurd trivial h
    · exact K.toks x hx
  · simp only at e; subst e
    obtain ⟨o, z⟩ := y
    simp only at e2; subst e2
    have h1 := St.lt_of_get (H.toks _ hy).2
    rcases g.1 with h | h
    · have h : st.next ≤ a := h
      omega
    · exact h trivial
theorem SP.apart2 (H : SP s0 m t st) (i j : Nat) {x y : Own × Nat} (hi : t[i]? = some x) (hj : t[j]? = some y) (hij : i ≠ j) : ∀ a, x.1 = .tok a → y.1 ≠ .tok a := by
  have hp := List.pairwise_iff_getElem.1 H.apart
  obtain ⟨q1, q2⟩ := List.getElem?_eq_some_iff.1 hi
  obtain ⟨q3, q4⟩ := List.getElem?_eq_some_iff.1 hj
  intro a e e2
  rcases Nat.lt_or_gt_of_ne hij with h | h
  · have := hp i j q1 q3 h a; rw [q2, q4] at this; exact this e e2
  · have := hp j i q3 q1 h a; rw [q2, q4] at this; exact this e2 e
end

/-! ### what reads are owed, by what they read -/
section
variable {P : Program} {N : Nat} {lf : List AV} {st : St} {s0 : Base} {Q : Jmp → (Nat → AV) → St → Prop} {bb : CC} {m : List Cell} {t : List (Own × Nat)} {bss : List (List Nat)} {als : Als} {hist : List (Nat × St)} {pend : Pend} {i : Nat} {d : Option Nat} {r : List GOp}

def PendLe (pend pend' : Pend) : Prop := ∀ q' ∈ pend', ∃ q ∈ pend, q.1 = q'.1 ∧ ∀ s, q.2.1 s = some (q.2.2, s) → q'.2.1 s = some (q'.2.2, s)
theorem PendLe.cons {pend pend' : Pend} (h : PendLe pend pend') (x : Nat × (St → Option (AV × St)) × AV) : PendLe (x :: pend) (x :: pend') := by
  intro q hq
  rcases List.mem_cons.1 hq with rfl | hq
  · exact ⟨q, List.mem_cons_self .., rfl, fun _ h => h⟩
  · obtain ⟨p, hp, e⟩ := h q hq; exact ⟨p, List.mem_cons_of_mem _ hp, e⟩

theorem wdraw_le : ∀ (l : List GOp) (i : Nat) (fr : Nat → AV) (st : St) (hist : List (Nat × St)) (pend pend' : Pend) (K : (Nat → AV) → St → Prop),
    PendLe pend pend' → wdraw P bss als i l fr st hist pend K → wdraw P bss als i l fr st hist pend' K
  | [], i, fr, st, hist, pend, pend', K, hq, h => h
  | g :: r, i, fr, st, hist, pend, pend', K, hq, h => by
    have eff : ∀ s, effOK (bss.getD i []) als pend s → effOK (bss.getD i []) als pend' s := fun s h => ⟨fun q hq' hc => by
      obtain ⟨p, hp, e1, e2⟩ := hq q hq'
      exact e2 s (h.1 p hp (by rw [e1]; exact hc)), h.2⟩
    simp only [wdraw] at h ⊢
    split at h
    · split at h
      · exact wdraw_le r _ _ _ _ _ _ _ hq h
      · exact h.elim
    · split at h
      · exact wc_loop.wop_mono _ _ _ _ _ h fun x s h' => wdraw_le r _ _ _ _ _ _ _ hq h'
      · split at h
        · split at h
          · rename_i hb; rw [if_pos hb]; exact wc_loop.wop_mono _ _ _ _ _ h fun x s h' => wdraw_le r _ _ _ _ _ _ _ hq h'
          · rename_i hb; rw [if_neg hb]; exact wdraw_le r _ _ _ _ _ _ _ hq h
        · exact wdraw_le r _ _ _ _ _ _ _ hq h
        · exact h.elim
    · split at h
      · exact wc_loop.wop_mono _ _ _ _ _ h fun x s h' => ⟨h'.1, wdraw_le r _ _ _ _ _ _ _ (hq.cons _) h'.2⟩
      · split at h
        · split at h
          · rename_i hb; rw [if_pos hb]; exact wc_loop.wop_mono _ _ _ _ _ h fun x s h' => ⟨h'.1, wdraw_le r _ _ _ _ _ _ _ (hq.cons _) h'.2⟩
          · rename_i hb; rw [if_neg hb]; exact wdraw_le r _ _ _ _ _ _ _ hq h
        · exact wdraw_le r _ _ _ _ _ _ _ hq h
        · exact h.elim
    · split at h
      · exact wc_loop.wop_mono _ _ _ _ _ h fun x s h' => ⟨eff _ h'.1, wdraw_le r _ _ _ _ _ _ _ hq h'.2⟩
      · split at h
        · split at h
          · rename_i hb; rw [if_pos hb]; exact wc_loop.wop_mono _ _ _ _ _ h fun x s h' => ⟨eff _ h'.1, wdraw_le r _ _ _ _ _ _ _ hq h'.2⟩
          · rename_i hb; rw [if_neg hb]; exact ⟨eff _ h.1, wdraw_le r _ _ _ _ _ _ _ hq h.2⟩
        · exact ⟨eff _ h.1, wdraw_le r _ _ _ _ _ _ _ hq h.2⟩
        · exact h.elim

/-- What a load reads at a place. -/
def rdAt (g : Bool) (sz a off : Nat) (s : St) : Option (AV × St) := (loadS s g sz (.ptr a off)).map fun y => (y, s)
theorem rd_ok {g : Bool} {sz : Nat} {s : St} (H : SP s0 m t s) (j a off : Nat) (cs : List AV) (nw : Bool) (hj : m[j]? = some ⟨a, .cells cs, nw⟩) (x : AV) (hx : getCells cs g sz off = some x) : rdAt g sz a off s = some (x, s) := by
  have := H.facts _ (List.mem_of_getElem? hj); simp only at this; simp only [rdAt, loadS, this, hx, Option.map_some]

/-- A load. -/
theorem wd_load {g : Bool} {sz : Nat} {p : Opd} (H : SP s0 m t st) (j a off : Nat) (cs : List AV) (nw : Bool) (hj : m[j]? = some ⟨a, .cells cs, nw⟩) (hp : p.ev (L lf) = .ptr a off) (x : AV) (hx : getCells cs g sz off = some x) (js : List Nat) (hjs : loose (bss.getD i []) 0 hist = js) (hh : AtAll (fun h : Nat × St => rdAt g sz a off h.2 = some (x, h.2)) hist js) (hd : dok lf d = true)
    (k : RD P N bss als (i + 1) r bb (stx lf d x) st hist ((i, rdAt g sz a off, x) :: pend) Q) : RD P N bss als i (⟨d, none, .load g sz p⟩ :: r) bb lf st hist pend Q := by
  have key : ∀ s, rdAt g sz a off s = some (x, s) ↔ evOp P (·.ev (L lf)) s (.load g sz p) = some (x, s) := by
    intro s
    simp only [rdAt, evOp, hp]
    cases loadS s g sz (.ptr a off) <;> simp
  refine ⟨?_⟩
  have k := k.run
  rw [← L_stx hd] at k
  simp only [wdraw, COp.kd]
  refine wc_loop.wop_mono _ _ _ _ _ (ev_wop (c := .load g sz p) (by simp [COp.kd]) (ev_load H j a off cs nw hj hp x hx)) fun y s e => ?_
  obtain ⟨rfl, rfl⟩ := e
  refine ⟨fun h hm hc => (key h.2).1 (loose_spec (φ := fun h : Nat × St => rdAt g sz a off h.2 = some (y, h.2)) hjs hh h hm hc), ?_⟩
  refine wdraw_le r _ _ _ _ _ _ _ ?_ k
  intro q hq
  rcases List.mem_cons.1 hq with rfl | hq
  · exact ⟨_, List.mem_cons_self .., rfl, fun s e => (key s).1 e⟩
  · exact ⟨q, List.mem_cons_of_mem _ hq, rfl, fun _ e => e⟩

end
/-- Values of some slots. -/
def LX : List (Nat × AV) → Nat → AV
  | [], _ => .junk
  | (j, x) :: r, i => if j = i then x else LX r i
end Go.EF
