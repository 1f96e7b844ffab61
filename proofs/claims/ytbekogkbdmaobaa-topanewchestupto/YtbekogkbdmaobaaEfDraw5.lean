/- Regions that draw their order: the whole. No conditions. -/
import Derived.Test.YtbekogkbdmaobaaEfDraw4
namespace Go.EF
open Go Go.RowKit

theorem countP_turn {p p' : Nat → Bool} {i : Nat} (hp : p i = true) (hp' : p' i = false) (hne : ∀ j, j ≠ i → p' j = p j) : ∀ n, i < n → (List.range n).countP p' + 1 = (List.range n).countP p
  | 0, h => by omega
  | n + 1, h => by
    rw [List.range_succ, List.countP_append, List.countP_append]
    by_cases hi : i = n
    · subst hi
      have : (List.range i).countP p' = (List.range i).countP p := by
        apply List.countP_congr
        intro j hj
        rw [hne j (by have := List.mem_range.1 hj; omega)]
      rw [this]; simp [hp, hp']
    · have := countP_turn hp hp' hne n (by omega)
      have e : [n].countP p' = [n].countP p := by simp [List.countP_cons, hne n (Ne.symm hi)]
      rw [e]; omega

theorem mapM_spec {α β : Type} {f : α → Option β} : ∀ {l : List α} {r : List β}, l.mapM f = some r → l.length = r.length ∧ ∀ (k : Nat) (b : β), r[k]? = some b → ∃ a, l[k]? = some a ∧ f a = some b
  | [], r, h => by simp at h; subst h; exact ⟨rfl, fun k b e => by simp at e⟩
  | x :: l, r, h => by
    simp only [List.mapM_cons, Option.bind_eq_bind, Option.bind_eq_some_iff, Option.pure_def, Option.some.injEq] at h
    obtain ⟨y, h1, r', h2, rfl⟩ := h
    obtain ⟨i1, i2⟩ := mapM_spec h2
    refine ⟨by simp [i1], fun k b e => ?_⟩
    cases k with
    | zero => simp at e; subst e; exact ⟨x, by simp, h1⟩
    | succ k => simp at e; obtain ⟨a, a1, a2⟩ := i2 k b e; exact ⟨a, by simpa using a1, a2⟩

section
variable {P : Program} {N : Nat} {ops : Array Oper} {gs : List GOp} {bss : List (List Nat)}

theorem wdraw_sound {fr : Nat → AV} {st : St} {K : (Nat → AV) → St → Prop} (hl : ops.toList.mapM (compOper P N ops) = some gs) (hok : drawOK (ops.toList.map directs) gs bss = true)
    (h : wdraw P bss (allocsOf st.next 0 gs) 0 gs fr (preSt st (allocsOf st.next 0 gs)) [] [] K) :
    ∃ fr' st', K fr' st' ∧ ∀ ro G D a w n (Q : Exit → Act → World → Prop), Ready P N ro G D fr st a w → (∀ a' w' G', G.le G' → Ready P N ro G' D fr' st' a' w' → Q .normal a' w') →
      wpAnyIn (wideAt ro) n P .any ops Q ops.size (Array.replicate ops.size false) a w := by
  obtain ⟨hlen, hop⟩ := mapM_spec hl
  have hop' : ∀ (k : Nat) (g : GOp), gs[k]? = some g → ∃ o, ops[k]? = some o ∧ compOper P N ops o = some g := fun k g e => by
    obtain ⟨o, h1, h2⟩ := hop k g e; exact ⟨o, by simpa using h1, h2⟩
  obtain ⟨X, S, F, hF0, hS0, hK, hT⟩ := wdraw_trace hop' gs 0 fr _ [] [] (fun k => by simp) h
  obtain ⟨d1, d2, d3, d4⟩ := drawOK_spec hok
  obtain ⟨al1, al2⟩ := allocsOf_spec gs st 0
  have T : Tr P N ops gs bss (allocsOf st.next 0 gs) st.next X S F := { len := by simpa using hlen, op := hop', step := fun k g e => hT k g (Nat.zero_le _) e, e1 := d1, e2 := d2, e3 := d3, e4 := d4, al := fun x hx => by obtain ⟨g1, g2, g3, g, g4, g5⟩ := al1 x hx; exact ⟨g2, by rw [hS0]; exact g3, g, by simpa using g4, g5⟩, alinj := al2 }
  rw [Nat.zero_add] at hK
  refine ⟨F gs.length, S gs.length, hK, fun ro G0 D a w n Q hr hq => ?_⟩
  -- its end
  have fin : ∀ (listed : Array Bool) (a : Act) (w : World) (G : Gh) (m : Nat), Mid N P gs (allocsOf st.next 0 gs) X S F G0 D (Lst listed) a w G m → (∀ k, k < ops.size → Lst listed k) → Q .normal a w := by
    intro listed a w G m M all
    have hall : ∀ (k : Nat) (g : GOp), gs[k]? = some g → Lst listed k := fun k g e => all k (by rw [T.len]; exact (List.getElem?_eq_some_iff.1 e).1)
    have hS : S m = S gs.length := T.sameS M.hm (Nat.le_refl _) fun k ⟨g, h1, h2⟩ => by
      have h3 := (M.eff k ⟨g, h1, h2⟩).1 (hall k g h1)
      have h4 := (List.getElem?_eq_some_iff.1 h1).1
      exact ⟨fun _ => h4, fun _ => h3⟩
    refine hq a w G M.le ⟨fun b e => M.le.lps _ (hr.1 b e), by rw [← hS]; exact M.rel, ⟨M.size, fun s => ?_⟩, fun r h => M.le.dfr r (hr.2.2.2.1 r h), M.dfr⟩
    rcases T.slot s gs.length (Nat.le_refl _) with ⟨k, g, h1, h2, h3, h4, h5⟩ | ⟨h1, h2⟩
    · rw [h4]
      exact M.last s k g h2 (hall k g h2) h3 fun k' g' e1 e2 _ => h5 k' g' e1 (List.getElem?_eq_some_iff.1 e2).1 e2
    · rw [h2]
      exact M.first s fun k g e1 _ => h1 k g (List.getElem?_eq_some_iff.1 e1).1 e1
  -- the run
  have run : ∀ (fuel : Nat) (listed : Array Bool) (a : Act) (w : World) (G : Gh) (m : Nat), listed.size = ops.size → (List.range ops.size).countP (fun k => !listed.getD k false) ≤ fuel →
      (∀ k, Lst listed k → ∀ j, (bss.getD k []).contains j = true → Lst listed j) → Mid N P gs (allocsOf st.next 0 gs) X S F G0 D (Lst listed) a w G m → wpAnyIn (wideAt ro) n P .any ops Q fuel listed a w := by
    intro fuel
    induction fuel with
    | zero =>
      intro listed a w G m hsz hcnt down M
      have all : ∀ k, k < ops.size → Lst listed k := fun k hk => by
        have := List.countP_eq_zero.1 (Nat.le_zero.1 hcnt) k (List.mem_range.2 hk)
        unfold Lst; simpa using this
      refine ⟨?_, ?_⟩
      · cases hrd : Region.ready .any ops listed with
        | nil => rfl
        | cons i r =>
          have hi : i ∈ Region.ready .any ops listed := by rw [hrd]; exact List.mem_cons_self ..
          obtain ⟨h0, o, ho, _⟩ := mem_ready.1 hi
          have hlt := (Array.getElem?_eq_some_iff.1 ho).1
          have := all i hlt
          unfold Lst at this
          simp only [Array.getD_eq_getD_getElem?] at h0 this
          rw [Array.getElem?_eq_getElem (by omega)] at h0 this
          simp at h0 this; rw [h0] at this; cases this
      · exact fin listed a w G m M all
    | succ fuel ih =>
      intro listed a w G m hsz hcnt down M
      refine ⟨fun hrd => ?_, fun i hi => ?_⟩
      · -- nothing is ready: all is done
        refine fin listed a w G m M fun k => ?_
        induction k using Nat.strongRecOn with
        | _ k ihk =>
          intro hk
          have hkg : k < gs.length := by rw [← T.len]; exact hk
          obtain ⟨o, ho, _⟩ := hop' k gs[k] (List.getElem?_eq_getElem hkg)
          cases hL : listed.getD k false with
          | true => exact hL
          | false =>
            have : k ∈ Region.ready .any ops listed := by
              refine mem_ready.2 ⟨?_, o, ho, fun e he hb => ?_⟩
              · simp only [Array.getD_eq_getD_getElem?] at hL ⊢
                rw [Array.getElem?_eq_getElem (by omega)] at hL ⊢
                simpa using hL
              · refine ihk e.on (d1 k hkg e.on ?_) ?_
                · have : (ops.toList.map directs)[k]? = some (directs o) := by simp [ho]
                  rw [List.getD_eq_getElem?_getD, this]
                  exact List.mem_map.2 ⟨e, List.mem_filter.2 ⟨by simpa using he, hb⟩, rfl⟩
                · have := d1 k hkg e.on (by
                    have : (ops.toList.map directs)[k]? = some (directs o) := by simp [ho]
                    rw [List.getD_eq_getElem?_getD, this]
                    exact List.mem_map.2 ⟨e, List.mem_filter.2 ⟨by simpa using he, hb⟩, rfl⟩)
                  omega
            rw [hrd] at this; cases this
      · obtain ⟨h0, o, ho, hedge⟩ := mem_ready.1 hi
        have hlt := (Array.getElem?_eq_some_iff.1 ho).1
        have hig : i < gs.length := by rw [← T.len]; exact hlt
        obtain ⟨o', ho', hc⟩ := hop' i gs[i] (List.getElem?_eq_getElem hig)
        rw [ho] at ho'; cases ho'
        have hnL : ¬ Lst listed i := by
          unfold Lst
          simp only [Array.getD_eq_getD_getElem?] at h0 ⊢
          rw [Array.getElem?_eq_getElem (by omega)] at h0 ⊢
          simp at h0 ⊢; exact h0
        have hdir : ∀ j ∈ (ops.toList.map directs).getD i [], Lst listed j := fun j hj => by
          have : (ops.toList.map directs)[i]? = some (directs o) := by simp [ho]
          rw [List.getD_eq_getElem?_getD, this] at hj
          obtain ⟨e, he, rfl⟩ := List.mem_map.1 hj
          obtain ⟨he1, he2⟩ := List.mem_filter.1 he
          exact hedge e (by simpa using he1) he2
        have hbef : ∀ j, (bss.getD i []).contains j = true → Lst listed j := fun j hj => by
          rcases d2 i hig j hj with h | ⟨k, h1, h2⟩
          · exact hdir j h
          · exact down k (hdir k h1) j h2
        have hL' : ∀ k, Lst (listed.setIfInBounds i true) k ↔ Lst listed k ∨ k = i := fun k => by
          unfold Lst
          by_cases hki : k = i
          · subst hki; simp [hsz, hlt]
          · rw [getD_set_ne false (Ne.symm hki)]; simp [hki]
        refine mid_step T (List.getElem?_eq_getElem hig) ho hc hnL hL' hbef down hr.2.1.nxeq.symm M ro n _ Q fun a' w' G' m' M' => ih _ a' w' G' m' (by simp [hsz]) ?_ ?_ M'
        · have := countP_turn (p := fun k => !listed.getD k false) (p' := fun k => !(listed.setIfInBounds i true).getD k false) (i := i) (by unfold Lst at hnL; simpa using hnL) (by simp [hsz, hlt]) (fun j hj => by rw [getD_set_ne false (Ne.symm hj)]) ops.size hlt
          omega
        · intro k hk j hj
          rcases (hL' k).1 hk with h | rfl
          · exact (hL' j).2 (.inl (down k h j hj))
          · exact (hL' j).2 (.inl (hbef j hj))
  -- its start
  obtain ⟨G1, k1, k2, k3, k4, k5⟩ := preSt_rel (allocsOf st.next 0 gs) hr.2.1
  have nobody : ∀ k, ¬ Lst (Array.replicate ops.size false) k := fun k h => by
    unfold Lst at h
    simp only [Array.getD_eq_getD_getElem?, Array.getElem?_replicate] at h
    split at h <;> simp at h
  refine run ops.size _ a w G1 0 (by simp) ?_ (fun k hk => absurd hk (nobody k)) { le := k1, rel := by rw [hS0]; exact k2, eff := fun k _ => ⟨fun h => absurd h (nobody k), fun h => by omega⟩, hm := Nat.zero_le _, size := hr.2.2.1.1, dfr := hr.2.2.2.2.mono k1, als := ?_, last := fun s k g e1 e2 => absurd e2 (nobody k), first := fun s _ => ?_ }
  · have := List.countP_le_length (p := fun k => !(Array.replicate ops.size false).getD k false) (l := List.range ops.size)
    simpa using this
  · intro x hx _
    rw [k3]
    obtain ⟨_, g2, _⟩ := al1 x hx
    cases hm : G0.mu x.2.1 with
    | none => rfl
    | some b => have := hr.2.1.dom _ _ hm; omega
  · rw [hF0]; exact (hr.2.2.1.2 s).mono k1
end
end Go.EF
