/- Regions that draw their order, last part: the machine. No conditions. -/
import Derived.Test.YtbekogkbdmaobaaEfDraw3
namespace Go.EF
open Go Go.RowKit

section
variable {P : Program} {N : Nat} {ops : Array Oper} {gs : List GOp} {bss : List (List Nat)} {als : List (Nat × Nat × List AV)} {base : Nat}
variable {X : Nat → AV} {S : Nat → St} {F : Nat → Nat → AV}

def Lst (listed : Array Bool) (k : Nat) : Prop := listed.getD k false = true

/-- What holds in the midst of a region. -/
structure Mid (N : Nat) (P : Program) (gs : List GOp) (als : List (Nat × Nat × List AV)) (X : Nat → AV) (S : Nat → St) (F : Nat → Nat → AV) (G0 : Gh) (D : List Nat) (L : Nat → Prop) (a : Act) (w : World) (G : Gh) (m : Nat) : Prop where
  le : G0.le G
  rel : Rel P G (S m) w
  eff : ∀ k, effAt gs k → (L k ↔ k < m)
  hm : m ≤ gs.length
  size : a.tmps.size = N
  dfr : DfrOK G D a.defers
  als : ∀ x ∈ als, ¬ L x.1 → G.mu x.2.1 = none
  last : ∀ (s k : Nat) (g : GOp), gs[k]? = some g → L k → g.dst = some s → (∀ (k' : Nat) (g' : GOp), k < k' → gs[k']? = some g' → L k' → g'.dst ≠ some s) → VRel G (X k) (a.tmps.getD s undef)
  first : ∀ s : Nat, (∀ (k : Nat) (g : GOp), gs[k]? = some g → L k → g.dst ≠ some s) → VRel G (F 0 s) (a.tmps.getD s undef)

theorem conflict_dst {a b : GOp} {d : Nat} (h : a.dst = some d) (k : d ∈ b.slots ∨ b.dst = some d) : conflict a b = true := by
  unfold conflict; rw [h]
  rcases k with k | k <;> simp [k]
theorem conflict_dst' {a b : GOp} {d : Nat} (h : b.dst = some d) (k : d ∈ a.slots ∨ a.dst = some d) : conflict a b = true := by
  unfold conflict
  rcases k with k | k <;> simp [h, k]
theorem conflict_eff {a b : GOp} (h : a.op.kd = .eff) (k : b.op.kd = .eff) : conflict a b = true := by
  unfold conflict; simp [h, k]

/-- The wanting of an operation hangs on its guard's slot. -/
theorem wanted_of {o : Oper} {g : GOp} {fr : Nat → AV} {a : Act} {G : Gh} (hc : compOper P N ops o = some g) (hd : ∀ d w, g.guard = some (d, w) → VRel G (fr d) (a.tmps.getD d undef)) :
    (Runs g fr → Region.wanted o (yielded ops a.tmps) = true) ∧ (Skips g fr → Region.wanted o (yielded ops a.tmps) = false) := by
  unfold compOper at hc
  split at hc
  · split at hc
    · split at hc
      · rename_i c hc' hg; cases hc
        exact ⟨fun _ => by unfold Region.wanted; rw [hg], fun h => by simp [Skips] at h⟩
      · rename_i c hc' j want hg
        split at hc
        · rename_i d hdd
          cases hc
          have key : ∀ b, fr d = .bool b → Region.wanted o (yielded ops a.tmps) = (b == want) := by
            intro b hb
            have hv := hd d want rfl
            rw [hb] at hv; simp only [VRel] at hv
            have ht : a.tmps[d]? = some (.bool b) := by
              rw [Array.getD_eq_getD_getElem?] at hv
              cases he : a.tmps[d]? with
              | none => rw [he] at hv; simp [undef] at hv
              | some y => rw [he] at hv; simpa using hv
            simp [Region.wanted, hg, yielded, hdd, ht]
          refine ⟨fun h => by rw [key want h]; simp, fun h => ?_⟩
          rcases h with h | h
          · rw [key _ h]; cases want <;> rfl
          · have hv := hd d want rfl
            rw [h] at hv; simp only [VRel, VRels] at hv
            obtain ⟨ys, e1, e2⟩ := hv
            have hu : a.tmps.getD d undef = undef := by rw [e1]; unfold undef; congr; exact Array.toList_eq_nil_iff.1 e2
            have ht : ((ops[j]?).bind (·.dst)).bind (a.tmps[·]?) ≠ some (.bool want) ∧ ∀ b, ((ops[j]?).bind (·.dst)).bind (a.tmps[·]?) ≠ some (.bool b) := by
              have hall : ∀ b, ((ops[j]?).bind (·.dst)).bind (a.tmps[·]?) ≠ some (.bool b) := fun b e => by
                rw [hdd] at e
                simp only [Option.bind_some] at e
                rw [Array.getD_eq_getD_getElem?, e] at hu
                simp [undef] at hu
              exact ⟨hall want, hall⟩
            unfold Region.wanted
            rw [hg]
            simp only [yielded]
            split
            · rename_i b hb; exact absurd hb (ht.2 b)
            · cases want <;> rfl
        · cases hc
    · cases hc
  · cases hc

variable (T : Tr P N ops gs bss als base X S F)
include T

theorem mid_step {G0 : Gh} {D : List Nat} {L L' : Nat → Prop} {i : Nat} {g : GOp} {o : Oper} (hg : gs[i]? = some g) (ho : ops[i]? = some o) (hc : compOper P N ops o = some g) (hnL : ¬ L i) (hL' : ∀ k, L' k ↔ L k ∨ k = i)
    (hb : ∀ j, (bss.getD i []).contains j = true → L j) (down : ∀ k, L k → ∀ j, (bss.getD k []).contains j = true → L j) (hbase : base = G0.nx)
    {a : Act} {w : World} {G : Gh} {m : Nat} (M : Mid N P gs als X S F G0 D L a w G m) (ro : Option Nat) (n : Nat) (next : Act → World → Prop) (Q : Exit → Act → World → Prop)
    (hnext : ∀ a' w' G' m', Mid N P gs als X S F G0 D L' a' w' G' m' → next a' w') :
    wpOpIn (wideAt ro) n P ops Q i next a w := by
  have hi : i < gs.length := (List.getElem?_eq_some_iff.1 hg).1
  -- whoever is at odds with it is done if and only if it comes before it
  have odds : ∀ (k : Nat) (h : GOp), k ≠ i → gs[k]? = some h → (conflict g h = true ∧ conflict h g = true) → (L k ↔ k < i) := by
    intro k h hne hk hcf
    rcases Nat.lt_or_ge k i with hlt | hge
    · exact ⟨fun _ => hlt, fun _ => hb k (T.e4 i k g h hlt hg hk hcf.1)⟩
    · refine ⟨fun hl => absurd (down k hl i (T.e4 k i h g (by omega) hk hg hcf.2)) hnL, fun h => by omega⟩
  have wr : ∀ (s k : Nat) (h : GOp), k ≠ i → gs[k]? = some h → h.dst = some s → (s ∈ g.slots ∨ g.dst = some s) → (L k ↔ k < i) := fun s k h hne hk hd hs =>
    odds k h hne hk ⟨conflict_dst' hd hs, conflict_dst hd hs⟩
  -- the slots that it reads
  have slot : ∀ s ∈ g.slots, VRel G (F i s) (a.tmps.getD s undef) := by
    intro s hs
    rcases T.slot s i (by omega) with ⟨k, h, h1, h2, h3, h4, h5⟩ | ⟨h1, h2⟩
    · rw [h4]
      refine M.last s k h h2 ((wr s k h (by omega) h2 h3 (.inl hs)).2 h1) h3 fun k' g' e1 e2 e3 => ?_
      by_cases hk' : k' < i
      · exact h5 k' g' e1 hk' e2
      · intro e4
        by_cases hki : k' = i
        · subst hki; exact hnL e3
        · exact hk' ((wr s k' g' hki e2 e4 (.inl hs)).1 e3)
    · rw [h2]
      refine M.first s fun k h e1 e2 e3 => ?_
      by_cases hki : k = i
      · subst hki; exact hnL e2
      · exact h1 k h ((wr s k h hki e1 e3 (.inl hs)).1 e2) e1 e3
  have hF : FrRel G N (mask g.op.slots (F i)) a.tmps := by
    refine ⟨M.size, fun s => ?_⟩
    unfold mask
    by_cases hs : g.op.slots.contains s = true
    · rw [if_pos hs]; exact slot s (List.mem_append_left _ (by simpa using hs))
    · rw [if_neg hs]; simp [VRel]
  have hwant := wanted_of (ops := ops) (fr := F i) (a := a) (G := G) hc fun d wnt e => slot d (by unfold GOp.slots; rw [e]; simp)
  obtain ⟨hd1, hd2⟩ := compOper_dst hc
  -- it is done
  have fin : ∀ (y : Value) (w' : World) (G' : Gh) (m' : Nat), G0.le G' → G.sub G' → G'.dfr = G.dfr ∨ G.le G' → Rel P G' (S m') w' → VRel G' (X i) y → m' ≤ gs.length → (∀ k, effAt gs k → (L' k ↔ k < m')) →
      (∀ x ∈ als, ¬ L' x.1 → G'.mu x.2.1 = none) → Mid N P gs als X S F G0 D L' (a.put o.dst y) w' G' m' := by
    intro y w' G' m' k1 k2 k3 k4 k5 k6 k7 k8
    have keep : ∀ s, o.dst ≠ some s → (a.put o.dst y).tmps.getD s undef = a.tmps.getD s undef := by
      intro s hs
      cases hd : o.dst with
      | none => rfl
      | some d =>
        simp only [Act.put, Array.getD_eq_getD_getElem?]
        rw [Array.getElem?_setIfInBounds_ne (fun e => hs (by rw [hd, e]))]
    have new : ∀ s, o.dst = some s → (a.put o.dst y).tmps.getD s undef = y := by
      intro s hs
      rw [hs] at hd2 ⊢
      have : s < a.tmps.size := by rw [M.size]; simpa [dstOK] using hd2
      simp [Act.put, Array.getD, this]
    refine { le := k1, rel := k4, eff := k7, hm := k6, size := ?_, dfr := ?_, als := k8, last := ?_, first := ?_ }
    · cases hd : o.dst <;> simp [Act.put, M.size]
    · rw [put_defers]
      obtain ⟨rs, r1, r2, r3⟩ := M.dfr
      refine ⟨rs, r1, fun r hr => ⟨?_, (r2 r hr).2⟩, r3⟩
      rcases k3 with e | e
      · rw [e]; exact (r2 r hr).1
      · exact e.dfr _ (r2 r hr).1
    · intro s k h e1 e2 e3 e4
      by_cases hs : g.dst = some s
      · rw [new s (by rw [← hd1]; exact hs)]
        have : k = i := by
          by_cases hki : k = i
          · exact hki
          · have hlk : L k := ((hL' k).1 e2).resolve_right hki
            have := (wr s k h hki e1 e3 (.inr hs)).1 hlk
            exact absurd hs (e4 i g this hg ((hL' i).2 (.inr rfl)))
        subst this; exact k5
      · rw [keep s (by rw [← hd1]; exact hs)]
        have hki : k ≠ i := fun e => by subst e; rw [hg] at e1; cases e1; exact hs e3
        exact VRel.mono' k2 _ _ (M.last s k h e1 (((hL' k).1 e2).resolve_right hki) e3 fun k' g' u1 u2 u3 => e4 k' g' u1 u2 ((hL' k').2 (.inl u3)))
    · intro s hs
      have hgs : g.dst ≠ some s := hs i g hg ((hL' i).2 (.inr rfl))
      rw [keep s (by rw [← hd1]; exact hgs)]
      exact VRel.mono' k2 _ _ (M.first s fun k h u1 u2 => hs k h u1 ((hL' k).2 (.inl u2)))
  -- objects that are not placed yet are as new
  have zero : ∀ x ∈ als, ¬ L x.1 → (S m).get x.2.1 = some (.cells x.2.2) := fun x hx hnx =>
    T.zero hx m M.hm fun k hk he => by
      cases hcc : (bss.getD k []).contains x.1 with
      | false => rfl
      | true => exact absurd (down k ((M.eff k he).2 hk) x.1 hcc) hnx
  have aold : ∀ G', G.le G' → ∀ x ∈ als, ¬ L' x.1 → G'.mu x.2.1 = none := fun G' hle x hx hn => by
    have hnx : ¬ L x.1 := fun e => hn ((hL' _).2 (.inl e))
    rw [hle.old _ (by rw [M.rel.nxeq]; exact St.lt_of_get (zero x hx hnx))]
    exact M.als x hx hnx
  -- an operation that is no effect leaves the effects as they are
  have same : ¬ effAt gs i → ∀ k, effAt gs k → (L' k ↔ k < m) := fun hne k hk => by
    rw [hL' k]
    constructor
    · rintro (h | rfl)
      · exact (M.eff k hk).1 h
      · exact absurd hk hne
    · exact fun h => .inl ((M.eff k hk).2 h)
  have tstep := (T.step i g hg).2
  have hab : ∀ f, o.about P w a.eval = some f → (wideAt ro).fn f := fun _ _ => trivial
  unfold wpOpIn
  simp only [ho]
  -- how a skipped one ends
  have skip : Skips g (F i) → X i = .tup [] → (∃ m', S m' = S m ∧ m' ≤ gs.length ∧ ∀ k, effAt gs k → (L' k ↔ k < m')) → (if Region.wanted o (yielded ops a.tmps) = true then o.wpIn (wideAt ro) n P a w next Q else (∀ f, o.about P w a.eval = some f → (wideAt ro).fn f) ∧ next (a.put o.dst undef) w) := by
    intro hs hx ⟨m', e1, e2, e3⟩
    rw [hwant.2 hs]
    simp only [Bool.false_eq_true, if_false]
    refine ⟨hab, hnext _ _ G m' (fin undef w G m' M.le ⟨fun _ _ e => e, fun _ _ _ e => e, fun _ _ e => e⟩ (.inl rfl) (by rw [e1]; exact M.rel) (by rw [hx]; simp [VRel, VRels, undef]) e2 e3 (aold G (.refl _)))⟩
  cases hk : g.op.kd with
  | alloc =>
    rw [hk] at tstep
    obtain ⟨t1, x, hx, rfl, t3⟩ := tstep
    obtain ⟨q1, q2, g', q3, q4⟩ := T.al x hx
    rw [hg] at q3; cases q3
    have hne : ¬ effAt gs x.1 := fun ⟨g2, u1, u2⟩ => by rw [hg] at u1; cases u1; rw [hk] at u2; cases u2
    obtain ⟨hgd, hdst⟩ := T.e3 _ g hg hk
    rw [hwant.1 (by simp [Runs, hgd])]
    simp only [if_true]
    refine ⟨hab, ?_⟩
    -- which operation it is
    have hco := compOper_op hc
    rw [q4] at hco
    obtain ⟨dst, op, type, pos, after, guard⟩ := o
    have hop : ∃ t, op = .alloc t ∧ tzero P t = some x.2.2 := by
      cases op with
      | alloc t => simp only [compOp, Option.map_eq_some_iff] at hco; obtain ⟨z, h1, h2⟩ := hco; cases h2; exact ⟨t, rfl, h1⟩
      | call cl =>
        obtain ⟨callee, as, ats⟩ := cl
        cases callee with
        | value fv =>
          cases fv with
          | func f' => simp [compOp] at hco
          | _ => exact absurd hco (by simp only [compOp] <;> (repeat' split) <;> simp)
        | builtin b => exact absurd hco (by cases b <;> simp only [compOp] <;> (repeat' split) <;> simp)
        | invoke => simp [compOp] at hco
      | makeFunc fn _ _ => exact absurd hco (by cases fn <;> simp only [compOp] <;> (repeat' split) <;> simp)
      | makeMap _ r => exact absurd hco (by cases r <;> simp only [compOp] <;> (repeat' split) <;> simp)
      | next y isS => exact absurd hco (by cases isS <;> simp [compOp])
      | _ => exact absurd hco (by simp only [compOp] <;> (repeat' split) <;> simp)
    obtain ⟨t, rfl, hz⟩ := hop
    obtain ⟨v, inf, _, _, _, z1, z2⟩ := tzero_run hz
    rw [Oper.semAt_eq _ _ _ (by simp)]
    have hrun : (execOp a.eval (⟨dst, .alloc t, type, pos, after, guard⟩ : Oper)).run P w = .ok (.value (.pointer (some ⟨w.heap.size, 0, none⟩))) (w.alloc (.cells v.cells t)) := by
      simp [execOp, Instr.alloc, z1, newVar, newRow]
    rw [hrun]
    obtain ⟨G', p1, p2, p3, p4, p5, p6, p7, p8⟩ := M.rel.place (zero x hx hnL) (M.als x hx hnL) v.cells t (z2 G)
    have hbx : G0.nx ≤ x.2.1 := by rw [← hbase]; exact q1
    refine hnext _ _ G' m (fin _ _ G' m ⟨p2.trans M.le.w0, by rw [p3]; exact M.le.nx, fun a' ha' => by rw [p4 a' (by omega)]; exact M.le.old a' ha', fun a' b e => p1.mu _ _ (M.le.mu _ _ e), fun b o' y e => p1.fz _ _ _ (M.le.fz _ _ _ e), fun a' y e => p1.arr _ _ (M.le.arr _ _ e), fun r hr => by rw [p5]; exact M.le.dfr r hr, fun r hr => by rw [p6]; exact M.le.lps r hr⟩ p1 (.inl p5) p7 ?_ M.hm (same hne) ?_)
    · rw [t3]; simp only [VRel]; exact ⟨_, p8, rfl⟩
    · intro y hy hn
      have hny : ¬ L y.1 := fun e => hn ((hL' _).2 (.inl e))
      rw [p4 _ fun e => hn ((hL' _).2 (.inr ((T.alinj y hy x hx).2 e)))]
      exact M.als y hy hny
  | pure =>
    rw [hk] at tstep
    have hne : ¬ effAt gs i := fun ⟨g2, u1, u2⟩ => by rw [hg] at u1; cases u1; rw [hk] at u2; cases u2
    obtain ⟨t1, ⟨t2, t3⟩ | ⟨t2, s', t3⟩⟩ := tstep
    · exact skip t2 t3 ⟨m, rfl, M.hm, same hne⟩
    · rw [hwant.1 t2]
      simp only [if_true]
      obtain ⟨x, st', ⟨rfl, rfl⟩, hs⟩ := wop_sound1 hc (ev_wop (by rw [hk]; simp) ((evOp_pure hk t3).2 (S m)))
      refine hs ro G a w n next Q M.rel hF fun y w' G' u1 u2 u3 => hnext _ _ G' m (fin y w' G' m (M.le.trans u1) u1.sub (.inr u1) u2 u3 M.hm (same hne) (aold G' u1))
  | read =>
    rw [hk] at tstep
    have hne : ¬ effAt gs i := fun ⟨g2, u1, u2⟩ => by rw [hg] at u1; cases u1; rw [hk] at u2; cases u2
    by_cases hsk : Skips g (F i) ∧ X i = .tup []
    · exact skip hsk.1 hsk.2 ⟨m, rfl, M.hm, same hne⟩
    · obtain ⟨t2, _⟩ := tstep.2.resolve_left hsk
      rw [hwant.1 t2]
      simp only [if_true]
      have hev := T.reads hg hk hsk M.hm (fun k he h1 h2 => by
        cases hcc : (bss.getD i []).contains k with
        | false => rfl
        | true => have := (M.eff k he).1 (hb k hcc); omega) (fun k he h1 h2 => by
        cases hcc : (bss.getD k []).contains i with
        | false => rfl
        | true => exact absurd (down k ((M.eff k he).2 h2) i hcc) hnL)
      obtain ⟨x, st', ⟨rfl, rfl⟩, hs⟩ := wop_sound1 hc (ev_wop (by rw [hk]; simp) hev)
      refine hs ro G a w n next Q M.rel hF fun y w' G' u1 u2 u3 => hnext _ _ G' m (fin y w' G' m (M.le.trans u1) u1.sub (.inr u1) u2 u3 M.hm (same hne) (aold G' u1))
  | eff =>
    rw [hk] at tstep
    have he : effAt gs i := ⟨g, hg, hk⟩
    have hiff : ∀ k, effAt gs k → (L k ↔ k < i) := fun k hke => by
      obtain ⟨h, h1, h2⟩ := hke
      by_cases hki : k = i
      · subst hki; exact ⟨fun e => absurd e hnL, fun e => absurd e (Nat.lt_irrefl _)⟩
      · exact odds k h hki h1 ⟨conflict_eff hk h2, conflict_eff h2 hk⟩
    have hS : S m = S i := T.sameS M.hm (by omega) fun k hke => (M.eff k hke).symm.trans (hiff k hke)
    have hiff' : ∀ k, effAt gs k → (L' k ↔ k < i + 1) := fun k hke => by
      rw [hL' k, hiff k hke]; omega
    obtain ⟨⟨t1, t2, t3⟩ | ⟨t1, o', t2, t3⟩, _⟩ := tstep
    · exact skip t1 t2 ⟨i + 1, by rw [t3, hS], by omega, hiff'⟩
    · rw [ho] at t2; cases t2
      rw [hwant.1 t1]
      simp only [if_true]
      refine t3 ro G a w n next Q (by rw [← hS]; exact M.rel) hF fun y w' G' u1 u2 u3 => hnext _ _ G' (i + 1) (fin y w' G' (i + 1) (M.le.trans u1) u1.sub (.inr u1) u2 u3 (by omega) hiff' (aold G' u1))
end
end Go.EF
