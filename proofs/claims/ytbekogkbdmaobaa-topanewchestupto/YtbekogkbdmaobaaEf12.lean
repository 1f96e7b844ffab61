/- Soundness of the weakest precondition: regions, sequences, loops, ranges over functions; the contracts of functions and rounds. No conditions. -/
import Derived.Test.YtbekogkbdmaobaaEfDraw5
import Derived.LoopNIn
namespace Go.EF
open Go Go.RowKit

section
variable {P : Program} {G : Gh} {st : St} {w : World}

theorem Rel.shrink (h : Rel P G st w) (D : List Nat) (hD : ∀ r ∈ D, r ∈ G.dfr) : Rel P { G with dfr := D } st w := by
  have hs : G.sub { G with dfr := D } := ⟨fun _ _ e => e, fun _ _ _ e => e, fun _ _ e => e⟩
  refine { nxeq := h.nxeq, below := h.below, dom := h.dom, adom := h.adom, inj := h.inj, fresh := h.fresh, obj := ?_, fzok := h.fzok, fzmu := h.fzmu, arr := h.arr, arrinj := h.arrinj, dfr := fun r hr => h.dfr r (hD r hr), lps := h.lps }
  intro a o b e hb
  have := h.obj a o b e hb
  cases o with
  | cells cs => obtain ⟨b, vs, t, h1, h2, h3⟩ := this; exact ⟨b, vs, t, h1, h2, VRels.mono' hs _ _ h3⟩
  | vec cs => obtain ⟨b, vs, t, h1, h2, h4, h3⟩ := this; exact ⟨b, vs, t, h1, h2, h4, VRels.mono' hs _ _ h3⟩
  | arr => trivial
  | map es clock =>
    obtain ⟨b, rs, h1, h2, h3⟩ := this
    refine ⟨b, rs, h1, h2, ?_⟩
    clear h2 e
    revert h3; generalize rs.toList = l
    induction es generalizing l with
    | nil => exact id
    | cons e es ih => rintro ⟨r, rs', e1, e2, e3, e4, e5⟩; exact ⟨r, rs', e1, e2, e3, VRel.mono' hs _ _ e4, ih _ e5⟩
  | sit s pos => exact this
  | loop s p fr N ps asg body =>
    obtain ⟨b, rec, h1, h2, h3, h4, h5, h6, h7, h8, h9⟩ := this
    exact ⟨b, rec, h1, h2, h3, h4, h5, h6, h7, ⟨h8.1, fun i => VRel.mono' hs _ _ (h8.2 i)⟩, h9⟩

/-- A block of deferred calls that nothing stands for any more is shut. -/
theorem Rel.put_def (h : Rel P G st w) {r : Nat} {x y : Option (List Deferred)} (hr : w.heap[r]? = some (.deferred x)) (hn : r ∉ G.dfr) (hb : ¬ G.w0.kp r) : Rel P G st (w.putObj r (.deferred y)) := by
  have hold : ∀ k, k ≠ r → (w.putObj r (.deferred y)).heap[k]? = w.heap[k]? := fun k hk => World.putObj_heap_other hk
  have hne : ∀ k o, w.heap[k]? = some o → (∀ z, o ≠ .deferred z) → k ≠ r := fun k o e hz eb => by subst eb; rw [hr] at e; cases e; exact hz _ rfl
  refine { nxeq := h.nxeq, below := ?_, dom := h.dom, adom := h.adom, inj := h.inj, fresh := fun a b e => by rw [World.putObj_size]; exact h.fresh a b e, obj := ?_, fzok := ?_, fzmu := h.fzmu, arr := ?_, arrinj := h.arrinj, dfr := ?_, lps := ?_ }
  · exact h.below.step rfl rfl rfl (by simp) fun k hk => hold k (fun e => hb (e ▸ hk))
  · intro a o bo e hbo
    have hob := h.obj a o bo e hbo
    cases o with
    | arr l s => trivial
    | cells cs => exact hob.mono (.refl _) fun b hmu => hold b (by obtain ⟨b', vs, t, h1, h2, h3⟩ := hob; rw [hmu] at h1; cases h1; exact hne _ _ h2 (by intro z e; cases e))
    | vec cs => exact hob.mono (.refl _) fun b hmu => hold b (by obtain ⟨b', vs, t, h1, h2, h3⟩ := hob; rw [hmu] at h1; cases h1; exact hne _ _ h2 (by intro z e; cases e))
    | map es c => exact hob.mono (.refl _) fun b hmu => hold b (by obtain ⟨b', rs, h1, h2, h3⟩ := hob; rw [hmu] at h1; cases h1; exact hne _ _ h2 (by intro z e; cases e))
    | sit => exact hob.mono (.refl _) fun b hmu => hold b (by obtain ⟨b', h1, h2⟩ := hob; rw [hmu] at h1; cases h1; exact hne _ _ h2 (by intro z e; cases e))
    | loop => exact hob.mono (.refl _) fun b hmu => hold b (by obtain ⟨b', rec, h1, h2, h3⟩ := hob; rw [hmu] at h1; cases h1; exact hne _ _ h2 (by intro z e; cases e))
  · intro b o y e
    obtain ⟨vs, t, fr, h1, h2⟩ := h.fzok b o y e
    exact ⟨vs, t, fr, by rw [hold b (hne _ _ h1 (by intro z e; cases e))]; exact h1, h2⟩
  · intro a sz e
    obtain ⟨b, n, cap, vs, t, h1, h2, h3⟩ := h.arr a sz e
    exact ⟨b, n, cap, vs, t, h1, by rw [hold b (hne _ _ h2 (by intro z e; cases e))]; exact h2, h3⟩
  · intro k hk
    obtain ⟨h1, h2⟩ := h.dfr k hk
    exact ⟨h1, by rw [hold k (fun e => hn (by rw [← e]; exact hk))]; exact h2⟩
  · intro k hk
    obtain ⟨h1, rec, h2⟩ := h.lps k hk
    exact ⟨h1, rec, by rw [hold k (hne _ _ h2 (by intro z e; cases e))]; exact h2⟩

theorem Rel.more (h : Rel P G st w) (ds ls : List Nat) (hd : ∀ r ∈ ds, ¬ G.w0.kp r ∧ w.heap[r]? = some (.deferred (some []))) (hl : ∀ r ∈ ls, ¬ G.w0.kp r ∧ ∃ rec, w.heap[r]? = some (.loop rec)) :
    G.le { G with dfr := ds ++ G.dfr, lps := ls ++ G.lps } ∧ Rel P { G with dfr := ds ++ G.dfr, lps := ls ++ G.lps } st w := by
  have hle : G.le { G with dfr := ds ++ G.dfr, lps := ls ++ G.lps } := ⟨rfl, Nat.le_refl _, fun _ _ => rfl, fun _ _ e => e, fun _ _ _ e => e, fun _ _ e => e, fun _ e => List.mem_append.2 (.inr e), fun _ e => List.mem_append.2 (.inr e)⟩
  refine ⟨hle, { nxeq := h.nxeq, below := h.below, dom := h.dom, adom := h.adom, inj := h.inj, fresh := h.fresh, obj := fun a o b e hb => (h.obj a o b e hb).mono hle fun _ _ => rfl, fzok := h.fzok, fzmu := h.fzmu, arr := h.arr, arrinj := h.arrinj, dfr := ?_, lps := ?_ }⟩
  · intro r hr
    rcases List.mem_append.1 hr with hr | hr
    · exact hd r hr
    · exact h.dfr r hr
  · intro r hr
    rcases List.mem_append.1 hr with hr | hr
    · exact hl r hr
    · exact h.lps r hr
end

section
variable {P : Program} {N : Nat}

theorem wops_sound {ops : Array Oper} : ∀ (l : List GOp) (i : Nat), (ops.toList.drop i).mapM (compOper P N ops) = some l → ∀ fr st K, wops P l fr st K →
    ∃ fr' st', K fr' st' ∧ ∀ ro G D a w n (Q : Exit → Act → World → Prop), Ready P N ro G D fr st a w → (∀ a' w' G', G.le G' → Ready P N ro G' D fr' st' a' w' → Q .normal a' w') →
      wpOpsIn (wideAt ro) n P ops Q (List.range' i (ops.size - i)) a w
  | [], i, h, fr, st, K, hk => by
    have hd : ops.toList.drop i = [] := by
      cases hd : ops.toList.drop i with
      | nil => rfl
      | cons o r => rw [hd] at h; simp only [List.mapM_cons, Option.bind_eq_bind, Option.bind_eq_some_iff, Option.pure_def, Option.some.injEq] at h; obtain ⟨_, _, _, _, e⟩ := h; cases e
    have hs : ops.size - i = 0 := by have := congrArg List.length hd; simpa using this
    refine ⟨fr, st, hk, fun ro G D a w n Q hr hq => ?_⟩
    rw [hs]; exact hq a w G (.refl _) hr
  | g :: l, i, h, fr, st, K, hk => by
    cases hd : ops.toList.drop i with
    | nil => rw [hd] at h; simp at h
    | cons o r =>
      rw [hd] at h
      simp only [List.mapM_cons, Option.bind_eq_bind, Option.bind_eq_some_iff, Option.pure_def, Option.some.injEq] at h
      obtain ⟨g', h1, l', h2, e⟩ := h
      simp only [List.cons.injEq] at e; obtain ⟨rfl, rfl⟩ := e
      have hlt : i < ops.size := by
        have := congrArg List.length hd; simp at this; omega
      have ho : ops[i]? = some o := by
        have := congrArg (·[0]?) hd
        simpa [List.getElem?_drop] using this
      have hdr : ops.toList.drop (i + 1) = r := by
        have := congrArg (List.drop 1) hd
        simpa [List.drop_drop] using this
      have hrange : List.range' i (ops.size - i) = i :: List.range' (i + 1) (ops.size - (i + 1)) := by
        rw [show ops.size - i = (ops.size - (i + 1)) + 1 from by omega, List.range'_succ]
      have ih := wops_sound l' (i + 1) (by rw [hdr]; exact h2)
      have hgd : g'.guard = match o.guard with | none => none | some (j, want) => ((ops[j]?).bind (·.dst)).map fun d => (d, want) := by
        unfold compOper at h1
        split at h1
        · split at h1
          · cases ho : o.guard with
            | none => rw [ho] at h1; simp at h1; rw [← h1]
            | some jw =>
              obtain ⟨j, want⟩ := jw
              rw [ho] at h1
              simp only at h1
              split at h1
              · rename_i d hd; cases h1; simp [hd]
              · cases h1
          · cases h1
        · cases h1
      have hdst : g'.dst = o.dst ∧ dstOK N o.dst = true := by
        unfold compOper at h1
        split at h1
        · rename_i hd
          split at h1
          · split at h1
            · cases h1; exact ⟨rfl, hd⟩
            · split at h1
              · cases h1; exact ⟨rfl, hd⟩
              · cases h1
          · cases h1
        · cases h1
      -- it runs
      have runs : wop P g'.op fr st (fun x st' => wops P l' (updo fr g'.dst x) st' K) → (∀ a : Act, ∀ G, FrRel G N fr a.tmps → Region.wanted o (yielded ops a.tmps) = true) →
          ∃ fr' st', K fr' st' ∧ ∀ ro G D a w n (Q : Exit → Act → World → Prop), Ready P N ro G D fr st a w → (∀ a' w' G', G.le G' → Ready P N ro G' D fr' st' a' w' → Q .normal a' w') →
            wpOpsIn (wideAt ro) n P ops Q (List.range' i (ops.size - i)) a w := by
        intro hw hwant
        obtain ⟨x, st1, hk1, hs1⟩ := wop_sound h1 hw
        obtain ⟨fr', st', hK, hs2⟩ := ih _ _ _ hk1
        refine ⟨fr', st', hK, fun ro G D a w n Q hr hq => ?_⟩
        rw [hrange]
        simp only [wpOpsIn, ho, hwant a G hr.2.2.1, if_true]
        exact hs1 ro G D a w n _ Q hr fun a' w' G' hle hr' => hs2 ro G' D a' w' n Q hr' fun a2 w2 G2 hle2 hr2 => hq a2 w2 G2 (hle.trans hle2) hr2
      have skips : wops P l' (updo fr g'.dst (.tup [])) st K → (∀ a : Act, ∀ G, FrRel G N fr a.tmps → Region.wanted o (yielded ops a.tmps) = false) →
          ∃ fr' st', K fr' st' ∧ ∀ ro G D a w n (Q : Exit → Act → World → Prop), Ready P N ro G D fr st a w → (∀ a' w' G', G.le G' → Ready P N ro G' D fr' st' a' w' → Q .normal a' w') →
            wpOpsIn (wideAt ro) n P ops Q (List.range' i (ops.size - i)) a w := by
        intro hw hwant
        obtain ⟨fr', st', hK, hs2⟩ := ih _ _ _ hw
        refine ⟨fr', st', hK, fun ro G D a w n Q hr hq => ?_⟩
        rw [hrange]
        simp only [wpOpsIn, ho, hwant a G hr.2.2.1, Bool.false_eq_true, if_false]
        refine ⟨fun _ _ => trivial, ?_⟩
        refine hs2 ro G D _ w n Q ?_ hq
        rw [hdst.1]
        exact hr.next (.refl _) hr.2.1 (hr.2.2.1.put hdst.2 (by simp [VRel, VRels, undef])) (by rw [put_defers]; exact hr.2.2.2.2)
      simp only [wops] at hk
      split at hk
      · rename_i hg
        refine runs hk fun a G hF => ?_
        rw [hg] at hgd
        unfold Region.wanted
        split at hgd
        · rename_i e; rw [e]
        · rename_i j want e; rw [e]; cases hj : (ops[j]?).bind (·.dst) with
          | none => unfold compOper at h1; split at h1 <;> (try split at h1) <;> (try simp [e, hj] at h1)
          | some d => rw [hj] at hgd; simp at hgd
      · rename_i d want hg
        have hguard : ∃ j, o.guard = some (j, want) ∧ (ops[j]?).bind (·.dst) = some d := by
          rw [hg] at hgd
          split at hgd
          · cases hgd
          · rename_i j want' e
            rw [eq_comm, Option.map_eq_some_iff] at hgd
            obtain ⟨d', e1, e2⟩ := hgd
            simp only [Prod.mk.injEq] at e2; obtain ⟨rfl, rfl⟩ := e2
            exact ⟨j, e, e1⟩
        obtain ⟨j, hj1, hj2⟩ := hguard
        have hy : ∀ (b : Bool), fr d = .v (.bool b) → ∀ a : Act, ∀ G, FrRel G N fr a.tmps → Region.wanted o (yielded ops a.tmps) = (b == want) := by
          intro b hb a G hF
          have hv := hF.2 d
          rw [hb] at hv; simp only [VRel] at hv
          have ht : a.tmps[d]? = some (.bool b) := by
            rw [Array.getD_eq_getD_getElem?] at hv
            cases he : a.tmps[d]? with
            | none => rw [he] at hv; simp [undef] at hv
            | some y => rw [he] at hv; simpa using hv
          simp [Region.wanted, hj1, yielded, hj2, ht]
        split at hk
        · rename_i b hb
          split at hk
          · rename_i hbw; exact runs hk fun a G hF => by rw [hy b hb a G hF, hbw]; simp
          · rename_i hbw; exact skips hk fun a G hF => by rw [hy b hb a G hF]; simpa using hbw
        · rename_i hb
          refine skips hk fun a G hF => ?_
          have hv := hF.2 d
          rw [hb] at hv; simp only [VRel, VRels] at hv
          obtain ⟨ys, e1, e2⟩ := hv
          have hu : a.tmps.getD d undef = undef := by rw [e1]; unfold undef; congr; exact Array.toList_eq_nil_iff.1 e2
          have hall : ∀ b, ((ops[j]?).bind (·.dst)).bind (a.tmps[·]?) ≠ some (.bool b) := fun b e => by
            rw [hj2] at e
            simp only [Option.bind_some] at e
            rw [Array.getD_eq_getD_getElem?, e] at hu
            simp [undef] at hu
          have hyl : yielded ops a.tmps j = none := by
            unfold yielded
            split
            · rename_i b hb; exact absurd hb (hall b)
            · rfl
          unfold Region.wanted
          rw [hj1]
          simp only [hyl]
          cases want <;> rfl
        · exact hk.elim

theorem post_trans {G G' : Gh} {D : List Nat} {x : Jmp} {fr : Nat → AV} {st : St} {e : Exit} {a : Act} {w : World} (hle : G.le G') (h : Post P N G' D x fr st e a w) : Post P N G D x fr st e a w :=
  let ⟨h1, G2, h2, h3⟩ := h; ⟨h1, G2, hle.trans h2, h3⟩

theorem post_ready {ro : Option Nat} {G : Gh} {D : List Nat} {fr fr' : Nat → AV} {st st' : St} {e : Exit} {a a' : Act} {w w' : World} {x : Jmp} (hr : Ready P N ro G D fr st a w) (h : Post P N G D x fr' st' e a' w') :
    e = x.toExit ∧ ∃ G', G.le G' ∧ Ready P N ro G' D fr' st' a' w' :=
  let ⟨h1, G2, h2, h3, h4, h5⟩ := h; ⟨h1, G2, h2, hr.next h2 h3 h4 h5⟩

theorem ready_post {ro : Option Nat} {G : Gh} {D : List Nat} {fr : Nat → AV} {st : St} {a : Act} {w : World} {x : Jmp} (hr : Ready P N ro G D fr st a w) : Post P N G D x fr st x.toExit a w :=
  ⟨rfl, G, .refl _, hr.2.1, hr.2.2.1, hr.2.2.2.2⟩

theorem wpIn_scope {F : Fence} {n : Nat} {Q : Exit → Act → World → Prop} {a : Act} {w : World} {c : Code} (h : c.wpIn F n P Q a w) (hQ : ∀ l a w, ¬ Q (.goto l) a w) : (Code.scope c).wpIn F n P Q a w := by
  intro b k cs hro hb hr
  have h0 : (lone (b.atR a (.code (.scope c) :: k)) cs w).fenced P F := fenced_calm hb hr rfl
  have s0 : step P (lone (b.atR a (.code (.scope c) :: k)) cs w) = .next (lone (b.atR a (.code c :: .inScope c :: k)) cs w) := step_lone_go (by simp [stepG, stepG.exec, Frame.atR])
  have s1 : ∀ (a : Act) (w : World), step P (lone (b.atR a (.inScope c :: k)) cs w) = .next (lone (b.atR a k) cs w) := fun a w => step_lone_go (by simp [stepG, stepG.exec, Frame.atR])
  obtain ⟨e, a₁, w₁, hq, harr⟩ := h b (.inScope c :: k) cs hro hb hr
  cases e with
  | normal => exact ⟨.normal, a₁, w₁, hq, .head h0 s0 (StepsIn.trans harr (.one (fenced_calm hb hr rfl) (s1 a₁ w₁)))⟩
  | exit id =>
    have hx : exitTo id (.inScope c :: k) = exitTo id k := by simp [exitTo]
    exact ⟨_, a₁, w₁, hq, fun k' hk => .head h0 s0 (harr.1 k' (by rw [hx]; exact hk)), fun hr' hk => let ⟨k₁, h1, h2⟩ := harr.2 hr' (by rw [hx]; exact hk); ⟨k₁, h1, .head h0 s0 h2⟩⟩
  | goto l => exact absurd hq (hQ _ _ _)
  | ret => exact ⟨_, a₁, w₁, hq, .of_steps (.one h0 s0) harr⟩
  | panic ch => exact ⟨_, a₁, w₁, hq, .of_steps (.one h0 s0) harr⟩
  | outgrown => exact ⟨_, a₁, w₁, hq, .of_steps (.one h0 s0) harr⟩

theorem loop_obj_new {G : Gh} {st : St} {w : World} (hR : Rel P G st w) {fr : Nat → AV} {tmps : Array Value} (hF : FrRel G N fr tmps) {ps : Array Nat} (asg body : Code) (h3 : ps.toList.all (· < N) = true) (fn d : Nat) :
    ∃ G', G.le G' ∧ Rel P G' (st.alloc (.loop .ready none fr N ps.toList asg body)) (w.alloc (.loop { state := .ready, pending := none, fn, tmps, params := ps, assign := asg, body, defers := d })) ∧ G'.mu st.next = some w.heap.size ∧ G'.dfr = G.dfr ∧ w.heap.size ∈ G'.lps := by
  obtain ⟨G1, k1, k2, k3, k4, k5⟩ := hR.alloc_obj (.loop .ready none fr N ps.toList asg body) (.loop { state := .ready, pending := none, fn, tmps, params := ps, assign := asg, body, defers := d }) (by intro l s e; cases e)
    (fun G' hle hmu => ⟨_, _, hmu, World.alloc_heap_new _ _, rfl, rfl, rfl, rfl, rfl, hF.mono hle, h3⟩)
  obtain ⟨m1, m2⟩ := k2.more [] [w.heap.size] (by simp) (by
    intro r hr; simp at hr; subst hr
    exact ⟨by rw [k1.w0]; exact hR.hsize, _, World.alloc_heap_new _ _⟩)
  exact ⟨_, k1.trans m1, m2, k3, k4, by simp⟩

theorem wc_sound : ∀ (c : Code) (cc : CC), comp P N c = some cc → ∀ fr st Q, wc P N cc fr st Q → WCs P N c fr st Q
  | .skip, cc, hc, fr, st, Q, h => by
    simp only [comp, Option.some.injEq] at hc; subst hc
    exact ⟨.normal, fr, st, h, fun ro G D a w n hr => wpIn_skip (ready_post hr)⟩
  | .label l, cc, hc, fr, st, Q, h => by
    simp only [comp, Option.some.injEq] at hc; subst hc
    exact ⟨.normal, fr, st, h, fun ro G D a w n hr => wpIn_label (ready_post hr)⟩
  | .exit id, cc, hc, fr, st, Q, h => by
    simp only [comp, Option.some.injEq] at hc; subst hc
    exact ⟨.exit id, fr, st, h, fun ro G D a w n hr => wpIn_exit (ready_post (x := .exit id) hr)⟩
  | .ret, cc, hc, fr, st, Q, h => by
    simp only [comp, Option.some.injEq] at hc; subst hc
    exact ⟨.ret, fr, st, h, fun ro G D a w n hr => wpIn_ret (ready_post (x := .ret) hr)⟩
  | .goto l, cc, hc, fr, st, Q, h => by simp [comp] at hc
  | .refuse l, cc, hc, fr, st, Q, h => by simp [comp] at hc
  | .region id ops draw, cc, hc, fr, st, Q, h => by
    simp only [comp] at hc
    split at hc
    · rename_i l hl
      cases draw with
      | true =>
        simp only [if_true] at hc
        split at hc
        · rename_i hok
          simp only [Option.some.injEq] at hc; subst hc
          simp only [Bool.and_eq_true] at hok
          obtain ⟨fr', st', hK, hs⟩ := wdraw_sound hl hok.2 h
          refine ⟨.normal, fr', st', hK, fun ro G D a w n hr => wpIn_region_any hok.1 ?_⟩
          exact hs ro G D a _ n (Post P N G D .normal fr' st') ⟨hr.1, hr.2.1.drewN 1, hr.2.2⟩ fun a' w' G' hle hr' => post_trans hle (ready_post hr')
        · cases hc
      | false =>
        simp at hc; subst hc
        obtain ⟨fr', st', hK, hs⟩ := wops_sound (ops := ops) l 0 (by simpa using hl) fr st _ h
        refine ⟨.normal, fr', st', hK, fun ro G D a w n hr => wpIn_region ?_⟩
        have := hs ro G D a w n (Post P N G D .normal fr' st') hr fun a' w' G' hle hr' => post_trans hle (ready_post hr')
        rwa [Nat.sub_zero, ← List.range_eq_range'] at this
    · cases hc
  | .seq x y, cc, hc, fr, st, Q, h => by
    simp only [comp] at hc
    split at hc
    · rename_i cx cy hx hy; cases hc
      obtain ⟨j, fr1, st1, hq, hs1⟩ := wc_sound x cx hx fr st _ h
      by_cases hj : j = .normal
      · subst hj
        simp only [if_true] at hq
        obtain ⟨j2, fr2, st2, hq2, hs2⟩ := wc_sound y cy hy fr1 st1 _ hq
        refine ⟨j2, fr2, st2, hq2, fun ro G D a w n hr => wpIn_seq (wpIn_mono (hs1 ro G D a w n hr) ?_)⟩
        intro e a' w' hp
        obtain ⟨rfl, G', hle, hr'⟩ := post_ready hr hp
        exact wpIn_mono (hs2 ro G' D a' w' n hr') fun e a w hp => post_trans hle hp
      · rw [if_neg hj] at hq
        refine ⟨j, fr1, st1, hq, fun ro G D a w n hr => wpIn_seq (wpIn_mono (hs1 ro G D a w n hr) ?_)⟩
        intro e a' w' hp
        obtain ⟨rfl, _⟩ := _root_.id hp
        cases j with
        | normal => exact absurd rfl hj
        | ret => exact hp
        | exit id => exact hp
    · cases hc
  | .cond c x y, cc, hc, fr, st, Q, h => by
    simp only [comp] at hc
    split at hc
    · rename_i cc' cx cy h1 hx hy; cases hc
      simp only [wc] at h
      split at h
      · rename_i hb
        obtain ⟨j, fr1, st1, hq, hs1⟩ := wc_sound x cx hx fr st _ h
        refine ⟨j, fr1, st1, hq, fun ro G D a w n hr => wpIn_cond_true ?_ (hs1 ro G D a w n hr)⟩
        have := opd_rel (a := a) h1 hr.2.2.1; rw [hb] at this; simpa [VRel] using this
      · rename_i hb
        obtain ⟨j, fr1, st1, hq, hs1⟩ := wc_sound y cy hy fr st _ h
        refine ⟨j, fr1, st1, hq, fun ro G D a w n hr => wpIn_cond_false ?_ (hs1 ro G D a w n hr)⟩
        have := opd_rel (a := a) h1 hr.2.2.1; rw [hb] at this; simpa [VRel] using this
      · exact h.elim
    · cases hc
  | .block id c, cc, hc, fr, st, Q, h => by
    simp only [comp, Option.map_eq_some_iff] at hc; obtain ⟨c', h1, rfl⟩ := hc
    obtain ⟨j, fr1, st1, hq, hs1⟩ := wc_sound c c' h1 fr st _ h
    by_cases hj : j = .exit id
    · rw [if_pos hj] at hq
      refine ⟨.normal, fr1, st1, hq, fun ro G D a w n hr => wpIn_block (wpIn_mono (hs1 ro G D a w n hr) ?_)⟩
      intro e a' w' hp
      obtain ⟨he, G', hp⟩ := hp
      subst hj; subst he
      simp only [Jmp.toExit, Exit.inBlock, if_true]
      exact ⟨rfl, G', hp⟩
    · rw [if_neg hj] at hq
      refine ⟨j, fr1, st1, hq, fun ro G D a w n hr => wpIn_block (wpIn_mono (hs1 ro G D a w n hr) ?_)⟩
      intro e a' w' hp
      obtain ⟨rfl, _⟩ := _root_.id hp
      cases j with
      | normal => exact hp
      | ret => exact hp
      | exit id' =>
        simp only [Jmp.toExit, Exit.inBlock]
        rw [if_neg (fun e => hj (by rw [e]))]
        exact hp
  | .scope c, cc, hc, fr, st, Q, h => by
    simp only [comp] at hc
    obtain ⟨j, fr1, st1, hq, hs1⟩ := wc_sound c cc hc fr st _ h
    refine ⟨j, fr1, st1, hq, fun ro G D a w n hr => wpIn_scope (hs1 ro G D a w n hr) ?_⟩
    rintro l a' w' ⟨e, _⟩
    cases j <;> cases e
  | .loop c, cc, hc, fr, st, Q, h => by
    simp only [comp, Option.map_eq_some_iff] at hc; obtain ⟨c', h1, rfl⟩ := hc
    simp only [wc] at h
    have key := h (fun fr st => ∃ m x fr' st', Q x fr' st' ∧ ∀ ro G0 G D a w n, G0.le G → Ready P N ro G D fr st a w → Code.roundsIn (wideAt ro) n P c (Post P N G0 D x fr' st') m a w) ?_
    · obtain ⟨m, x, fr', st', hq, hs⟩ := key
      exact ⟨x, fr', st', hq, fun ro G D a w n hr => wpIn_loop_rounds m (hs ro G G D a w n (.refl _) hr)⟩
    · intro fr st hw
      obtain ⟨j, fr1, st1, hq, hs1⟩ := wc_sound c c' h1 fr st _ hw
      by_cases hj : j = .normal
      · subst hj
        simp only [if_true] at hq
        obtain ⟨m, x, fr', st', hq', hs⟩ := hq
        refine ⟨m + 1, x, fr', st', hq', fun ro G0 G D a w n hle hr => ?_⟩
        rw [roundsIn_succ]
        refine wpIn_mono (hs1 ro G D a w n hr) ?_
        intro e a' w' hp
        obtain ⟨rfl, G', hle', hr'⟩ := post_ready hr hp
        exact hs ro G0 G' D a' w' n (hle.trans hle') hr'
      · rw [if_neg hj] at hq
        refine ⟨1, j, fr1, st1, hq, fun ro G0 G D a w n hle hr => ?_⟩
        rw [roundsIn_succ]
        refine wpIn_mono (hs1 ro G D a w n hr) ?_
        intro e a' w' hp
        obtain ⟨rfl, _⟩ := _root_.id hp
        cases j with
        | normal => exact absurd rfl hj
        | ret => exact post_trans hle hp
        | exit id => exact post_trans hle hp
  | .rangeFunc f ps asg body, cc, hc, fr, st, Q, h => by
    simp only [comp] at hc
    split at hc
    · rename_i f' ca cb hf ha hb
      split at hc
      · rename_i hps; cases hc
        simp only [wc] at h
        split at h
        · rename_i g first cap hfv
          obtain ⟨r, st2, ⟨s, pend, fr1, N1, ps1, a1, b1, hget, hbusy, hq⟩, hcf, hcs⟩ := h
          refine ⟨_, fr, _, hq, fun ro G D a w n hr => wpIn_rangeFunc ?_⟩
          intro fn _
          have hv := opd_rel (a := a) hf hr.2.2.1
          rw [hfv] at hv; simp only [VRel] at hv
          obtain ⟨fa, capv, hev, rfirst, rcap⟩ := hv
          -- the record is laid
          have lay : ∃ (l : Nat) (mark : List Deferred) (w1 : World) (G1 : Gh), (Instr.enterLoop fn a.tmps ps asg body (wideAt ro).round).run P w = .ok (l, mark) w1 ∧ G.le G1 ∧ Rel P G1 (st.alloc (.loop .ready none fr N ps.toList asg body)) w1 ∧
              G1.mu st.next = some l ∧ DfrOK G1 D (mark ++ a.defers) := by
            cases ro with
            | none =>
              obtain ⟨rs, d1, d2, d3⟩ := hr.2.2.2.2
              have hR1 := hr.2.1.alloc_world (.deferred (some []))
              obtain ⟨m1, m2⟩ := hR1.more [w.heap.size] [] (by
                intro x hx; simp at hx; subst hx
                exact ⟨hr.2.1.hsize, World.alloc_heap_new _ _⟩) (by simp)
              obtain ⟨G', k1, k2, k3, k4, k5⟩ := loop_obj_new m2 (hr.2.2.1.mono m1) asg body hps fn w.heap.size
              refine ⟨_, _, _, G', run_enterLoop_outer _ _ _ _ _, m1.trans k1, k2, by rw [k3]; simp, w.heap.size :: rs, ?_, ?_, by rw [d3]; rfl⟩
              · refine List.nodup_cons.2 ⟨fun hm => ?_, d1⟩
                have := (Array.getElem?_eq_some_iff.1 (hr.2.1.dfr _ (d2 _ hm).1).2).1; omega
              · intro x hx
                rcases List.mem_cons.1 hx with rfl | hx
                · refine ⟨by rw [k4]; simp, fun hD => ?_⟩
                  have := (Array.getElem?_eq_some_iff.1 (hr.2.1.dfr _ (hr.2.2.2.1 _ hD)).2).1; omega
                · exact ⟨by rw [k4]; exact List.mem_append.2 (.inr (d2 x hx).1), (d2 x hx).2⟩
            | some b =>
              obtain ⟨_, rec, hrec⟩ := hr.2.1.lps b (hr.1 b rfl)
              obtain ⟨G', k1, k2, k3, k4, k5⟩ := loop_obj_new hr.2.1 hr.2.2.1 asg body hps fn rec.defers
              exact ⟨_, _, _, G', run_enterLoop_inner hrec _ _ _ _ _, k1, k2, k3, by simpa using hr.2.2.2.2.mono k1⟩
          obtain ⟨l, mark, w1, G1, e1, hle1, hR1, hmu1, hd1⟩ := lay
          refine ⟨l, mark, w1, { target := .fn (.func g) capv, args := fa ++ #[.func (.yield l) #[] #[]] }, w1, g, fa ++ #[.func (.yield l) #[] #[]] ++ capv, w1, e1, ?_, fun _ _ => trivial, ?_, fun hdep => by simp [wideAt, Fence.wide] at hdep, ?_⟩
          · simp only [resolve, hev, Deferred.ofValue]
            simp [Act.eval]
          · simp only [invoke, hcf]
          · rw [callsIn_at]
            refine (hcs G1 w1 _ (n - 1) hR1 ?_).mono ?_
            · have hy : VRels G1 [AV.yld st.next] [Value.func (.yield l) #[] #[]] := by simp [VRels, VRel, hmu1]
              simpa using ((rfirst.mono hle1).append hy).append (rcap.mono hle1)
            · rintro e w' ⟨v, G', rfl, k1, k2, k3, k4⟩
              have hob := k3.obj _ _ _ hget (k1.mu _ _ hmu1)
              obtain ⟨b', rec, q1, q2, q3, q4, q5, q6, q7, q8, q9⟩ := hob
              have hmu' := k1.mu _ _ hmu1
              rw [hmu'] at q1; cases q1
              refine ⟨pend.map Jmp.code, _, by rw [← q4]; exact run_endLoop q2 (by rw [q3]; exact hbusy), ?_⟩
              have hR2 : Rel P G' (st2.set st.next (.loop .exhausted pend fr1 N1 ps1 a1 b1)) (w'.putObj l (.loop { rec with state := .exhausted })) :=
                k3.put_obj _ _ hmu' (by intro l s e; cases e) ⟨l, _, hmu', World.putObj_heap_same (Array.getElem?_eq_some_iff.1 q2).1, rfl, q4, q5, q6, q7, q8, q9⟩ (fun rec e => ⟨_, rfl⟩) (fun d e => by rw [q2] at e; cases e)
              have hp : ∀ x : Jmp, Post P N G D x fr (st2.set st.next (.loop .exhausted pend fr1 N1 ps1 a1 b1)) x.toExit { a with defers := mark ++ a.defers } (w'.putObj l (.loop { rec with state := .exhausted })) := fun x =>
                ⟨rfl, G', hle1.trans k1, hR2, (hr.2.2.1.mono hle1).mono k1, hd1.mono k1⟩
              cases pend with
              | none => exact hp .normal
              | some j =>
                cases j with
                | normal => exact wpIn_skip (hp .normal)
                | ret => exact wpIn_ret (hp .ret)
                | exit id => exact wpIn_exit (hp (.exit id))
        · exact h.elim
      · cases hc
    · cases hc
end
end Go.EF
