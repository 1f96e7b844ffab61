/- The contract of a function and of a round, out of the weakest precondition of its body. No conditions. -/
import Derived.Test.YtbekogkbdmaobaaEf12
namespace Go.EF
open Go Go.RowKit

def resV1 (P : Program) (fr : Nat → AV) (st : St) : ResultVar → Option AV
  | .tmp t => some (fr t)
  | .cell a t => match tagg P t, tsize P t with
    | some g, some s => match fr a with
      | .ptr p o => loadS st g s (.ptr p o)
      | _ => none
    | _, _ => none

def resVs (P : Program) (fr : Nat → AV) (st : St) : List ResultVar → Option (List AV)
  | [] => some []
  | r :: rs => match resV1 P fr st r, resVs P fr st rs with | some x, some xs => some (x :: xs) | _, _ => none

def resV (P : Program) (rs : List ResultVar) (fr : Nat → AV) (st : St) : Option AV :=
  match resVs P fr st rs with
  | some [x] => some x
  | some xs => some (.tup xs)
  | none => none

def frame0 (args : List AV) : Nat → AV := fun i => args.getD i .junk

section
variable {P : Program}

def resOne (tmps : Array Value) : ResultVar → Sem Value
  | .tmp t => pure (tmps.getD t undef)
  | .cell a t => do loadVar t (← asAddr (tmps.getD a undef))

theorem results_one (fn : Func) (tmps : Array Value) : results fn tmps = (do let vs ← fn.results.mapM (resOne tmps); pure (if h : vs.size = 1 then vs[0] else .tuple vs)) := by
  unfold results
  congr 2

theorem resVs_rel {G : Gh} {N : Nat} {fr : Nat → AV} {st : St} {w : World} {tmps : Array Value} (hR : Rel P G st w) (hF : FrRel G N fr tmps) : ∀ (rs : List ResultVar) (xs : List AV), resVs P fr st rs = some xs →
    ∃ ys, (rs.mapM (resOne tmps)).run P w = .ok ys w ∧ VRels G xs ys
  | [], xs, h => by simp only [resVs, Option.some.injEq] at h; subst h; exact ⟨[], by simp, by simp [VRels]⟩
  | r :: rs, xs, h => by
    simp only [resVs] at h
    split at h
    · rename_i x xs' h1 h2; cases h
      obtain ⟨ys, e1, e2⟩ := resVs_rel hR hF rs xs' h2
      have one : ∃ y, (resOne tmps r).run P w = .ok y w ∧ VRel G x y := by
        cases r with
        | tmp t => simp only [resV1, Option.some.injEq] at h1; subst h1; exact ⟨_, rfl, hF.2 t⟩
        | cell a t =>
          simp only [resV1] at h1
          split at h1
          · rename_i g s hg hs
            split at h1
            · rename_i p o hp
              have hv := hF.2 a
              rw [hp] at hv
              simp only [VRel] at hv; obtain ⟨b, hmu, hb⟩ := hv
              simp only [loadS] at h1
              split at h1
              · rename_i cs hcs
                obtain ⟨b', vs, e, q2, q3, q4⟩ := hR.obj _ _ _ hcs hmu
                rw [hmu] at q2; cases q2
                obtain ⟨y, h5, h6⟩ := getCells_block h1 q4 hg hs q3
                exact ⟨y, by simp only [resOne, hb, asAddr]; simpa using h5, h6⟩
              · rename_i cs hcs
                obtain ⟨b', vs, e, q2, q3, q5, q4⟩ := hR.obj _ _ _ hcs hmu
                rw [hmu] at q2; cases q2
                obtain ⟨y, h5, h6⟩ := getCells_pre h1 q4 hg hs q3
                exact ⟨y, by simp only [resOne, hb, asAddr]; simpa using h5, h6⟩
              · cases h1
            · cases h1
          · cases h1
      obtain ⟨y, e3, e4⟩ := one
      refine ⟨y :: ys, ?_, by simp only [VRels]; exact ⟨_, _, rfl, e4, e2⟩⟩
      rw [List.mapM_cons, Sem.run_bind, e3]
      simp only [Result.andThen_ok, Sem.run_bind]
      rw [e1]; rfl
    · cases h

theorem results_rel {G : Gh} {fr : Nat → AV} {st : St} {w : World} {fn : Func} {tmps : Array Value} {r : AV} (hR : Rel P G st w) (hF : FrRel G fn.ntmps fr tmps) (h : resV P fn.results.toList fr st = some r) :
    ∃ v, (results fn tmps).run P w = .ok v w ∧ VRel G r v := by
  unfold resV at h
  have main : ∀ xs, resVs P fr st fn.results.toList = some xs → ∃ ys : List Value, VRels G xs ys ∧ (results fn tmps).run P w = .ok (if h : ys.toArray.size = 1 then ys.toArray[0] else .tuple ys.toArray) w := by
    intro xs hx
    obtain ⟨ys, e1, e2⟩ := resVs_rel hR hF _ xs hx
    refine ⟨ys, e2, ?_⟩
    rw [results_one, Array.mapM_eq_mapM_toList, Sem.run_bind, Sem.run_map, e1]
    rfl
  split at h
  · rename_i x hx; cases h
    obtain ⟨ys, h1, h2⟩ := main _ hx
    simp only [VRels] at h1
    obtain ⟨y, ys', rfl, h3, rfl⟩ := h1
    exact ⟨y, by rw [h2]; rfl, h3⟩
  · rename_i xs hne hx; cases h
    obtain ⟨ys, h1, h2⟩ := main _ hx
    refine ⟨_, h2, ?_⟩
    have hl := h1.length
    rw [dif_neg]
    · simp only [VRel]; exact ⟨_, rfl, by simpa using h1⟩
    · intro e
      simp at e
      rw [e] at hl
      match xs, hl with
      | [x], _ => exact hne x rfl
  · cases h

/-- The blocks of deferred calls are taken: none holds a call. -/
theorem leave_marks {G : Gh} {st : St} {fn : Func} {tmps : Array Value} {n : Nat} {R : Ending → World → Prop} (hres : ∀ w, Rel P G st w → ∃ v, (results fn tmps).run P w = .ok v w ∧ R (.returned v) w) :
    ∀ (rs : List Nat) (w : World), rs.Nodup → Rel P G st w → (∀ r ∈ rs, r ∉ G.dfr ∧ ¬ G.w0.kp r ∧ w.heap[r]? = some (.deferred (some []))) →
      LeavesInM Fence.wide n P fn tmps R (rs.map fun r => { target := .collected r, args := #[] }) .returning w
  | [], w, _, hR, _ => by
    simp only [List.map_nil, LeavesInM, LeavesIn]; exact hres w hR
  | r :: rs, w, hnd, hR, h => by
    simp only [List.map_cons, LeavesInM]
    obtain ⟨h1, h2, h3⟩ := h r (List.mem_cons_self ..)
    obtain ⟨hn1, hn2⟩ := List.nodup_cons.1 hnd
    refine ⟨by simp, .inl ⟨r, _, rfl, run_takeDeferred h3, leave_marks hres rs _ hn2 (hR.put_def h3 h1 h2) fun k hk => ?_⟩⟩
    obtain ⟨g1, g2, g3⟩ := h k (List.mem_cons_of_mem _ hk)
    exact ⟨g1, g2, by rw [World.putObj_heap_other (fun e => hn1 (by rw [← e]; exact hk))]; exact g3⟩

theorem frame0_rel {G : Gh} {args : List AV} {vargs : Array Value} {N : Nat} (h : VRels G args vargs.toList) (hN : args.length ≤ N) : FrRel G N (frame0 args) (vargs ++ Array.replicate (N - vargs.size) undef) := by
  have hl := h.length
  simp at hl
  refine ⟨by simp; omega, fun i => ?_⟩
  unfold frame0
  rw [List.getD_eq_getElem?_getD, Array.getD_eq_getD_getElem?]
  cases hx : args[i]? with
  | none => simp [VRel]
  | some x =>
    obtain ⟨y, e, r⟩ := h.get i x hx
    have hi : i < vargs.size := by have := (List.getElem?_eq_some_iff.1 hx).1; omega
    rw [Array.getElem?_append_left hi]
    have e' : vargs[i]? = some y := by simpa using e
    rw [e']; exact r

theorem wf_intro {f : Nat} {fn : Func} {c : Code} {cc : CC} {args : List AV} {st : St} {K : AV → St → Prop} (hf : P.funcs[f]? = some fn) (hb : fn.body = some c) (hname : (fn.name == "runtime.NumGoroutine") = false) (hc : comp P fn.ntmps c = some cc) (hn : args.length ≤ fn.ntmps)
    (h : wc P fn.ntmps cc (frame0 args) st fun x fr' st' => (x = .normal ∨ x = .ret) ∧ ∃ r, resV P fn.results.toList fr' st' = some r ∧ K r st') : WF P f args st K := by
  obtain ⟨x, fr', st', ⟨hx, r, hr, hK⟩, hs⟩ := wc_sound c cc hc _ _ _ h
  refine ⟨r, st', hK, fun vargs w => ?_, fun G w vargs n hR hv => ?_⟩
  · have hname' : ¬ fn.name = "runtime.NumGoroutine" := by simpa using hname
    simp [callFunc, hf, hb, hname']
  · refine callsIn_of_wp_marks hf hb trivial (wpIn_mono (hs none G G.dfr { tmps := vargs ++ Array.replicate (fn.ntmps - vargs.size) undef, defers := [] } w n ⟨(fun b e => by cases e), hR, frame0_rel hv hn, fun _ e => e, [], List.nodup_nil, (fun r hr => by cases hr), rfl⟩) ?_)
    intro e a' w' hp
    obtain ⟨rfl, G', hle, hR', hF', rs, d1, d2, d3⟩ := hp
    have hR2 := hR'.shrink G.dfr (fun r hr => hle.dfr r hr)
    have hle2 : G.le { G' with dfr := G.dfr } := ⟨hle.w0, hle.nx, hle.old, hle.mu, hle.fz, hle.arr, fun _ e => e, hle.lps⟩
    have hsub : G'.sub { G' with dfr := G.dfr } := ⟨fun _ _ e => e, fun _ _ _ e => e, fun _ _ e => e⟩
    have hF2 : FrRel { G' with dfr := G.dfr } fn.ntmps fr' a'.tmps := ⟨hF'.1, fun i => VRel.mono' hsub _ _ (hF'.2 i)⟩
    have fin : LeavesInM Fence.wide n P fn a'.tmps (fun e w' => ∃ v G', e = .returned v ∧ G.le G' ∧ G'.dfr = G.dfr ∧ Rel P G' st' w' ∧ VRel G' r v) a'.defers .returning w' := by
      rw [d3]
      refine leave_marks (G := { G' with dfr := G.dfr }) (st := st') (fun w hw => ?_) rs w' d1 hR2 fun k hk => ⟨(d2 k hk).2, (hR'.dfr k (d2 k hk).1).1, (hR'.dfr k (d2 k hk).1).2⟩
      obtain ⟨v, v1, v2⟩ := results_rel hw hF2 hr
      exact ⟨v, v1, v, _, rfl, hle2, rfl, hw, v2⟩
    rcases hx with rfl | rfl
    · exact fin
    · exact fin

def updz (fr : Nat → AV) : List Nat → List AV → Nat → AV
  | p :: ps, x :: xs => updz (upd fr p x) ps xs
  | _, _ => fr

theorem updz_rel {G : Gh} {N : Nat} : ∀ (ps : List Nat) (xs : List AV) (ys : List Value) (fr : Nat → AV) (tmps : Array Value), FrRel G N fr tmps → VRels G xs ys → ps.all (· < N) = true → FrRel G N (updz fr ps xs) ((ps.zip ys).foldl (fun t (p, v) => t.setIfInBounds p v) tmps)
  | [], xs, ys, fr, tmps, hF, hv, _ => by simpa [updz] using hF
  | p :: ps, [], ys, fr, tmps, hF, hv, _ => by simp only [VRels] at hv; subst hv; simpa [updz] using hF
  | p :: ps, x :: xs, ys, fr, tmps, hF, hv, hp => by
    simp only [VRels] at hv; obtain ⟨y, ys', rfl, h1, h2⟩ := hv
    simp only [List.all_cons, Bool.and_eq_true, decide_eq_true_eq] at hp
    simp only [updz, List.zip_cons_cons, List.foldl_cons]
    refine updz_rel ps xs ys' _ _ ?_ h2 hp.2
    have := hF.put (a := { tmps, defers := [] }) (d := some p) (by simpa [dstOK] using hp.1) h1
    simpa [Act.put, updo] using this

/-- The contract of a round: the loop's variables take what is yielded; the record is busy while the body runs; how the body is left stands in the record. -/
theorem wy_intro {l N : Nat} {fr : Nat → AV} {ps : List Nat} {ca cb : Code} {asg body : CC} {pend : Option Jmp} {args : List AV} {st : St} {K : AV → St → Prop} (hl : st.get l = some (.loop .ready pend fr N ps ca cb)) (hca : comp P N ca = some asg) (hcb : comp P N cb = some body) (ha : args.length = ps.length)
    (h : wc P N asg (updz fr ps args) st fun x fr1 st1 => x = .normal ∧ st1.get l = some (.loop .ready pend fr N ps ca cb) ∧
      wc P N body fr1 (st1.set l (.loop .busy pend fr N ps ca cb)) fun y _ st2 => st2.get l = some (.loop .busy pend fr N ps ca cb) ∧
        if y = .normal then K (.bool true) (st2.set l (.loop .ready none fr N ps ca cb)) else K (.bool false) (st2.set l (.loop .done (some y) fr N ps ca cb))) : WY P l args st K := by
  obtain ⟨x, fr1, st1, ⟨rfl, hl1, hw2⟩, hs1⟩ := wc_sound ca asg hca _ _ _ h
  obtain ⟨y, fr2, st2, ⟨hl2, hK⟩, hs2⟩ := wc_sound cb body hcb _ _ _ hw2
  -- what comes of it
  obtain ⟨r, st3, hK3, hr3⟩ : ∃ r st3, K r st3 ∧ (r = .bool (decide (y = .normal)) ∧ st3 = st2.set l (.loop (if y = .normal then .ready else .done) (if y = .normal then none else some y) fr N ps ca cb)) := by
    by_cases hy : y = .normal
    · rw [if_pos hy] at hK; exact ⟨_, _, hK, by simp [hy], by simp [hy]⟩
    · rw [if_neg hy] at hK; exact ⟨_, _, hK, by simp [hy], by simp [hy]⟩
  obtain ⟨rfl, rfl⟩ := hr3
  refine ⟨_, _, hK3, fun G w vargs n b hR hv hmu => ?_⟩
  obtain ⟨b', rec, q1, q2, q3, q4, q5, q6, q7, q8, q9⟩ := hR.obj _ _ _ hl hmu
  rw [hmu] at q1; cases q1
  have hvl := hv.length
  refine ⟨rec.fn, _, rec.assign, rec.body, run_yield q2 (by have := congrArg List.length q5; simp at this hvl; omega), ?_⟩
  -- the loop is among the loops
  obtain ⟨m1, m2⟩ := hR.more [] [b] (by simp) (by intro r hr; simp at hr; subst hr; exact ⟨(hR.fresh _ _ hmu).1, rec, q2⟩)
  have hin : b ∈ ({ G with dfr := [] ++ G.dfr, lps := [b] ++ G.lps } : Gh).lps := by simp
  refine RoundIn.mono (R := fun e w' => ∃ v G', e = .returned v ∧ G.le G' ∧ G'.dfr = G.dfr ∧ Rel P G' (st2.set l (.loop (if y = .normal then .ready else .done) (if y = .normal then none else some y) fr N ps ca cb)) w' ∧ VRel G' (.bool (decide (y = .normal))) v) ?_ (fun _ _ h => h)
  refine roundIn_of_wpIn (F := Fence.wide) trivial ?_
  have hF1 : FrRel ({ G with dfr := [] ++ G.dfr, lps := [b] ++ G.lps } : Gh) N (updz fr ps args) ((rec.params.zip vargs).foldl (fun tmps (t, a) => tmps.setIfInBounds t a) rec.tmps) := by
    have := updz_rel ps args vargs.toList fr rec.tmps (q8.mono m1) (hv.mono m1) q9
    rw [← Array.foldl_toList, Array.toList_zip, q5]
    exact this
  rw [q6]
  have hready : Ready P N (some b) ({ G with dfr := [] ++ G.dfr, lps := [b] ++ G.lps } : Gh) [] (updz fr ps args) st { tmps := (rec.params.zip vargs).foldl (fun tmps (t, a) => tmps.setIfInBounds t a) rec.tmps, defers := [] } w :=
    ⟨fun b' e => by cases e; exact hin, m2, hF1, by simp, [], List.nodup_nil, by simp, rfl⟩
  refine wpIn_mono (hs1 (some b) _ [] _ w n hready) ?_
  intro e a1 w1 hp
  obtain ⟨rfl, G1, hle1, hr1⟩ := post_ready hready hp
  simp only [Jmp.toExit, Exit.then]
  obtain ⟨b1, rec1, p1, p2, p3, p4, p5, p6, p7, p8, p9⟩ := hr1.2.1.obj _ _ _ hl1 (hle1.mu _ _ (m1.mu _ _ hmu))
  have hmu1 := hle1.mu _ _ (m1.mu _ _ hmu)
  rw [hmu1] at p1; cases p1
  refine ⟨_, run_beginRound p2 p3, ?_⟩
  have hRb : Rel P G1 (st1.set l (.loop .busy pend fr N ps ca cb)) (w1.putObj b (.loop { rec1 with state := .busy })) :=
    hr1.2.1.put_obj _ _ hmu1 (by intro l s e; cases e) ⟨b, _, hmu1, World.putObj_heap_same (Array.getElem?_eq_some_iff.1 p2).1, rfl, p4, p5, p6, p7, p8, p9⟩ (fun rec e => ⟨_, rfl⟩) (fun d e => by rw [p2] at e; cases e)
  have hready2 : Ready P N (some b) G1 [] fr1 (st1.set l (.loop .busy pend fr N ps ca cb)) a1 (w1.putObj b (.loop { rec1 with state := .busy })) := ⟨hr1.1, hRb, hr1.2.2⟩
  rw [q7]
  refine wpIn_mono (hs2 (some b) G1 [] a1 _ n hready2) ?_
  intro e a2 w2 hp2
  obtain ⟨rfl, G2, hle2, hr2⟩ := post_ready hready2 hp2
  obtain ⟨b2, rec2, u1, u2, u3, u4, u5, u6, u7, u8, u9⟩ := hr2.2.1.obj _ _ _ hl2 (hle2.mu _ _ hmu1)
  have hmu2 := hle2.mu _ _ hmu1
  rw [hmu2] at u1; cases u1
  have hle3 : G.le { G2 with dfr := G.dfr } := by
    have := (m1.trans hle1).trans hle2
    exact ⟨this.w0, this.nx, this.old, this.mu, this.fz, this.arr, fun _ e => e, this.lps⟩
  have fin : ∀ (s : LoopState) (pj : Option Jmp), Rel P { G2 with dfr := G.dfr } (st2.set l (.loop s pj fr N ps ca cb)) (w2.putObj b (.loop { rec2 with state := s, pending := pj.map Jmp.code })) := fun s pj =>
    (hr2.2.1.put_obj (.loop s pj fr N ps ca cb) (.loop { rec2 with state := s, pending := pj.map Jmp.code }) hmu2 (by intro l s e; cases e) ⟨b, _, hmu2, World.putObj_heap_same (Array.getElem?_eq_some_iff.1 u2).1, rfl, rfl, u5, u6, u7, u8, u9⟩ (fun rec e => ⟨_, rfl⟩) (fun d e => by rw [u2] at e; cases e)).shrink G.dfr
      fun r hr => ((m1.trans hle1).trans hle2).dfr r hr
  cases y with
  | normal => exact ⟨_, _, run_endRound none u2, _, _, rfl, hle3, rfl, fin .ready none, by simp [VRel]⟩
  | ret => exact ⟨_, _, run_endRound (some .ret) u2, _, _, rfl, hle3, rfl, fin .done (some .ret), by simp [VRel]⟩
  | exit id => exact ⟨_, _, run_endRound (some (.exit id)) u2, _, _, rfl, hle3, rfl, fin .done (some (.exit id)), by simp [VRel]⟩
end
end Go.EF
