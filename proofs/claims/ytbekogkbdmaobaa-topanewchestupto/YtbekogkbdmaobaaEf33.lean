/- Resolved code that is run: a function that the kernel reckons, sound for the meaning. No conditions. -/
import Derived.Test.YtbekogkbdmaobaaEf32
namespace Go.EF
open Go Go.RowKit

section
variable {P : Program}

/-- The contract of a round, whatever the record is written over with. -/
theorem wy_intro2 {l N : Nat} {fr : Nat → AV} {ps : List Nat} {ca cb : Code} {asg body : CC} {pend : Option Jmp} {args : List AV} {st : St} {K : AV → St → Prop} (hl : st.get l = some (.loop .ready pend fr N ps ca cb)) (hca : comp P N ca = some asg) (hcb : comp P N cb = some body) (ha : args.length = ps.length)
    (h : wc P N asg (updz fr ps args) st fun x fr1 st1 => x = .normal ∧ ∃ q1 f1 N1 p1 a1 b1, st1.get l = some (.loop .ready q1 f1 N1 p1 a1 b1) ∧
      wc P N body fr1 (st1.set l (.loop .busy q1 f1 N1 p1 a1 b1)) fun y _ st2 => ∃ q2 f2 N2 p2 a2 b2, st2.get l = some (.loop .busy q2 f2 N2 p2 a2 b2) ∧
        if y = .normal then K (.bool true) (st2.set l (.loop .ready none f2 N2 p2 a2 b2)) else K (.bool false) (st2.set l (.loop .done (some y) f2 N2 p2 a2 b2))) : WY P l args st K := by
  obtain ⟨x, fr1, st1, ⟨rfl, q1, f1, N1, z1, a1, b1, hl1, hw2⟩, hs1⟩ := wc_sound ca asg hca _ _ _ h
  obtain ⟨y, fr2, st2, ⟨q2, f2, N2, z2, a2, b2, hl2, hK⟩, hs2⟩ := wc_sound cb body hcb _ _ _ hw2
  -- what comes of it
  obtain ⟨r, st3, hK3, hr3⟩ : ∃ r st3, K r st3 ∧ (r = .bool (decide (y = .normal)) ∧ st3 = st2.set l (.loop (if y = .normal then .ready else .done) (if y = .normal then none else some y) f2 N2 z2 a2 b2)) := by
    by_cases hy : y = .normal
    · rw [if_pos hy] at hK; exact ⟨_, _, hK, by simp [hy], by simp [hy]⟩
    · rw [if_neg hy] at hK; exact ⟨_, _, hK, by simp [hy], by simp [hy]⟩
  obtain ⟨rfl, rfl⟩ := hr3
  refine ⟨_, _, hK3, fun G w vargs n b hR hv hmu => ?_⟩
  obtain ⟨b', rec, q1, q2, q3, q4, q5, q6, q7, q8, q9⟩ := hR.obj _ _ _ hl hmu
  rw [hmu] at q1; cases q1
  have hvl := hv.length
  refine ⟨rec.fn, _, rec.assign, rec.body, run_yield q2 (by have := congrArg List.length q5; simp at this hvl; omega), ?_⟩
  obtain ⟨m1, m2⟩ := hR.more [] [b] (by simp) (by intro r hr; simp at hr; subst hr; exact ⟨(hR.fresh _ _ hmu).1, rec, q2⟩)
  have hin : b ∈ ({ G with dfr := [] ++ G.dfr, lps := [b] ++ G.lps } : Gh).lps := by simp
  refine RoundIn.mono (R := fun e w' => ∃ v G', e = .returned v ∧ G.le G' ∧ G'.dfr = G.dfr ∧ Rel P G' (st2.set l (.loop (if y = .normal then .ready else .done) (if y = .normal then none else some y) f2 N2 z2 a2 b2)) w' ∧ VRel G' (.bool (decide (y = .normal))) v) ?_ (fun _ _ h => h)
  refine roundIn_of_wpIn (F := Fence.wide) trivial ?_
  have hF1 : FrRel ({ G with dfr := [] ++ G.dfr, lps := [b] ++ G.lps } : Gh) N (updz fr ps args) ((rec.params.zip vargs).foldl (fun tmps (t, a) => tmps.setIfInBounds t a) rec.tmps) := by
    have := updz_rel ps args vargs.toList fr rec.tmps (q8.mono m1) (hv.mono m1) q9
    rw [← Array.foldl_toList, Array.toList_zip, q5]
    exact this
  rw [q6]
  have hready : Ready P N (some b) ({ G with dfr := [] ++ G.dfr, lps := [b] ++ G.lps } : Gh) [] (updz fr ps args) st { tmps := (rec.params.zip vargs).foldl (fun tmps (t, a) => tmps.setIfInBounds t a) rec.tmps, defers := [] } w :=
    ⟨fun b' e => by cases e; exact hin, m2, hF1, by simp, [], List.nodup_nil, by simp, rfl⟩
  refine wpIn_mono (hs1 (some b) _ [] _ w n hready) ?_
  intro e a1' w1 hp
  obtain ⟨rfl, G1, hle1, hr1⟩ := post_ready hready hp
  simp only [Jmp.toExit, Exit.then]
  obtain ⟨b1', rec1, p1, p2, p3, p4, p5, p6, p7, p8, p9⟩ := hr1.2.1.obj _ _ _ hl1 (hle1.mu _ _ (m1.mu _ _ hmu))
  have hmu1 := hle1.mu _ _ (m1.mu _ _ hmu)
  rw [hmu1] at p1; cases p1
  refine ⟨_, run_beginRound p2 p3, ?_⟩
  have hRb : Rel P G1 (st1.set l (.loop .busy _ f1 N1 z1 a1 b1)) (w1.putObj b (.loop { rec1 with state := .busy })) :=
    hr1.2.1.put_obj _ _ hmu1 (by intro l s e; cases e) ⟨b, _, hmu1, World.putObj_heap_same (Array.getElem?_eq_some_iff.1 p2).1, rfl, p4, p5, p6, p7, p8, p9⟩ (fun rec e => ⟨_, rfl⟩) (fun d e => by rw [p2] at e; cases e)
  have hready2 : Ready P N (some b) G1 [] fr1 (st1.set l (.loop .busy _ f1 N1 z1 a1 b1)) a1' (w1.putObj b (.loop { rec1 with state := .busy })) := ⟨hr1.1, hRb, hr1.2.2⟩
  rw [q7]
  refine wpIn_mono (hs2 (some b) G1 [] a1' _ n hready2) ?_
  intro e a2' w2 hp2
  obtain ⟨rfl, G2, hle2, hr2⟩ := post_ready hready2 hp2
  obtain ⟨b2', rec2, u1, u2, u3, u4, u5, u6, u7, u8, u9⟩ := hr2.2.1.obj _ _ _ hl2 (hle2.mu _ _ hmu1)
  have hmu2 := hle2.mu _ _ hmu1
  rw [hmu2] at u1; cases u1
  have hle3 : G.le { G2 with dfr := G.dfr } := by
    have := (m1.trans hle1).trans hle2
    exact ⟨this.w0, this.nx, this.old, this.mu, this.fz, this.arr, fun _ e => e, this.lps⟩
  have fin : ∀ (s : LoopState) (pj : Option Jmp), Rel P { G2 with dfr := G.dfr } (st2.set l (.loop s pj f2 N2 z2 a2 b2)) (w2.putObj b (.loop { rec2 with state := s, pending := pj.map Jmp.code })) := fun s pj =>
    (hr2.2.1.put_obj (.loop s pj f2 N2 z2 a2 b2) (.loop { rec2 with state := s, pending := pj.map Jmp.code }) hmu2 (by intro l s e; cases e) ⟨b, _, hmu2, World.putObj_heap_same (Array.getElem?_eq_some_iff.1 u2).1, rfl, rfl, u5, u6, u7, u8, u9⟩ (fun rec e => ⟨_, rfl⟩) (fun d e => by rw [u2] at e; cases e)).shrink G.dfr
      fun r hr => ((m1.trans hle1).trans hle2).dfr r hr
  cases y with
  | normal => exact ⟨_, _, run_endRound none u2, _, _, rfl, hle3, rfl, fin .ready none, by simp [VRel]⟩
  | ret => exact ⟨_, _, run_endRound (some .ret) u2, _, _, rfl, hle3, rfl, fin .done (some .ret), by simp [VRel]⟩
  | exit id => exact ⟨_, _, run_endRound (some (.exit id)) u2, _, _, rfl, hle3, rfl, fin .done (some (.exit id)), by simp [VRel]⟩
end
end Go.EF
