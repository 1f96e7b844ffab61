/- A call carried over: what it answers, by kinds of answers. No conditions. -/
import Derived.Test.YtbekogkbdmaobaaEf30
namespace Go.EF
open Go Go.RowKit

def AV.sc : AV → Bool
  | .v _ => true
  | _ => false
theorem vrels_sc {G G' : Gh} : ∀ (cs : List AV) (ys : List Value), cs.all AV.sc = true → VRels G cs ys → VRels G' cs ys
  | [], ys, _, r => by simpa [VRels] using r
  | x :: cs, ys, h, r => by
    simp only [List.all_cons, Bool.and_eq_true] at h
    simp only [VRels] at r ⊢; obtain ⟨y, ys', h1, h2, h3⟩ := r
    refine ⟨y, ys', h1, ?_, vrels_sc cs ys' h.2 h3⟩
    cases x <;> simp_all [AV.sc, VRel]

/-- The two lists that are put to. -/
abbrev hnil : List AV := [.list .exact [] 0, .list .exact [] 0]
abbrev stC : St := ⟨[.cells hnil]⟩

/-- The machine's arguments, as the call's own state sees them. -/
def ToC (P : Program) (st : St) (h : Nat) (args argsC : List AV) : Prop :=
  ∀ (G : Gh) (w : World) (vargs : List Value), Rel P G st w → VRels G args vargs → ∃ bh fz0, G.mu h = some bh ∧ (∀ b o y, G.fz b o = some y → fz0 b o = some y) ∧ (∀ b o y, fz0 b o = some y → ∃ vs t fr, w.heap[b]? = some (.cells vs t fr) ∧ vs[o]? = some y) ∧ (∀ o, fz0 bh o = none) ∧ VRels (g0 w bh fz0) argsC vargs

theorem toC_clo {P : Program} {st : St} {h xb : Nat} {xs : List AV} (hx : st.get xb = some (.cells xs)) (hf : frees xs = true) (hne : xb ≠ h) : ToC P st h [.ptr h 0, .ptr xb 0] [.ptr 0 0, .lptr xs 0] := by
  intro G w vargs hR hv
  simp only [VRels, VRel] at hv
  obtain ⟨y1, r1, rfl, ⟨bh, m1, rfl⟩, y2, r2, rfl, ⟨bx, m2, rfl⟩, rfl⟩ := hv
  obtain ⟨b', vs, t, q1, q2, q3⟩ := hR.obj xb _ _ hx m2
  rw [m2] at q1; cases q1
  have hb : bx ≠ bh := fun e => hne (hR.inj xb h bh (e ▸ m2) m1)
  have hxz : ∀ o, G.fz bx o = none := fun o => hR.fzmu xb bx o m2
  have hf1 : ∀ b o y, G.fz b o = some y → (if b = bx then vs[o]? else G.fz b o) = some y := by
    intro b o y e
    by_cases hbx : b = bx
    · subst hbx; rw [hxz] at e; cases e
    · rw [if_neg hbx]; exact e
  refine ⟨bh, fun b o => if b = bx then vs[o]? else G.fz b o, m1, hf1, ?_, ?_, ?_⟩
  · intro b o y e
    simp only at e
    split at e
    · rename_i hbx; subst hbx; exact ⟨vs, t, (0, 0), q2, e⟩
    · exact hR.fzok b o y e
  · intro o; simp only; rw [if_neg (Ne.symm hb)]; exact hR.fzmu h bh o m1
  · simp only [VRels, VRel]
    refine ⟨_, _, rfl, ⟨bh, rfl, rfl⟩, _, [], rfl, ⟨bx, 0, vs.toList, rfl, ?_, vrels_free hf1 xs _ hf q3⟩, rfl⟩
    intro i y e
    show (if bx = bx then vs[0 + i]? else _) = some y
    rw [if_pos rfl, Nat.zero_add]; simpa using e

theorem toC_all {P : Program} {st : St} {h : Nat} {x : AV} (hf : x.free = true) : ToC P st h [x, .ptr h 0] [x, .ptr 0 0] := by
  intro G w vargs hR hv
  simp only [VRels, VRel] at hv
  obtain ⟨y1, r1, rfl, hx, y2, r2, rfl, ⟨bh, m1, rfl⟩, rfl⟩ := hv
  refine ⟨bh, G.fz, m1, fun _ _ _ e => e, hR.fzok, fun o => hR.fzmu h bh o m1, ?_⟩
  simp only [VRels]
  exact ⟨_, _, rfl, vrel_free (G := G) (G' := g0 w bh G.fz) (fun _ _ _ e => e) x _ hf hx, _, [], rfl, ⟨bh, rfl, rfl⟩, rfl⟩

section
variable {P : Program} {G G1 : Gh} {st stD : St} {w w' : World} {bh : Nat} {lt : ∀ k, k < w.heap.size ∧ k ≠ bh → k < w.heap.size}

theorem arr_block (hw0 : G1.w0 = ⟨w, fun b => b < w.heap.size ∧ b ≠ bh, lt⟩) (hR1 : Rel P G1 stD w') (hm : G1.mu 0 = some bh) {t s : Nat} (hl : stD.get t = some (.arr true s)) :
    ∃ b n cap vs ty, G1.arr t = some (b, n, cap) ∧ w'.heap[b]? = some (.cells vs ty (0, 0)) ∧ cap * s ≤ vs.size ∧ n ≤ cap ∧ w.heap.size ≤ b ∧ b < w'.heap.size ∧ ∀ a', G1.mu a' ≠ some b := by
  obtain ⟨b, n, cap, vs, ty, g1, g2, g3, g4, g5, g6, g7⟩ := hR1.arr t s hl
  refine ⟨b, n, cap, vs, ty, g1, g2, g3, g4, ?_, (Array.getElem?_eq_some_iff.1 g2).1, g7⟩
  rw [hw0] at g5
  have hne : b ≠ bh := fun e => g7 0 (e ▸ hm)
  exact Nat.le_of_not_lt fun hlt => g5 ⟨hlt, hne⟩

theorem mu_block (hw0 : G1.w0 = ⟨w, fun b => b < w.heap.size ∧ b ≠ bh, lt⟩) (hR1 : Rel P G1 stD w') (hm : G1.mu 0 = some bh) {c bc : Nat} (hc : G1.mu c = some bc) (h0 : c ≠ 0) : w.heap.size ≤ bc ∧ bc < w'.heap.size := by
  obtain ⟨g1, g2⟩ := hR1.fresh c bc hc
  rw [hw0] at g1
  exact ⟨Nat.le_of_not_lt fun hlt => g1 ⟨hlt, fun e => h0 (hR1.inj c 0 bh (e ▸ hc) hm)⟩, g2⟩

/-- A list that is empty, or that lies in a row of its own. -/
def OkL (stD : St) (o : Own) (cs : List AV) : Prop := cs = [] ∨ ∃ t s, o = .tok t ∧ stD.get t = some (.arr true s)

theorem list_any {bl : List Nat} {n0 : Nat} {o : Own} {cs : List AV} {n : Nat} {y : Value} (r : VRel G1 (.list o cs n) y) (hcs : cs.all AV.sc = true) (ok : OkL stD o cs)
    (hav : ∀ t s, o = .tok t → stD.get t = some (.arr true s) → ∀ b n c, G1.arr t = some (b, n, c) → w.heap.size ≤ b ∧ bl.contains b = false) : VRel (trG G G1 w.heap.size n0 bl) (.list .any cs n) y := by
  simp only [VRel] at r ⊢
  obtain ⟨base, cap, h1, h2, h3, ys, h4, h5⟩ := r
  refine ⟨base, cap, h1, h2, trivial, ys, vrels_sc cs ys hcs h4, fun e => ?_⟩
  obtain ⟨b, oo, e1, e2⟩ := h5 e
  refine ⟨b, oo, e1, fun i z ez => ?_⟩
  rcases ok with rfl | ⟨t, s, rfl, hl⟩
  · simp only [VRels] at h4; exact absurd h4 e
  · obtain ⟨b2, g1, g2⟩ := h3
    rw [e1] at g2; simp only [Option.some.injEq, Addr.mk.injEq] at g2; obtain ⟨rfl, rfl, _⟩ := g2
    obtain ⟨k1, k2⟩ := hav t s rfl hl _ _ _ g1
    show (if b < w.heap.size then _ else if bl.contains b then none else G1.fz b (0 + i)) = some z
    rw [if_neg (by omega), k2]
    exact e2 i z ez

/-- The lists that were put to, behind the call. -/
theorem heap_obj {h : Nat} {bl : List Nat} {o1 o2 : Own} {N S : List AV} {nN nS : Nat} (hRm : G.mu h = some bh) (hlt : h < st.next) (hw0 : G1.w0 = ⟨w, fun b => b < w.heap.size ∧ b ≠ bh, lt⟩) (hR1 : Rel P G1 stD w') (hm : G1.mu 0 = some bh)
    (h0 : stD.get 0 = some (.cells [.list o1 N nN, .list o2 S nS])) (hN : N.all AV.sc = true) (hS : S.all AV.sc = true) (k1 : OkL stD o1 N) (k2 : OkL stD o2 S)
    (hbl : ∀ t s, (o1 = .tok t ∨ o2 = .tok t) → stD.get t = some (.arr true s) → ∀ b n c, G1.arr t = some (b, n, c) → bl.contains b = false) :
    ObjRel P (trG G G1 w.heap.size st.next bl) w' h (.cells [.list .any N nN, .list .any S nS]) := by
  obtain ⟨b', vs, t, q1, q2, q3⟩ := hR1.obj 0 _ _ h0 hm
  rw [hm] at q1; cases q1
  refine ⟨bh, vs, t, ?_, q2, ?_⟩
  · show (if h < st.next then G.mu h else _) = _; rw [if_pos hlt]; exact hRm
  · have av : ∀ o, (o = o1 ∨ o = o2) → ∀ t s, o = .tok t → stD.get t = some (.arr true s) → ∀ b n c, G1.arr t = some (b, n, c) → w.heap.size ≤ b ∧ bl.contains b = false := by
      intro o ho t s e hl b n c g
      obtain ⟨b2, n2, c2, vs2, ty2, g1, _, _, _, g5, _⟩ := arr_block hw0 hR1 hm hl
      rw [g] at g1; cases g1
      exact ⟨g5, hbl t s (ho.imp (fun h => h.symm.trans e) (fun h => h.symm.trans e)) hl _ _ _ g⟩
    generalize vs.toList = l at q3
    simp only [VRels] at q3 ⊢
    obtain ⟨y1, r1, rfl, v1, y2, r2, rfl, v2, rfl⟩ := q3
    exact ⟨y1, _, rfl, list_any v1 hN k1 (av o1 (.inl rfl)), y2, [], rfl, list_any v2 hS k2 (av o2 (.inr rfl)), rfl⟩
end

section
variable {P : Program} {st stD : St} {f h : Nat} {args argsC : List AV} {o1 o2 : Own} {N S : List AV} {nN nS : Nat}

/-- What is common to the kinds of answers. -/
theorem law_core {r r' : AV} {objs : List AObj} (hcs : CallSound P f argsC stC r stD) (hh : st.get h = some (.cells hnil)) (ha : ToC P st h args argsC)
    (h0 : stD.get 0 = some (.cells [.list o1 N nN, .list o2 S nS])) (hN : N.all AV.sc = true) (hS : S.all AV.sc = true) (k1 : OkL stD o1 N) (k2 : OkL stD o2 S) (hna : ∀ o ∈ objs, noArr o = true)
    (out : ∀ (G G1 : Gh) (w w' : World) (bh : Nat) (lt : ∀ k, k < w.heap.size ∧ k ≠ bh → k < w.heap.size) (v : Value), Rel P G st w → G1.w0 = ⟨w, fun b => b < w.heap.size ∧ b ≠ bh, lt⟩ → Rel P G1 stD w' → G1.mu 0 = some bh → VRel G1 r v →
      ∃ bl : List Nat, objs.length = bl.length ∧ bl.Nodup ∧ (∀ b ∈ bl, w.heap.size ≤ b ∧ b < w'.heap.size) ∧
        (∀ t s, (o1 = .tok t ∨ o2 = .tok t) → stD.get t = some (.arr true s) → ∀ b n c, G1.arr t = some (b, n, c) → bl.contains b = false) ∧
        (∀ (i : Nat) o, objs[i]? = some o → ObjRel P (trG G G1 w.heap.size st.next bl) w' (st.next + i) o) ∧ VRel (trG G G1 w.heap.size st.next bl) r' v) :
    CallSound P f args st r' ⟨(st.set h (.cells [.list .any N nN, .list .any S nS])).objs ++ objs⟩ := by
  refine ⟨hcs.1, fun G w vargs n hR hv => ?_⟩
  obtain ⟨bh, fz0, m1, f1, f2, f3, hv0⟩ := ha G w vargs.toList hR hv
  have hR0 := g0_rel hR hh m1 (by decide) fz0 f1 f2 f3
  refine (hcs.2 (g0 w bh fz0) w vargs n hR0 hv0).mono ?_
  rintro e w' ⟨v, G1, rfl, hle, _, hR1, hv1⟩
  have hw0 : G1.w0 = ⟨w, fun b => b < w.heap.size ∧ b ≠ bh, fun _ h => h.1⟩ := hle.w0
  have hm : G1.mu 0 = some bh := hle.mu 0 bh rfl
  obtain ⟨bl, b1, b2, b3, b4, b5, b6⟩ := out G G1 w w' bh _ v hR hw0 hR1 hm hv1
  have hlt := St.lt_of_get hh
  exact ⟨v, _, rfl, trG_le hR G1 bl, rfl, trG_rel hR hh m1 _ rfl hw0 hR1 bl objs b1 b2 b3 hna (heap_obj m1 hlt hw0 hR1 hm h0 hN hS k1 k2 b4) b5, b6⟩

/-- Nothing is to be written over. -/
theorem law_call0 {r : AV} (hr : r = .tup [] ∨ ∃ g, r = .fn g [] []) (hcs : CallSound P f argsC stC r stD) (hh : st.get h = some (.cells hnil)) (ha : ToC P st h args argsC)
    (h0 : stD.get 0 = some (.cells [.list o1 N nN, .list o2 S nS])) (hN : N.all AV.sc = true) (hS : S.all AV.sc = true) (k1 : OkL stD o1 N) (k2 : OkL stD o2 S) :
    CallSound P f args st r ⟨(st.set h (.cells [.list .any N nN, .list .any S nS])).objs ++ []⟩ := by
  refine law_core hcs hh ha h0 hN hS k1 k2 (by simp) fun G G1 w w' bh lt v hR hw0 hR1 hm hv => ⟨[], rfl, List.nodup_nil, by simp, by simp, by simp, ?_⟩
  rcases hr with rfl | ⟨g, rfl⟩
  · simpa [VRel, VRels] using hv
  · simpa [VRel, VRels] using hv

/-- An empty list is to be written over. -/
theorem law_call1 {g c n : Nat} {o3 : Own} (hcs : CallSound P f argsC stC (.fn g [] [.ptr c 0]) stD) (hh : st.get h = some (.cells hnil)) (ha : ToC P st h args argsC)
    (h0 : stD.get 0 = some (.cells [.list o1 N nN, .list o2 S nS])) (hN : N.all AV.sc = true) (hS : S.all AV.sc = true) (k1 : OkL stD o1 N) (k2 : OkL stD o2 S)
    (hc : stD.get c = some (.cells [.list o3 [] n])) (hc0 : c ≠ 0) :
    CallSound P f args st (.fn g [] [.ptr st.next 0]) ⟨(st.set h (.cells [.list .any N nN, .list .any S nS])).objs ++ [.cells [.list .any [] n]]⟩ := by
  refine law_core hcs hh ha h0 hN hS k1 k2 (by simp [noArr]) fun G G1 w w' bh lt v hR hw0 hR1 hm hv => ?_
  simp only [VRel, VRels] at hv
  obtain ⟨fa, ca, rfl, e1, y, ys, e2, ⟨bc, hmc, rfl⟩, e3⟩ := hv
  have hbc := mu_block hw0 hR1 hm hmc hc0
  refine ⟨[bc], rfl, by simp, by simpa using hbc, ?_, ?_, ?_⟩
  · intro t s _ hl b n' c' g1
    obtain ⟨b2, n2, c2, vs2, ty2, g2, _, _, _, _, _, g7⟩ := arr_block hw0 hR1 hm hl
    rw [g1] at g2; cases g2
    have : b ≠ bc := fun e => g7 c (e ▸ hmc)
    simp [this]
  · intro i o e
    cases i with
    | zero =>
      simp at e; subst e
      obtain ⟨b', vs, t, q1, q2, q3⟩ := hR1.obj c _ _ hc hmc
      rw [hmc] at q1; cases q1
      refine ⟨bc, vs, t, ?_, q2, ?_⟩
      · show (if st.next + 0 < st.next then _ else [bc][st.next + 0 - st.next]?) = _; rw [if_neg (by omega)]; simp
      · generalize vs.toList = l at q3
        simp only [VRels] at q3 ⊢
        obtain ⟨y1, r1, rfl, v1, rfl⟩ := q3
        exact ⟨y1, [], rfl, list_any v1 rfl (.inl rfl) (by
          intro t s e hl b n' c' g1
          obtain ⟨b2, n2, c2, vs2, ty2, g2, _, _, _, g5, _, g7⟩ := arr_block hw0 hR1 hm hl
          rw [g1] at g2; cases g2
          have : b ≠ bc := fun e => g7 c (e ▸ hmc)
          exact ⟨g5, by simp [this]⟩), rfl⟩
    | succ i => simp at e
  · simp only [VRel, VRels]
    refine ⟨fa, ca, rfl, e1, _, [], ?_, ⟨bc, ?_, rfl⟩, rfl⟩
    · rw [e2, e3]
    · show (if st.next < st.next then _ else [bc][st.next - st.next]?) = _; rw [if_neg (by omega)]; simp

/-- A list of the call's own is to be written over. -/
theorem law_call2 {g c n t3 s3 : Nat} {cs : List AV} (hcs : CallSound P f argsC stC (.fn g [] [.ptr c 0]) stD) (hh : st.get h = some (.cells hnil)) (ha : ToC P st h args argsC)
    (h0 : stD.get 0 = some (.cells [.list o1 N nN, .list o2 S nS])) (hN : N.all AV.sc = true) (hS : S.all AV.sc = true) (k1 : OkL stD o1 N) (k2 : OkL stD o2 S)
    (hc : stD.get c = some (.cells [.list (.tok t3) cs n])) (hc0 : c ≠ 0) (hcs3 : cs.all AV.sc = true) (hne : cs ≠ []) (hl3 : stD.get t3 = some (.arr true s3)) (d1 : o1 ≠ .tok t3) (d2 : o2 ≠ .tok t3) :
    CallSound P f args st (.fn g [] [.ptr (st.next + 1) 0]) ⟨(st.set h (.cells [.list .any N nN, .list .any S nS])).objs ++ [.vec cs, .cells [.mx st.next n]]⟩ := by
  refine law_core hcs hh ha h0 hN hS k1 k2 (by simp [noArr]) fun G G1 w w' bh lt v hR hw0 hR1 hm hv => ?_
  simp only [VRel, VRels] at hv
  obtain ⟨fa, ca, rfl, e1, y, ys, e2, ⟨bc, hmc, rfl⟩, e3⟩ := hv
  have hbc := mu_block hw0 hR1 hm hmc hc0
  obtain ⟨bv, nv, cv, vsv, tyv, v1, v2, v3, v4, v5, v6, v7⟩ := arr_block hw0 hR1 hm hl3
  have hvc : bv ≠ bc := fun e => v7 c (e ▸ hmc)
  obtain ⟨b', vs, t, q1, q2, q3⟩ := hR1.obj c _ _ hc hmc
  rw [hmc] at q1; cases q1
  obtain ⟨y1, hy1, r1⟩ : ∃ y1, vs.toList = [y1] ∧ VRel G1 (.list (.tok t3) cs n) y1 := by
    generalize vs.toList = l at q3
    simp only [VRels] at q3
    obtain ⟨y1, r1, rfl, v1, rfl⟩ := q3
    exact ⟨y1, rfl, v1⟩
  simp only [VRel] at r1
  obtain ⟨base, cap, rfl, hncap, ⟨b2, g1, g2⟩, zs, hz, hz2⟩ := r1
  rw [v1] at g1; cases g1
  have hzne : zs ≠ [] := by
    intro e; subst e
    have := hz.length; simp at this; exact hne this
  obtain ⟨b3, o3, e4, e5⟩ := hz2 hzne
  rw [g2] at e4; simp only [Option.some.injEq, Addr.mk.injEq] at e4; obtain ⟨rfl, rfl, _⟩ := e4
  have hzs : ∀ (i : Nat) z, zs[i]? = some z → vsv[i]? = some z := by
    intro i z e
    obtain ⟨vs', t', fr', k1, k2⟩ := hR1.fzok _ _ _ (e5 i z e)
    rw [v2] at k1; cases k1
    simpa using k2
  have hlz := hz.length
  have hsz : cs.length ≤ vsv.size := by
    rw [hlz]
    refine Nat.le_of_not_lt fun hlt => ?_
    have := hzs vsv.size zs[vsv.size] (List.getElem?_eq_getElem hlt)
    simp at this
  have htake : vsv.toList.take cs.length = zs := by
    apply List.ext_getElem?
    intro i
    rw [List.getElem?_take]
    by_cases hi : i < cs.length
    · rw [if_pos hi]
      have hi2 : i < zs.length := by omega
      have := hzs i zs[i] (List.getElem?_eq_getElem hi2)
      rw [List.getElem?_eq_getElem hi2, ← this]; simp
    · rw [if_neg hi, List.getElem?_eq_none (by omega)]
  refine ⟨[bv, bc], rfl, by simpa using hvc, ?_, ?_, ?_, ?_⟩
  · intro b hb
    rcases List.mem_cons.1 hb with rfl | hb
    · exact ⟨v5, v6⟩
    · simp at hb; subst hb; exact hbc
  · intro t s ho hl b n' c' g1
    obtain ⟨b2, n2, c2, vs2, ty2, g2, _, _, _, _, _, g7⟩ := arr_block hw0 hR1 hm hl
    rw [g1] at g2; cases g2
    have h1 : b ≠ bc := fun e => g7 c (e ▸ hmc)
    have h2 : b ≠ bv := by
      intro e; subst e
      have := hR1.arrinj t t3 s s3 b _ _ _ _ hl hl3 g1 v1
      subst this
      exact ho.elim d1 d2
    simp [h1, h2]
  · intro i o e
    cases i with
    | zero =>
      simp at e; subst e
      refine ⟨bv, vsv, tyv, ?_, v2, hsz, by rw [htake]; exact vrels_sc cs zs hcs3 hz⟩
      show (if st.next + 0 < st.next then _ else [bv, bc][st.next + 0 - st.next]?) = _; rw [if_neg (by omega)]; simp
    | succ i =>
      cases i with
      | zero =>
        simp at e; subst e
        refine ⟨bc, vs, t, ?_, q2, ?_⟩
        · show (if st.next + (0 + 1) < st.next then _ else [bv, bc][st.next + (0 + 1) - st.next]?) = _; rw [if_neg (by omega)]; simp
        · rw [hy1]
          simp only [VRels, VRel]
          refine ⟨_, [], rfl, ⟨bv, _, ?_, by rw [g2]⟩, rfl⟩
          show (if st.next < st.next then _ else [bv, bc][st.next - st.next]?) = _; rw [if_neg (by omega)]; simp
      | succ i => simp at e
  · simp only [VRel, VRels]
    refine ⟨fa, ca, rfl, e1, _, [], ?_, ⟨bc, ?_, rfl⟩, rfl⟩
    · rw [e2, e3]
    · show (if st.next + 1 < st.next then _ else [bv, bc][st.next + 1 - st.next]?) = _; rw [if_neg (by omega)]; simp

/-- A call that takes no place and leaves nothing. -/
theorem pure_call {b : Bool} (hcs : CallSound P f [] ⟨[]⟩ (.bool b) stD) : CallSound P f [] st (.bool b) st := by
  refine ⟨hcs.1, fun G w vargs n hR hv => ?_⟩
  simp only [VRels] at hv
  have hR0 : Rel P { w0 := ⟨w, fun b => b < w.heap.size, fun _ h => h⟩, nx := 0, mu := fun _ => none, fz := G.fz, arr := fun _ => none, dfr := [], lps := [] } ⟨[]⟩ w :=
    { nxeq := rfl, below := ⟨rfl, rfl, rfl, Nat.le_refl _, fun _ _ => rfl⟩, dom := by simp, adom := by simp, inj := by simp, fresh := by simp, obj := by simp [St.get], fzok := hR.fzok, fzmu := by simp, arr := by simp [St.get], arrinj := by simp [St.get], dfr := by simp, lps := by simp }
  refine (hcs.2 _ w vargs n hR0 (by simpa [VRels] using hv)).mono ?_
  rintro e w' ⟨v, G1, rfl, hle, _, hR1, hv1⟩
  have hbel := hR1.below
  rw [hle.w0] at hbel
  refine ⟨v, G, rfl, .refl _, rfl, ?_, by simpa [VRel] using hv1⟩
  have same : ∀ k, k < w.heap.size → w'.heap[k]? = w.heap[k]? := fun k h1 => hbel.block k h1
  have at_ : ∀ {k o}, w.heap[k]? = some o → w'.heap[k]? = some o := fun {k o} e => by rw [same k (Array.getElem?_eq_some_iff.1 e).1]; exact e
  refine { nxeq := hR.nxeq, below := ?_, dom := hR.dom, adom := hR.adom, inj := hR.inj, fresh := ?_, obj := ?_, fzok := ?_, fzmu := hR.fzmu, arr := ?_, arrinj := hR.arrinj, dfr := ?_, lps := ?_ }
  · exact hR.below.step hbel.os hbel.tape hbel.output hbel.size fun k hk => same k (Nat.lt_of_lt_of_le (G.w0.lt k hk) hR.below.size)
  · intro a b e; have := hR.fresh a b e; exact ⟨this.1, Nat.lt_of_lt_of_le this.2 hbel.size⟩
  · intro a o b e hb
    refine (hR.obj a o b e hb).mono (.refl _) fun b' hb' => same b' (hR.fresh a b' hb').2
  · intro b o y e; obtain ⟨vs, t, fr, h1, h2⟩ := hR.fzok b o y e; exact ⟨vs, t, fr, at_ h1, h2⟩
  · intro a sz e
    obtain ⟨b, n, cap, vs, t, g1, g2, g3⟩ := hR.arr a sz e
    exact ⟨b, n, cap, vs, t, g1, at_ g2, g3⟩
  · intro r hr; obtain ⟨h1, h2⟩ := hR.dfr r hr; exact ⟨h1, at_ h2⟩
  · intro r hr; obtain ⟨h1, rec, h2⟩ := hR.lps r hr; exact ⟨h1, rec, at_ h2⟩
end
end Go.EF
