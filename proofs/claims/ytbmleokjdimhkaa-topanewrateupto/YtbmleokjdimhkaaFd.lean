/- The soundness of one value's being among those of another. No conditions. -/
import Derived.Test.YtbmleokjdimhkaaFc
set_option linter.unusedVariables false
set_option linter.unusedSimpArgs false

section
namespace Go.EF.Rk
noncomputable section
open Go Go.EF

theorem ite_ok {α : Type} {b : Bool} {x : M α} {c : α} {d : α} {o o' : Orc} (hd : d ≠ c) (h : (if b = true then x else pure d : M α) o = .ok c o') : b = true ∧ x o = .ok c o' := by
  cases b with
  | true => exact ⟨rfl, by simpa using h⟩
  | false => exact absurd (ret_ok (by simpa using h)) hd
theorem iff_ok {b : Bool} {x : M Bool} {o o' : Orc} (h : (if b = true then x else pure false) o = .ok true o') : b = true ∧ x o = .ok true o' := ite_ok (by simp) h
/-- Two checks, one behind the other. -/
theorem and_ok {x y : M Bool} {o o' : Orc} (h : (do let b ← x; if b then y else pure false : M Bool) o = .ok true o') : (∃ o1, x o = .ok true o1) ∧ ∃ o1, y o1 = .ok true o' := by
  obtain ⟨b, o1, h1, h2⟩ := bind_ok h
  obtain ⟨rfl, h3⟩ := iff_ok h2
  exact ⟨⟨o1, h1⟩, ⟨o1, h3⟩⟩
theorem dite_ok {p : Prop} [Decidable p] {x : M Bool} {o o' : Orc} (h : (if p then x else pure false) o = .ok true o') : p ∧ x o = .ok true o' := by
  split at h
  · exact ⟨‹_›, h⟩
  · exact absurd (ret_ok h) (by simp)
theorem false_ok {o o' : Orc} (h : (pure false : M Bool) o = .ok true o') : False := absurd (ret_ok h) (by simp)

theorem anyM_ok {α : Type} {f : α → M Bool} : ∀ {l : List α} {o o' : Orc}, anyM f l o = .ok true o' → ∃ a ∈ l, ∃ o1 o2, f a o1 = .ok true o2
  | [], o, o', h => (false_ok h).elim
  | a :: r, o, o', h => by
    obtain ⟨b, o1, h1, h2⟩ := bind_ok h
    cases b with
    | true => exact ⟨a, List.mem_cons_self .., o, o1, h1⟩
    | false =>
      obtain ⟨c, hc, h3⟩ := anyM_ok (l := r) (o := o1) (o' := o') (by simpa using h2)
      exact ⟨c, List.mem_cons_of_mem _ hc, h3⟩
theorem allM_ok {α : Type} {f : α → M Bool} : ∀ {l : List α} {o o' : Orc}, allM f l o = .ok true o' → ∀ a ∈ l, ∃ o1 o2, f a o1 = .ok true o2
  | a :: r, o, o', h, x, hx => by
    obtain ⟨⟨o1, h1⟩, o2, h2⟩ := and_ok h
    rcases List.mem_cons.1 hx with rfl | hx
    · exact ⟨o, o1, h1⟩
    · exact allM_ok h2 x hx

section
variable {P : Program} {ρ : V} {fs : List Lin} {ks : List KI}

theorem leL_ok {f : SV → SV → M Bool} (hf : ∀ v p o o', f v p o = .ok true o' → ∀ x, R ρ v x → R ρ p x) : ∀ {l m : List SV} {o o' : Orc}, leL f l m o = .ok true o' → ∀ ys, Rs ρ l ys → Rs ρ m ys
  | [], [], _, _, _, ys, h => h
  | [], _ :: _, _, _, h, _, _ => (false_ok h).elim
  | _ :: _, [], _, _, h, _, _ => (false_ok h).elim
  | a :: r, b :: s, o, o', h, ys, hy => by
    obtain ⟨⟨o1, h1⟩, o2, h2⟩ := and_ok h
    simp only [Rs] at hy ⊢
    obtain ⟨y, ys', rfl, h3, h4⟩ := hy
    exact ⟨y, ys', rfl, hf _ _ _ _ h1 _ h3, leL_ok hf h2 _ h4⟩
theorem elemAt_zero {cs : List AV} {sz : Nat} : elemAt cs sz 0 = cs.take sz := by simp [elemAt]
theorem elemAt_succ {cs : List AV} {sz j : Nat} : elemAt cs sz (j + 1) = elemAt (cs.drop sz) sz j := by
  unfold elemAt; rw [List.drop_drop]; congr 2; rw [Nat.add_mul]; omega
theorem leCh_ok {f : SV → SV → M Bool} (hf : ∀ v p o o', f v p o = .ok true o' → ∀ x, R ρ v x → R ρ p x) {el : List SV} : ∀ {k : Nat} {cs : List SV} {o o' : Orc}, leCh f el k cs o = .ok true o' → ∀ ys, Rs ρ cs ys → ∀ j, j < k → Rs ρ el (elemAt ys el.length j)
  | 0, _, _, _, _, _, _, j, hj => absurd hj (Nat.not_lt_zero _)
  | k + 1, cs, o, o', h, ys, hy, j, hj => by
    obtain ⟨⟨o1, h1⟩, o2, h2⟩ := and_ok h
    cases j with
    | zero => rw [elemAt_zero]; exact leL_ok hf h1 _ (Rs_take hy _)
    | succ j => rw [elemAt_succ]; exact leCh_ok hf h2 _ (Rs_drop hy _) j (by omega)

theorem bounds_int (K : Kn P ρ fs ks) {l : Lin} {lo hi : List Lin} {o1 o2 o3 : Orc} {o4 : Orc} (h1 : prvLo fs l lo o1 = .ok true o2) (h2 : prvHi fs l hi o3 = .ok true o4) : bounds ρ.i lo hi (l.ev ρ.i) :=
  ⟨prvLo_ok K h1, prvHi_ok K h2⟩

theorem le_both (K : Kn P ρ fs ks) : ∀ n, (∀ v p o o', le fs ks n v p o = .ok true o' → ∀ x, R ρ v x → R ρ p x) ∧
    ∀ L len el o o', hasAll fs ks n L len el o = .ok true o' → len.ev ρ.i = ρ.n L → ∀ j, j < ρ.n L → Rs ρ el (elemAt (ρ.l L) el.length j) := by
  intro n
  induction n with
  | zero => exact ⟨fun v p o o' h => (false_ok (by simpa only [le] using h)).elim, fun L len el o o' h => (false_ok (by simpa only [hasAll] using h)).elim⟩
  | succ n ih =>
    obtain ⟨ih1, ih2⟩ := ih
    refine ⟨fun v p o o' h x hx => ?_, fun L len el o o' h hlen j hj => ?_⟩
    · cases p with
      | any => trivial
      | int k l =>
        cases v <;> simp only [le] at h <;> first | exact (false_ok h).elim | skip
        obtain ⟨e0, hh⟩ := dite_ok h; replace h := hh; clear hh; subst e0
        simp only [R] at hx ⊢; rw [← prvEq_ok K h]; exact hx
      | uint k lo hi =>
        cases v <;> simp only [le] at h <;> first | exact (false_ok h).elim | skip
        · obtain ⟨e0, hh⟩ := dite_ok h; replace h := hh; clear hh; subst e0
          obtain ⟨⟨o1, h1⟩, o2, h2⟩ := and_ok h
          simp only [R] at hx ⊢; exact ⟨_, hx.1, hx.2, bounds_int K h1 h2⟩
        · obtain ⟨e0, hh⟩ := dite_ok h; replace h := hh; clear hh; subst e0
          obtain ⟨⟨o1, h1⟩, o2, h2⟩ := and_ok h
          simp only [R] at hx ⊢
          obtain ⟨m, e, h3, h4⟩ := hx
          exact ⟨m, e, h3, prvSubLo_ok K h1 m h4.1, prvSubHi_ok K h2 m h4.2⟩
      | bool c =>
        cases v <;> simp only [le] at h <;> first | exact (false_ok h).elim | skip
        have e := of_decide_eq_true (ret_ok h); subst e; exact hx
      | ubool =>
        cases v <;> simp only [le] at h <;> first | exact (false_ok h).elim | skip
        · simp only [R] at hx ⊢; exact ⟨_, hx⟩
        · exact hx
      | str s =>
        cases v <;> simp only [le] at h <;> first | exact (false_ok h).elim | skip
        have e := of_decide_eq_true (ret_ok h); subst e; exact hx
      | ustr lo hi =>
        cases v <;> simp only [le] at h <;> first | exact (false_ok h).elim | skip
        · rename_i s
          cases hl : strOf ks s with
          | none => rw [hl] at h; exact (false_ok h).elim
          | some l =>
            rw [hl] at h
            obtain ⟨⟨o1, h1⟩, o2, h2⟩ := and_ok h
            have hk := K.ks _ (strOf_mem hl); simp only [KI.ok] at hk
            simp only [R] at hx ⊢
            exact ⟨_, hx, hk.2, by rw [← hk.1]; exact bounds_int K h1 h2⟩
        · rename_i lo' hi'
          obtain ⟨⟨o1, h1⟩, o2, h2⟩ := and_ok h
          simp only [R] at hx ⊢
          obtain ⟨m, e, h3, h4⟩ := hx
          exact ⟨m, e, h3, prvSubLo_ok K h1 _ h4.1, prvSubHi_ok K h2 _ h4.2⟩
        · rename_i y
          cases y <;> first | exact (false_ok h).elim | skip
          rename_i b
          obtain ⟨⟨o1, h1⟩, o2, h2⟩ := and_ok h
          obtain ⟨⟨o3, h3⟩, o4, h4⟩ := and_ok h2
          simp only [R] at hx ⊢
          have := bounds_int K h3 h4
          rw [Lin.ev_k] at this
          exact ⟨_, hx, of_decide_eq_true (ret_ok h1), this⟩
      | val y =>
        cases v <;> simp only [le] at h <;> first | exact (false_ok h).elim | skip
        have e := valEq_ok (ret_ok h); subst e; exact hx
      | ptr a off =>
        cases v <;> simp only [le] at h <;> first | exact (false_ok h).elim | skip
        obtain ⟨rfl, rfl⟩ := of_decide_eq_true (ret_ok h); exact hx
      | map a =>
        cases v <;> simp only [le] at h <;> first | exact (false_ok h).elim | skip
        have e := of_decide_eq_true (ret_ok h); subst e; exact hx
      | yld a =>
        cases v <;> simp only [le] at h <;> first | exact (false_ok h).elim | skip
        have e := of_decide_eq_true (ret_ok h); subst e; exact hx
      | born a =>
        cases v <;> simp only [le] at h <;> first | exact (false_ok h).elim | skip
        have e := of_decide_eq_true (ret_ok h); subst e; exact hx
      | lpc cs off =>
        cases v <;> simp only [le] at h <;> first | exact (false_ok h).elim | skip
        obtain ⟨e0, hh⟩ := dite_ok h; replace h := hh; clear hh; subst e0
        simp only [R] at hx ⊢
        obtain ⟨ys, e, h1⟩ := hx; exact ⟨ys, e, leL_ok ih1 h _ h1⟩
      | agg cs =>
        cases v <;> simp only [le] at h <;> first | exact (false_ok h).elim | skip
        simp only [R] at hx ⊢
        obtain ⟨ys, e, h1⟩ := hx; exact ⟨ys, e, leL_ok ih1 h _ h1⟩
      | tup cs =>
        cases v <;> simp only [le] at h <;> first | exact (false_ok h).elim | skip
        simp only [R] at hx ⊢
        obtain ⟨ys, e, h1⟩ := hx; exact ⟨ys, e, leL_ok ih1 h _ h1⟩
      | list w L =>
        cases v <;> simp only [le] at h <;> first | exact (false_ok h).elim | skip
        have e := ret_ok h
        simp only [Bool.and_eq_true, leW, decide_eq_true_eq] at e
        obtain ⟨rfl, rfl⟩ := e; exact hx
      | listc w cs k =>
        cases v <;> simp only [le] at h <;> first | exact (false_ok h).elim | skip
        obtain ⟨⟨hw, e1⟩, hh⟩ := dite_ok h; replace h := hh; clear hh
        have hw := of_decide_eq_true hw; subst hw e1
        simp only [R] at hx ⊢
        obtain ⟨ys, e, h1⟩ := hx; exact ⟨ys, e, leL_ok ih1 h _ h1⟩
      | ulist el lo hi =>
        cases v <;> simp only [le] at h <;> first | exact (false_ok h).elim | skip
        · rename_i w L
          cases hl : lstOf ks L with
          | none => rw [hl] at h; exact (false_ok h).elim
          | some q =>
            obtain ⟨sz, len⟩ := q
            rw [hl] at h
            obtain ⟨e0, hh⟩ := dite_ok h; replace h := hh; clear hh; subst e0
            obtain ⟨⟨o1, h1⟩, o2, h2⟩ := and_ok h
            obtain ⟨⟨o3, h3⟩, o4, h4⟩ := and_ok h2
            have hk := K.ks _ (lstOf_mem hl); simp only [KI.ok] at hk
            simp only [R] at hx ⊢
            exact ⟨_, _, _, hx, hk.2.1, hk.2.2, by rw [← hk.1]; exact bounds_int K h1 h3, ih2 _ _ _ _ _ h4 hk.1⟩
        · rename_i w cs k
          obtain ⟨⟨hc, hk⟩, hh⟩ := dite_ok h; replace h := hh; clear hh
          obtain ⟨⟨o1, h1⟩, o2, h2⟩ := and_ok h
          obtain ⟨⟨o3, h3⟩, o4, h4⟩ := and_ok h2
          simp only [R] at hx ⊢
          obtain ⟨ys, e, h5⟩ := hx
          have hb := bounds_int K h1 h3
          rw [Lin.ev_k] at hb
          exact ⟨_, _, _, e, by rw [Rs_length h5, hc], hk, hb, leCh_ok ih1 h4 _ h5⟩
        · rename_i el' lo' hi'
          obtain ⟨he, hh⟩ := dite_ok h; replace h := hh; clear hh
          obtain ⟨⟨o1, h1⟩, o2, h2⟩ := and_ok h
          obtain ⟨⟨o3, h3⟩, o4, h4⟩ := and_ok h2
          simp only [R] at hx ⊢
          obtain ⟨w, cs, m, e, h5, h6, h7, h8⟩ := hx
          exact ⟨w, cs, m, e, by rw [h5, he], h6, ⟨prvSubLo_ok K h1 _ h7.1, prvSubHi_ok K h3 _ h7.2⟩, fun j hj => leL_ok ih1 h4 _ (by rw [← he]; exact h8 j hj)⟩
      | fn f a b =>
        cases v <;> simp only [le] at h <;> first | exact (false_ok h).elim | skip
        obtain ⟨e0, hh⟩ := dite_ok h; replace h := hh; clear hh; subst e0
        obtain ⟨⟨o1, h1⟩, o2, h2⟩ := and_ok h
        simp only [R] at hx ⊢
        obtain ⟨ya, yb, e, h3, h4⟩ := hx
        exact ⟨ya, yb, e, leL_ok ih1 h1 _ h3, leL_ok ih1 h2 _ h4⟩
      | ms a st sz i len cap =>
        cases v <;> simp only [le] at h <;> first | exact (false_ok h).elim | skip
        obtain ⟨⟨e0, e1, e2⟩, hh⟩ := dite_ok h; replace h := hh; clear hh; subst e0 e1 e2
        obtain ⟨⟨o1, h1⟩, o2, h2⟩ := and_ok h
        obtain ⟨⟨o3, h3⟩, o4, h4⟩ := and_ok h2
        simp only [R] at hx ⊢
        rw [← prvEq_ok K h1, ← prvEq_ok K h3, ← prvEq_ok K h4]; exact hx
      | mx a l =>
        cases v <;> simp only [le] at h <;> first | exact (false_ok h).elim | skip
        obtain ⟨e0, hh⟩ := dite_ok h; replace h := hh; clear hh; subst e0
        simp only [R] at hx ⊢; rw [← prvEq_ok K h]; exact hx
      | ptrx a st m sz o1 i =>
        cases v <;> simp only [le] at h <;> first | exact (false_ok h).elim | skip
        obtain ⟨⟨e0, e1, e2, e3, e4⟩, hh⟩ := dite_ok h; replace h := hh; clear hh; subst e0 e1 e2 e3 e4
        simp only [R] at hx ⊢; rw [← prvEq_ok K h]; exact hx
      | ptrv a sz o1 i =>
        cases v <;> simp only [le] at h <;> first | exact (false_ok h).elim | skip
        obtain ⟨⟨e0, e1, e2⟩, hh⟩ := dite_ok h; replace h := hh; clear hh; subst e0 e1 e2
        simp only [R] at hx ⊢; rw [← prvEq_ok K h]; exact hx
      | lptr L sz o1 i =>
        cases v <;> simp only [le] at h <;> first | exact (false_ok h).elim | skip
        obtain ⟨⟨e0, e1, e2⟩, hh⟩ := dite_ok h; replace h := hh; clear hh; subst e0 e1 e2
        simp only [R] at hx ⊢; rw [← prvEq_ok K h]; exact hx
    · simp only [hasAll] at h
      obtain ⟨b, o1, h1, h2⟩ := bind_ok h
      cases b with
      | true =>
        obtain ⟨el', he, o3, o4, h3⟩ := anyM_ok h1
        have hk := K.ks _ (allsOf_mem he); simp only [KI.ok] at hk
        have hr := leL_ok ih1 h3
        have hl : el'.length = el.length := by
          have := hr _ (hk j hj); rw [← Rs_length this, Rs_length (hk j hj)]
        exact hr _ (by rw [← hl]; exact hk j hj)
      | false =>
        obtain ⟨b, o3, h3, h4⟩ := bind_ok (show (anyM _ _ >>= _) o1 = _ from by simpa using h2)
        cases b with
        | true =>
          obtain ⟨⟨i, el'⟩, he, o5, o6, h5⟩ := anyM_ok h3
          obtain ⟨⟨o7, h7⟩, o8, h8⟩ := and_ok h5
          have hk := K.ks _ (presOf_mem he); simp only [KI.ok] at hk
          have hb := prv_ok K h7; rw [Lin.ev_sub] at hb; simp only at hb
          have hk' := hk j (by omega) hj
          have hr := leL_ok ih1 h8
          have hl : el'.length = el.length := by
            have := hr _ hk'; rw [← Rs_length this, Rs_length hk']
          exact hr _ (by rw [← hl]; exact hk')
        | false =>
          simp only [Bool.false_eq_true, if_false] at h4
          cases hs : srcOf ks L with
          | none => rw [hs] at h4; exact (false_ok h4).elim
          | some q =>
            obtain ⟨sz, Ms, els⟩ := q
            rw [hs] at h4
            obtain ⟨e0, hh⟩ := dite_ok h4; replace h4 := hh; clear hh; subst e0
            obtain ⟨⟨o5, h5⟩, o6, h6⟩ := and_ok h4
            have hk := K.ks _ (srcOf_mem hs); simp only [KI.ok] at hk
            rcases hk j hj with ⟨M, hM, j', q1, q2⟩ | ⟨e, he, q1, q2⟩
            · obtain ⟨o7, o8, h7⟩ := allM_ok h5 M hM
              cases hl : lstOf ks M with
              | none => rw [hl] at h7; exact (false_ok h7).elim
              | some q =>
                obtain ⟨sz', len'⟩ := q
                rw [hl] at h7
                obtain ⟨_, hh⟩ := dite_ok h7; replace h7 := hh; clear hh
                have hkl := K.ks _ (lstOf_mem hl); simp only [KI.ok] at hkl
                rw [q2]; exact ih2 _ _ _ _ _ h7 hkl.1 j' q1
            · obtain ⟨o7, o8, h7⟩ := allM_ok h6 e he
              exact leL_ok ih1 h7 _ q2

theorem le_ok (K : Kn P ρ fs ks) {n : Nat} {v p : SV} {o o' : Orc} (h : le fs ks n v p o = .ok true o') {x : AV} (hx : R ρ v x) : R ρ p x := (le_both K n).1 v p o o' h x hx
theorem leS_ok (K : Kn P ρ fs ks) {n : Nat} {v p : List SV} {o o' : Orc} (h : leL (le fs ks n) v p o = .ok true o') {x : List AV} (hx : Rs ρ v x) : Rs ρ p x := leL_ok (le_both K n).1 h x hx
theorem hasAll_ok (K : Kn P ρ fs ks) {n L : Nat} {len : Lin} {el : List SV} {o o' : Orc} (h : hasAll fs ks n L len el o = .ok true o') (hl : len.ev ρ.i = ρ.n L) : ∀ j, j < ρ.n L → Rs ρ el (elemAt (ρ.l L) el.length j) := (le_both K n).2 L len el o o' h hl
end
end
end Go.EF.Rk
end

section
namespace Go.EF.Rk
noncomputable section
open Go Go.EF

/-- One variable of each sort given another meaning. -/
structure Pt where
  i : Int := 0
  a : Nat := 0
  l : List AV := []
  n : Nat := 0
  s : ByteArray := .empty
  o : Own := .any
  c : LoopCode := ⟨fun _ => .junk, 0, [], .skip, .skip⟩
def V.put (ρ : V) (v : Nat) (p : Pt) : V :=
  ⟨fun u => if u = v then p.i else ρ.i u, fun u => if u = v then p.a else ρ.a u, fun u => if u = v then p.l else ρ.l u, fun u => if u = v then p.n else ρ.n u,
   fun u => if u = v then p.s else ρ.s u, fun u => if u = v then p.o else ρ.o u, fun u => if u = v then p.c else ρ.c u, ρ.F⟩
theorem put_agree (ρ : V) (v : Nat) (p : Pt) : Agree v ρ (ρ.put v p) := by
  refine ⟨?_, ?_, ?_, ?_, ?_, ?_, ?_, rfl⟩ <;> intro u hu <;> exact if_neg (Nat.ne_of_lt hu)
theorem put_i (ρ : V) (v : Nat) (p : Pt) : (ρ.put v p).i v = p.i := if_pos rfl
theorem put_a (ρ : V) (v : Nat) (p : Pt) : (ρ.put v p).a v = p.a := if_pos rfl
theorem put_l (ρ : V) (v : Nat) (p : Pt) : (ρ.put v p).l v = p.l := if_pos rfl
theorem put_n (ρ : V) (v : Nat) (p : Pt) : (ρ.put v p).n v = p.n := if_pos rfl
theorem put_s (ρ : V) (v : Nat) (p : Pt) : (ρ.put v p).s v = p.s := if_pos rfl
theorem put_o (ρ : V) (v : Nat) (p : Pt) : (ρ.put v p).o v = p.o := if_pos rfl
theorem put_c (ρ : V) (v : Nat) (p : Pt) : (ρ.put v p).c v = p.c := if_pos rfl
theorem put_ok {ρ : V} (h : ρ.ok) (v : Nat) {p : Pt} (hp : -9223372036854775808 ≤ p.i ∧ p.i ≤ 9223372036854775807) : (ρ.put v p).ok := by
  intro u
  show -9223372036854775808 ≤ (if u = v then p.i else ρ.i u) ∧ (if u = v then p.i else ρ.i u) ≤ 9223372036854775807
  split
  · exact hp
  · exact h u

theorem v_below (n : Nat) : (Lin.v n).below (n + 1) = true := by simp [Lin.below, Lin.v, Lin.belowT, Nat.blt_eq]
theorem belowT_ins {n v : Nat} {a : Int} (hv : v < n) : ∀ {t : Tms}, Lin.belowT n t = true → Lin.belowT n (insT v a t) = true
  | [], _ => by
    unfold insT; split
    · rfl
    · simp [Lin.belowT, Nat.blt_eq, hv]
  | (w, b) :: r, h => by
    have h' := h
    simp only [Lin.belowT, Bool.and_eq_true] at h
    unfold insT
    cases Nat.beq v w with
    | true =>
      simp only [cond_true]; split
      · exact h.2
      · simp only [Lin.belowT, Bool.and_eq_true]; exact ⟨Nat.blt_eq.mpr hv, h.2⟩
    | false =>
      simp only [cond_false]
      cases Nat.ble v w with
      | true => simp only [cond_true, Lin.belowT, Bool.and_eq_true]; exact ⟨Nat.blt_eq.mpr hv, h.1, h.2⟩
      | false => simp only [cond_false, Lin.belowT, Bool.and_eq_true]; exact ⟨h.1, belowT_ins hv h.2⟩
theorem belowT_add {n : Nat} : ∀ {a b : Tms}, Lin.belowT n a = true → Lin.belowT n b = true → Lin.belowT n (addT a b) = true
  | [], b, _, h => h
  | (v, k) :: r, b, h, h' => by
    simp only [Lin.belowT, Bool.and_eq_true] at h
    exact belowT_ins (Nat.blt_eq.mp h.1) (belowT_add h.2 h')
theorem belowT_mul {n : Nat} {k : Int} : ∀ {a : Tms}, Lin.belowT n a = true → Lin.belowT n (mulT k a) = true
  | [], _ => rfl
  | (v, q) :: r, h => by simp only [Lin.belowT, Bool.and_eq_true] at h; simp only [mulT, Lin.belowT, Bool.and_eq_true]; exact ⟨h.1, belowT_mul h.2⟩
theorem add_below {n : Nat} {a b : Lin} (h : a.below n = true) (h' : b.below n = true) : (a.add b).below n = true := belowT_add h h'
theorem mul_below {n : Nat} {a : Lin} (k : Int) (h : a.below n = true) : (a.mul k).below n = true := by
  unfold Lin.mul; split
  · rfl
  · exact h
  · exact belowT_mul h
theorem sub_below {n : Nat} {a b : Lin} (h : a.below n = true) (h' : b.below n = true) : (a.sub b).below n = true := add_below h (mul_below _ h')
theorem addk_below {n : Nat} {a : Lin} (k : Int) (h : a.below n = true) : (a.addk k).below n = true := h
theorem k_below {n : Nat} (k : Int) : (Lin.k k).below n = true := rfl
theorem belowL_mem {n : Nat} : ∀ {l : List Lin}, belowL n l = true → ∀ x ∈ l, x.below n = true
  | _ :: r, h, x, hx => by
    simp only [belowL, Bool.and_eq_true] at h
    rcases List.mem_cons.1 hx with rfl | hx
    · exact h.1
    · exact belowL_mem h.2 x hx

/-- What the bounds say of a number. -/
def bnd (l : Lin) (lo hi : List Lin) : List Lin := lo.map (fun b => l.sub b) ++ hi.map (fun b => b.sub l)
theorem bnd_ok {ρ : Nat → Int} {l : Lin} {lo hi : List Lin} (h : bounds ρ lo hi (l.ev ρ)) : ∀ f ∈ bnd l lo hi, 0 ≤ f.ev ρ := by
  intro f hf
  rcases List.mem_append.1 hf with hf | hf
  · obtain ⟨b, hb, rfl⟩ := List.mem_map.1 hf; rw [Lin.ev_sub]; have := h.1 b hb; omega
  · obtain ⟨b, hb, rfl⟩ := List.mem_map.1 hf; rw [Lin.ev_sub]; have := h.2 b hb; omega
theorem bnd_below {n : Nat} {l : Lin} {lo hi : List Lin} (h : l.below n = true) (h1 : belowL n lo = true) (h2 : belowL n hi = true) : ∀ f ∈ bnd l lo hi, f.below n = true := by
  intro f hf
  rcases List.mem_append.1 hf with hf | hf
  · obtain ⟨b, hb, rfl⟩ := List.mem_map.1 hf; exact sub_below h (belowL_mem h1 b hb)
  · obtain ⟨b, hb, rfl⟩ := List.mem_map.1 hf; exact sub_below (belowL_mem h2 b hb) h

/-- The bounds that a kind of number brings. -/
def kLo (k : IntKind) : List Lin := match k with | .i64 => [] | k => [Lin.k (ikLo k)]
def kHi (k : IntKind) : List Lin := match k with | .i64 => [] | k => [Lin.k (ikHi k)]

mutual
def nm : SV → SS → SV × SS
  | .uint k lo hi, ss => match k with
    | .u64 => (.uint .u64 lo hi, ss)
    | k => (.int k (.v ss.nv), ⟨ss.nv + 1, bnd (.v ss.nv) (kLo k ++ lo) (kHi k ++ hi) ++ ss.fs, [] ++ ss.ks, ss.hp⟩)
  | .ubool, ss => (.bool (.ne (.v ss.nv)), ⟨ss.nv + 1, [] ++ ss.fs, [] ++ ss.ks, ss.hp⟩)
  | .ustr lo hi, ss => (.str ss.nv, ⟨ss.nv + 1, bnd (.v ss.nv) (.k 0 :: lo) (.k LBIG :: hi) ++ ss.fs, [.str ss.nv (.v ss.nv)] ++ ss.ks, ss.hp⟩)
  | .ulist el lo hi, ss => (.list (.var ss.nv) ss.nv, ⟨ss.nv + 1, bnd (.v ss.nv) (.k 0 :: lo) (.k LBIG :: hi) ++ ss.fs, [.lst ss.nv el.length (.v ss.nv), .all ss.nv el] ++ ss.ks, ss.hp⟩)
  | .agg cs, ss => bif Nat.ble cs.length 20 then (match nmS cs ss with | (cs', ss') => (.agg cs', ss')) else (.agg cs, ss)
  | .tup cs, ss => match nmS cs ss with | (cs', ss') => (.tup cs', ss')
  | s, ss => (s, ss)
def nmS : List SV → SS → List SV × SS
  | [], ss => ([], ss)
  | s :: r, ss => match nm s ss with
    | (s', ss1) => match nmS r ss1 with
      | (r', ss2) => (s' :: r', ss2)
end

section
variable {P : Program} {ρ : V} {ss : SS} {st : St}

theorem inR_all {k : IntKind} (hk : k ≠ .u64) {n : Int} (h : inR k n) : -9223372036854775808 ≤ n ∧ n ≤ 9223372036854775807 := by
  cases k <;> simp only [inR, ikLo, ikHi] at h <;> first | exact absurd rfl hk | omega
theorem kLo_ok {k : IntKind} {n : Int} (h : inR k n) (ρ : Nat → Int) : ∀ l ∈ kLo k, l.ev ρ ≤ n := by
  intro l hl
  unfold kLo at hl; split at hl
  · cases hl
  · simp only [List.mem_singleton] at hl; subst hl; rw [Lin.ev_k]; exact h.1
theorem kHi_ok {k : IntKind} {n : Int} (h : inR k n) (ρ : Nat → Int) : ∀ l ∈ kHi k, n ≤ l.ev ρ := by
  intro l hl
  unfold kHi at hl; split at hl
  · cases hl
  · simp only [List.mem_singleton] at hl; subst hl; rw [Lin.ev_k]; exact h.2
theorem kLo_below (k : IntKind) (n : Nat) : belowL n (kLo k) = true := by cases k <;> rfl
theorem kHi_below (k : IntKind) (n : Nat) : belowL n (kHi k) = true := by cases k <;> rfl
theorem belowL_append {n : Nat} : ∀ {a b : List Lin}, belowL n a = true → belowL n b = true → belowL n (a ++ b) = true
  | [], _, _, h => h
  | _ :: r, b, h, h' => by simp only [belowL, Bool.and_eq_true] at h; simp only [List.cons_append, belowL, Bool.and_eq_true]; exact ⟨h.1, belowL_append h.2 h'⟩
theorem bounds_agree {n : Nat} {ρ ρ' : V} (h : Agree n ρ ρ') {lo hi : List Lin} (h1 : belowL n lo = true) (h2 : belowL n hi = true) {x : Int} (hb : bounds ρ.i lo hi x) : bounds ρ'.i lo hi x :=
  ⟨fun l hl => by rw [lin_agree h (belowL_mem h1 l hl)]; exact hb.1 l hl, fun l hl => by rw [lin_agree h (belowL_mem h2 l hl)]; exact hb.2 l hl⟩

/-- What comes of naming. -/
def Named (P : Program) (ρ : V) (nv : Nat) (st : St) (x : AV) (r : SV × SS) : Prop := ∃ ρ', Agree nv ρ ρ' ∧ nv ≤ r.2.nv ∧ Sat P ρ' r.2 st ∧ R ρ' r.1 x ∧ r.1.bl r.2.nv = true
def NamedS (P : Program) (ρ : V) (nv : Nat) (st : St) (xs : List AV) (r : List SV × SS) : Prop := ∃ ρ', Agree nv ρ ρ' ∧ nv ≤ r.2.nv ∧ Sat P ρ' r.2 st ∧ Rs ρ' r.1 xs ∧ belowS r.2.nv r.1 = true ∧ r.1.length = xs.length
theorem Named.same (h : Sat P ρ ss st) {s : SV} (hb : s.bl ss.nv = true) {x : AV} (hx : R ρ s x) : Named P ρ ss.nv st x (s, ss) := ⟨ρ, Agree.refl _ _, Nat.le_refl _, h, hx, hb⟩

theorem nm_lin {n : Nat} {ρ : V} {z : Pt} {lo hi : List Lin} (h1 : belowL n lo = true) (h2 : belowL n hi = true) (hb : bounds ρ.i lo hi z.i) :
    ∀ f ∈ bnd (.v n) lo hi, f.below (n + 1) = true ∧ 0 ≤ f.ev (ρ.put n z).i := by
  intro f hf
  refine ⟨bnd_below (v_below n) (belowL_mono (Nat.le_succ n) _ h1) (belowL_mono (Nat.le_succ n) _ h2) f hf, bnd_ok ?_ f hf⟩
  rw [Lin.ev_v, put_i]
  exact bounds_agree (put_agree ρ n z) h1 h2 hb

mutual
theorem nm_ok : ∀ (s : SV) {ρ : V} {ss : SS} (_ : Sat P ρ ss st) (_ : s.bl ss.nv = true) {x : AV} (_ : R ρ s x), Named P ρ ss.nv st x (nm s ss)
  | .uint k lo hi, ρ, ss, h, hb, x, hx => by
    simp only [nm]
    split
    · exact .same h hb hx
    · rename_i hk
      simp only [SV.bl, Bool.and_eq_true] at hb
      simp only [R] at hx
      obtain ⟨n, rfl, h1, h2⟩ := hx
      let z : Pt := { i := n }
      have hi' := inR_all (fun e => hk e) h1
      refine ⟨ρ.put ss.nv z, put_agree _ _ _, Nat.le_succ _, h.ext (put_agree _ _ _) (put_ok h.ok _ hi') (Nat.le_succ _) _ [] ?_ (by simp), ?_, v_below _⟩
      · exact nm_lin (z := z) (belowL_append (kLo_below _ _) hb.1) (belowL_append (kHi_below _ _) hb.2)
          ⟨fun l hl => by rcases List.mem_append.1 hl with hl | hl; exact kLo_ok h1 _ l hl; exact h2.1 l hl, fun l hl => by rcases List.mem_append.1 hl with hl | hl; exact kHi_ok h1 _ l hl; exact h2.2 l hl⟩
      · simp only [R, Lin.ev_v, put_i]; exact ⟨rfl, h1⟩
  | .ubool, ρ, ss, h, hb, x, hx => by
    simp only [nm]
    simp only [R] at hx
    obtain ⟨b, rfl⟩ := hx
    let z : Pt := { i := if b then 1 else 0 }
    refine ⟨ρ.put ss.nv z, put_agree _ _ _, Nat.le_succ _, h.ext (put_agree _ _ _) (put_ok h.ok _ (by cases b <;> simp [z])) (Nat.le_succ _) [] [] (by simp) (by simp), ?_, v_below _⟩
    simp only [R, Cond.ev, Lin.ev_v, put_i]; cases b <;> simp [z]
  | .ustr lo hi, ρ, ss, h, hb, x, hx => by
    simp only [nm]
    simp only [SV.bl, Bool.and_eq_true] at hb
    simp only [R] at hx
    obtain ⟨s, rfl, h1, h2⟩ := hx
    let z : Pt := { i := s.size, s := s }
    refine ⟨ρ.put ss.nv z, put_agree _ _ _, Nat.le_succ _, h.ext (put_agree _ _ _) (put_ok h.ok _ (by show _ ∧ _; simp only [LBIG] at h1; simp only [z]; omega)) (Nat.le_succ _) _ [_] ?_ ?_, ?_, ?_⟩
    · exact nm_lin (z := z) (by simp only [belowL, k_below, Bool.true_and]; exact hb.1) (by simp only [belowL, k_below, Bool.true_and]; exact hb.2)
        ⟨fun l hl => by rcases List.mem_cons.1 hl with rfl | hl; (rw [Lin.ev_k]; simp only [z]; omega); exact h2.1 l hl, fun l hl => by rcases List.mem_cons.1 hl with rfl | hl; (rw [Lin.ev_k]; simp only [z]; omega); exact h2.2 l hl⟩
    · intro k hk
      simp only [List.mem_singleton] at hk; subst hk
      refine ⟨by simp [KI.bl, v_below, Nat.blt_eq], ?_⟩
      simp only [KI.ok, Lin.ev_v, put_i, put_s]; exact ⟨rfl, h1⟩
    · simp only [R, put_s]; rfl
    · simp [SV.bl, Nat.blt_eq]
  | .ulist el lo hi, ρ, ss, h, hb, x, hx => by
    simp only [nm]
    simp only [SV.bl, Bool.and_eq_true] at hb
    simp only [R] at hx
    obtain ⟨w, cs, n, rfl, h1, h2, h3, h4⟩ := hx
    let z : Pt := { i := n, l := cs, n := n, o := w }
    refine ⟨ρ.put ss.nv z, put_agree _ _ _, Nat.le_succ _, h.ext (put_agree _ _ _) (put_ok h.ok _ (by show _ ∧ _; simp only [LBIG] at h2; simp only [z]; omega)) (Nat.le_succ _) _ [_, _] ?_ ?_, ?_, ?_⟩
    · exact nm_lin (z := z) (by simp only [belowL, k_below, Bool.true_and]; exact hb.2.1) (by simp only [belowL, k_below, Bool.true_and]; exact hb.2.2)
        ⟨fun l hl => by rcases List.mem_cons.1 hl with rfl | hl; (rw [Lin.ev_k]; simp only [z]; omega); exact h3.1 l hl, fun l hl => by rcases List.mem_cons.1 hl with rfl | hl; (rw [Lin.ev_k]; simp only [z]; omega); exact h3.2 l hl⟩
    · intro k hk
      simp only [List.mem_cons, List.not_mem_nil, or_false] at hk
      rcases hk with rfl | rfl
      · refine ⟨by simp [KI.bl, v_below, Nat.blt_eq], ?_⟩
        simp only [KI.ok, Lin.ev_v, put_i, put_n, put_l]; exact ⟨rfl, h1, h2⟩
      · refine ⟨by simp only [KI.bl, Bool.and_eq_true]; exact ⟨by simp [Nat.blt_eq], belowS_mono (Nat.le_succ _) _ hb.1⟩, ?_⟩
        simp only [KI.ok, put_n, put_l]
        exact fun j hj => Rs_agree (put_agree ρ _ z) hb.1 (h4 j hj)
    · simp only [R, SOwn.den, put_o, put_n, put_l]; rfl
    · simp [SV.bl, SOwn.bl, Nat.blt_eq]
  | .agg cs, ρ, ss, h, hb, x, hx => by
    simp only [nm]
    cases hn : Nat.ble cs.length 20 with
    | false => exact .same h hb hx
    | true =>
      simp only [SV.bl] at hb
      simp only [R] at hx
      obtain ⟨ys, rfl, h1⟩ := hx
      obtain ⟨ρ', h2, h3, h4, h5, h6, _⟩ := nmS_ok cs h hb h1
      rcases hm : nmS cs ss with ⟨cs', ss'⟩
      rw [hm] at h3 h4 h5 h6
      refine ⟨ρ', h2, h3, h4, ?_, h6⟩
      show R ρ' (.agg cs') (.agg ys)
      simp only [R]; exact ⟨ys, rfl, h5⟩
  | .tup cs, ρ, ss, h, hb, x, hx => by
    simp only [nm]
    simp only [SV.bl] at hb
    simp only [R] at hx
    obtain ⟨ys, rfl, h1⟩ := hx
    obtain ⟨ρ', h2, h3, h4, h5, h6, _⟩ := nmS_ok cs h hb h1
    rcases hm : nmS cs ss with ⟨cs', ss'⟩
    rw [hm] at h3 h4 h5 h6
    refine ⟨ρ', h2, h3, h4, ?_, h6⟩
    show R ρ' (.tup cs') (.tup ys)
    simp only [R]; exact ⟨ys, rfl, h5⟩
  | .any, _, _, h, hb, _, hx => .same h hb hx
  | .int .., _, _, h, hb, _, hx => .same h hb hx
  | .bool .., _, _, h, hb, _, hx => .same h hb hx
  | .str .., _, _, h, hb, _, hx => .same h hb hx
  | .val .., _, _, h, hb, _, hx => .same h hb hx
  | .ptr .., _, _, h, hb, _, hx => .same h hb hx
  | .ptrx .., _, _, h, hb, _, hx => .same h hb hx
  | .ptrv .., _, _, h, hb, _, hx => .same h hb hx
  | .lptr .., _, _, h, hb, _, hx => .same h hb hx
  | .lpc .., _, _, h, hb, _, hx => .same h hb hx
  | .list .., _, _, h, hb, _, hx => .same h hb hx
  | .listc .., _, _, h, hb, _, hx => .same h hb hx
  | .ms .., _, _, h, hb, _, hx => .same h hb hx
  | .mx .., _, _, h, hb, _, hx => .same h hb hx
  | .map .., _, _, h, hb, _, hx => .same h hb hx
  | .fn .., _, _, h, hb, _, hx => .same h hb hx
  | .yld .., _, _, h, hb, _, hx => .same h hb hx
  | .born .., _, _, h, hb, _, hx => .same h hb hx
theorem nmS_ok : ∀ (l : List SV) {ρ : V} {ss : SS} (_ : Sat P ρ ss st) (_ : belowS ss.nv l = true) {xs : List AV} (_ : Rs ρ l xs), NamedS P ρ ss.nv st xs (nmS l ss)
  | [], ρ, ss, h, hb, xs, hx => ⟨ρ, Agree.refl _ _, Nat.le_refl _, h, hx, rfl, by simp only [Rs] at hx; subst hx; rfl⟩
  | s :: r, ρ, ss, h, hb, xs, hx => by
    simp only [belowS, Bool.and_eq_true] at hb
    simp only [Rs] at hx
    obtain ⟨y, ys, rfl, h1, h2⟩ := hx
    obtain ⟨ρ1, a1, a2, a3, a4, a5⟩ := nm_ok s h hb.1 h1
    simp only [nmS]
    rcases hn : nm s ss with ⟨s', ss1⟩
    rw [hn] at a2 a3 a4 a5
    obtain ⟨ρ2, b1, b2, b3, b4, b5, b6⟩ := nmS_ok r a3 (belowS_mono a2 _ hb.2) (Rs_agree a1 hb.2 h2)
    rcases hm : nmS r ss1 with ⟨r', ss2⟩
    rw [hm] at b2 b3 b4 b5 b6
    simp only
    refine ⟨ρ2, a1.trans b1 a2, Nat.le_trans a2 b2, b3, ?_, ?_, by simp only [List.length_cons]; exact congrArg (· + 1) b6⟩
    · exact ⟨y, ys, rfl, R_agree b1 a5 a4, b4⟩
    · simp only [belowS, Bool.and_eq_true]; exact ⟨SV.bl_mono b2 _ a5, b5⟩
end

/-! ### learning -/
mutual
def learn (ks : List KI) (s t : SV) : List Lin × List KI := match s with
  | .int _ l => (match t with | .uint _ lo hi => (bnd l lo hi, []) | _ => ([], []))
  | .str s => (match t with
    | .ustr lo hi => (match strOf ks s with | some len => bnd len lo hi | none => [], [])
    | _ => ([], []))
  | .list _ L => (match t with
    | .ulist el lo hi => (match lstOf ks L with | some (_, len) => bnd len lo hi | none => [], [.all L el])
    | _ => ([], []))
  | .agg cs => (match t with | .agg ds => learnS ks cs ds | _ => ([], []))
  | _ => ([], [])
def learnS (ks : List KI) : List SV → List SV → List Lin × List KI
  | a :: r, b :: s => match learn ks a b, learnS ks r s with | (f, k), (f', k') => (f ++ f', k ++ k')
  | _, _ => ([], [])
end
def Learnt (P : Program) (ρ : V) (n : Nat) (r : List Lin × List KI) : Prop := (∀ f ∈ r.1, f.below n = true ∧ 0 ≤ f.ev ρ.i) ∧ ∀ k ∈ r.2, k.bl n = true ∧ k.ok P ρ
theorem Learnt.nil {n : Nat} : Learnt P ρ n ([], []) := ⟨by simp, by simp⟩
mutual
theorem learn_ok (h : Sat P ρ ss st) : ∀ (s t : SV), s.bl ss.nv = true → t.bl ss.nv = true → ∀ x, R ρ s x → R ρ t x → Learnt P ρ ss.nv (learn ss.ks s t)
  | .int k l, t, hb, hb', x, hx, hx' => by
    cases t <;> first | exact .nil | skip
    · rename_i k' lo hi
      simp only [SV.bl, Bool.and_eq_true] at hb hb'
      simp only [R] at hx hx'
      obtain ⟨n, e, _, h2⟩ := hx'
      rw [hx.1] at e; cases e
      exact ⟨fun f hf => ⟨bnd_below hb hb'.1 hb'.2 f hf, bnd_ok h2 f hf⟩, by simp [learn]⟩
  | .str s, t, hb, hb', x, hx, hx' => by
    cases t <;> first | exact .nil | skip
    · rename_i lo hi
      simp only [SV.bl, Bool.and_eq_true] at hb'
      simp only [R] at hx hx'
      obtain ⟨n, e, _, h2⟩ := hx'
      rw [hx] at e; cases e
      simp only [learn]
      cases hs : strOf ss.ks s with
      | none => exact .nil
      | some len =>
        have hk := h.ks _ (strOf_mem hs)
        simp only [KI.bl, Bool.and_eq_true, KI.ok] at hk
        rw [← hk.2.1] at h2
        exact ⟨fun f hf => ⟨bnd_below hk.1.2 hb'.1 hb'.2 f hf, bnd_ok h2 f hf⟩, by simp⟩
  | .list w L, t, hb, hb', x, hx, hx' => by
    cases t <;> first | exact .nil | skip
    · rename_i el lo hi
      simp only [SV.bl, Bool.and_eq_true] at hb hb'
      simp only [R] at hx hx'
      obtain ⟨w', cs, n, e, h1, h2, h3, h4⟩ := hx'
      rw [hx] at e; cases e
      have ka : ∀ k ∈ [KI.all L el], k.bl ss.nv = true ∧ k.ok P ρ := by
        intro k hk; simp only [List.mem_singleton] at hk; subst hk
        exact ⟨by simp only [KI.bl, Bool.and_eq_true]; exact ⟨hb.2, hb'.1⟩, h4⟩
      simp only [learn]
      cases hs : lstOf ss.ks L with
      | none => exact ⟨by simp, ka⟩
      | some q =>
        obtain ⟨sz, len⟩ := q
        have hk := h.ks _ (lstOf_mem hs)
        simp only [KI.bl, Bool.and_eq_true, KI.ok] at hk
        rw [← hk.2.1] at h3
        exact ⟨fun f hf => ⟨bnd_below hk.1.2 hb'.2.1 hb'.2.2 f hf, bnd_ok h3 f hf⟩, ka⟩
  | .agg cs, t, hb, hb', x, hx, hx' => by
    cases t <;> first | exact .nil | skip
    · rename_i ds
      simp only [SV.bl] at hb hb'
      simp only [R] at hx hx'
      obtain ⟨ys, rfl, h1⟩ := hx
      obtain ⟨ys', e, h2⟩ := hx'
      cases e
      exact learnS_ok h cs ds hb hb' ys h1 h2
  | .any, _, _, _, _, _, _ => .nil
  | .ubool, _, _, _, _, _, _ => .nil
  | .uint .., _, _, _, _, _, _ => .nil
  | .bool .., _, _, _, _, _, _ => .nil
  | .ustr .., _, _, _, _, _, _ => .nil
  | .val .., _, _, _, _, _, _ => .nil
  | .ptr .., _, _, _, _, _, _ => .nil
  | .ptrx .., _, _, _, _, _, _ => .nil
  | .ptrv .., _, _, _, _, _, _ => .nil
  | .lptr .., _, _, _, _, _, _ => .nil
  | .lpc .., _, _, _, _, _, _ => .nil
  | .listc .., _, _, _, _, _, _ => .nil
  | .ulist .., _, _, _, _, _, _ => .nil
  | .ms .., _, _, _, _, _, _ => .nil
  | .mx .., _, _, _, _, _, _ => .nil
  | .map .., _, _, _, _, _, _ => .nil
  | .fn .., _, _, _, _, _, _ => .nil
  | .yld .., _, _, _, _, _, _ => .nil
  | .born .., _, _, _, _, _, _ => .nil
  | .tup .., _, _, _, _, _, _ => .nil
theorem learnS_ok (h : Sat P ρ ss st) : ∀ (s t : List SV), belowS ss.nv s = true → belowS ss.nv t = true → ∀ xs, Rs ρ s xs → Rs ρ t xs → Learnt P ρ ss.nv (learnS ss.ks s t)
  | a :: r, b :: s, hb, hb', xs, hx, hx' => by
    simp only [belowS, Bool.and_eq_true] at hb hb'
    simp only [Rs] at hx hx'
    obtain ⟨y, ys, rfl, h1, h2⟩ := hx
    obtain ⟨y', ys', e, h3, h4⟩ := hx'
    cases e
    have A := learn_ok h a b hb.1 hb'.1 y h1 h3
    have B := learnS_ok h r s hb.2 hb'.2 ys h2 h4
    simp only [learnS]
    refine ⟨fun f hf => ?_, fun k hk => ?_⟩
    · rcases List.mem_append.1 hf with hf | hf
      · exact A.1 f hf
      · exact B.1 f hf
    · rcases List.mem_append.1 hk with hk | hk
      · exact A.2 k hk
      · exact B.2 k hk
  | [], t, _, _, _, _, _ => by simp only [learnS]; exact .nil
  | _ :: _, [], _, _, _, _, _ => by simp only [learnS]; exact .nil
end
end
end
end Go.EF.Rk
end

section
namespace Go.EF.Rk
noncomputable section
open Go Go.EF

def fieldsK (P : Program) (f : TypeId → Option (List CK)) : List Field → Nat → Option (List CK)
  | [], _ => some []
  | fd :: r, off => if fd.name = "_" then none else if fd.offset = off then
      match f fd.type with
      | some ks => if tsize P fd.type = some ks.length then (fieldsK P f r (off + ks.length)).map fun rest => ks ++ rest else none
      | none => none
    else none
def flatK (P : Program) : Nat → TypeId → Option (List CK)
  | 0, _ => none
  | d + 1, t => match P.underlying t with
    | some (.int k) => some [.int k]
    | some .bool => some [.bool]
    | some .string => some [.str]
    | some (.struct fs) => if P.stoodInHeld t then none else fieldsK P (flatK P d) fs.toList 0
    | some (.array n e) => match flatK P d e with
      | some ks => if tsize P e = some ks.length then some (rep ks n) else none
      | none => none
    | _ => none
def oneT (P : Program) (t : TypeId) : Bool := match P.underlying t with
  | some (.struct _) | some (.array _ _) => false
  | _ => true

theorem ckVs_length : ∀ {ks : List CK} {vs : List Value}, ckVs ks vs → vs.length = ks.length
  | [], vs, h => by simp only [ckVs] at h; subst h; rfl
  | c :: r, vs, h => by simp only [ckVs] at h; obtain ⟨v, vs', rfl, _, h2⟩ := h; simp [ckVs_length h2]
theorem ckVs_drop : ∀ {ks : List CK} {vs : List Value}, ckVs ks vs → ∀ n, ckVs (ks.drop n) (vs.drop n)
  | ks, vs, h, 0 => h
  | [], vs, h, n + 1 => by simp only [ckVs] at h; subst h; simp [ckVs]
  | c :: r, vs, h, n + 1 => by simp only [ckVs] at h; obtain ⟨v, vs', rfl, _, h2⟩ := h; exact ckVs_drop h2 n
theorem ckVs_take : ∀ {ks : List CK} {vs : List Value}, ckVs ks vs → ∀ n, ckVs (ks.take n) (vs.take n)
  | ks, vs, h, 0 => by simp [ckVs]
  | [], vs, h, n + 1 => by simp only [ckVs] at h; subst h; simp [ckVs]
  | c :: r, vs, h, n + 1 => by simp only [ckVs] at h; obtain ⟨v, vs', rfl, h1, h2⟩ := h; exact ⟨v, _, rfl, h1, ckVs_take h2 n⟩

section
variable {P : Program}

/-- A part of a struct or an array: the cells of a type that is flat. -/
theorem part_flat {t : TypeId} {d : Nat} {ks : List CK} (hf : flatK P d t = some ks) (hs : tsize P t = some ks.length) {xs : Array Value} {off : Nat} (hc : ckVs ks ((xs.toList.drop off).take ks.length)) :
    ∃ v, evSem P (part t xs off) = some v ∧ KeyV (oneT P t) ks v ∧ (∀ c, oneT P t = false → v = .agg c → c.toList = (xs.toList.drop off).take ks.length) ∧ (oneT P t = true → [v] = (xs.toList.drop off).take ks.length) := by
  cases d with
  | zero => cases hf
  | succ d =>
    have agg : (P.underlying t).isSome → oneT P t = false → evSem P (isAgg t) = some true := by
      intro h1 h2
      cases hu : P.underlying t with
      | none => rw [hu] at h1; cases h1
      | some u =>
        unfold isAgg; rw [evSem_bind1 _ _ (evSem_underlying hu)]
        unfold oneT at h2; rw [hu] at h2
        cases u <;> first | rfl | cases h2
    have one : ∀ u, P.underlying t = some u → oneT P t = true → evSem P (isAgg t) = some false := by
      intro u hu h2
      unfold isAgg; rw [evSem_bind1 _ _ (evSem_underlying hu)]
      unfold oneT at h2; rw [hu] at h2
      cases u <;> first | rfl | cases h2
    cases ho : oneT P t with
    | true =>
      have hl : ks.length = 1 ∧ ∃ u, P.underlying t = some u := by
        simp only [flatK] at hf
        unfold oneT at ho
        split at hf <;> first | (cases hf; exact ⟨rfl, _, ‹_›⟩) | (rename_i hu; rw [hu] at ho; cases ho) | cases hf
      obtain ⟨hl, u, hu⟩ := hl
      have hlen := ckVs_length hc
      rw [hl] at hc hlen ⊢
      match ks, hl with
      | [c], _ =>
      simp only [ckVs] at hc
      obtain ⟨v, vs', e, h1, h2⟩ := hc
      subst h2
      have hget : xs[off]? = some v := by
        have : ((xs.toList.drop off).take 1)[0]? = some v := by rw [e]; rfl
        rw [List.getElem?_take, if_pos (by omega), List.getElem?_drop] at this
        simpa using this
      refine ⟨v, ?_, ?_, fun _ h _ => (by cases h), fun _ => e.symm⟩
      · unfold part
        rw [evSem_bind1 _ _ (one u hu ho)]
        simp only [Bool.false_eq_true, if_false, hget]; rfl
      · unfold KeyV; rw [if_pos rfl]; exact ⟨c, rfl, h1⟩
    | false =>
      have hu : (P.underlying t).isSome := by
        simp only [flatK] at hf
        split at hf <;> first | (rename_i hu; rw [hu]; rfl) | cases hf
      have he : (xs.extract off (off + ks.length)).toList = (xs.toList.drop off).take ks.length := extract_list _ _ _
      refine ⟨.agg (xs.extract off (off + ks.length)), ?_, ?_, fun c _ h => by cases h; exact he, fun h => by cases h⟩
      · unfold part
        rw [evSem_bind1 _ _ (agg hu ho)]
        simp only [if_true]
        have hso : evSem P (sizeOf t) = some ks.length := by
          unfold tsize at hs
          cases hi : P.info? t with
          | none => rw [hi] at hs; cases hs
          | some i =>
            rw [hi] at hs; simp only [Option.map_some, Option.some.injEq] at hs
            have h1 : evSem P (typeInfo t) = some i := by
              have e : typeInfo t = Sem.program (fun p => match p.info? t with | some i => pure i | none => stuck "no such type") := rfl
              rw [e]; simp only [evSem, hi]; rfl
            unfold sizeOf; rw [evSem_bind1 _ _ h1, hs]; rfl
        rw [evSem_bind1 _ _ hso]; rfl
      · unfold KeyV; rw [if_neg (by simp)]; exact ⟨_, rfl, by rw [he]; exact hc⟩

def seg {α : Type} (xs : List α) (off n : Nat) : List α := (xs.drop off).take n
theorem seg_app {α : Type} (xs : List α) (off n m : Nat) : seg xs off (n + m) = seg xs off n ++ seg xs (off + n) m := by
  unfold seg; rw [List.take_add, List.drop_drop]

/-- A loop that ends early where something is not so. -/
theorem loop_eq {α : Type} {Q : α → Prop} (F : α → Option Bool × Unit → Sem (ForInStep (Option Bool × Unit))) : ∀ (l : List α), (∀ x ∈ l, ∀ b : Option Bool × Unit, ∃ c : Bool, evSem P (F x b) = some (if c then .yield (none, ()) else .done (some false, ())) ∧ (c = true → Q x)) →
    ∃ r, evSem P (forIn l (none, ()) F) = some r ∧ ((r = (none, ()) ∧ ∀ x ∈ l, Q x) ∨ r = (some false, ()))
  | [], _ => ⟨_, rfl, .inl ⟨rfl, by simp⟩⟩
  | x :: l, h => by
    obtain ⟨c, h1, h2⟩ := h x (List.mem_cons_self ..) (none, ())
    rw [List.forIn_cons, evSem_bind1 _ _ h1]
    cases c with
    | false => exact ⟨_, rfl, .inr rfl⟩
    | true =>
      obtain ⟨r, h3, h4⟩ := loop_eq F l fun y hy => h y (List.mem_cons_of_mem _ hy)
      refine ⟨r, h3, ?_⟩
      rcases h4 with ⟨rfl, h5⟩ | rfl
      · exact .inl ⟨rfl, List.forall_mem_cons.2 ⟨h2 rfl, h5⟩⟩
      · exact .inr rfl

theorem fieldsK_mem {f : TypeId → Option (List CK)} : ∀ {fl : List Field} {off : Nat} {ks : List CK}, fieldsK P f fl off = some ks → ∀ fd ∈ fl, fd.name ≠ "_" ∧ ∃ k, f fd.type = some k ∧ tsize P fd.type = some k.length ∧ off ≤ fd.offset ∧ seg ks (fd.offset - off) k.length = k
  | [], _, _, _, fd, hm => by cases hm
  | x :: r, off, ks, h, fd, hm => by
    simp only [fieldsK] at h
    split at h
    · cases h
    · rename_i hn
      split at h
      · rename_i ho
        split at h
        · rename_i k hk
          split at h
          · rename_i ht
            cases hr : fieldsK P f r (off + k.length) with
            | none => rw [hr] at h; cases h
            | some rest =>
              rw [hr] at h; cases h
              rcases List.mem_cons.1 hm with rfl | hm
              · exact ⟨hn, k, hk, ht, by omega, by rw [show fd.offset - off = 0 by omega]; simp [seg]⟩
              · obtain ⟨q1, k', q2, q3, q4, q5⟩ := fieldsK_mem hr fd hm
                refine ⟨q1, k', q2, q3, by omega, ?_⟩
                have : fd.offset - off = k.length + (fd.offset - (off + k.length)) := by omega
                rw [this]; unfold seg at q5 ⊢
                rw [← List.drop_drop, List.drop_left]; exact q5
          · cases h
        · cases h
      · cases h
theorem fieldsK_seg {f : TypeId → Option (List CK)} {α : Type} {xs ys : List α} : ∀ {fl : List Field} {off : Nat} {ks : List CK}, fieldsK P f fl off = some ks → (∀ fd ∈ fl, ∀ k, f fd.type = some k → seg xs fd.offset k.length = seg ys fd.offset k.length) → seg xs off ks.length = seg ys off ks.length
  | [], _, ks, h, _ => by cases h; simp [seg]
  | x :: r, off, ks, h, hq => by
    simp only [fieldsK] at h
    split at h
    · cases h
    · split at h
      · rename_i ho
        split at h
        · rename_i k hk
          split at h
          · cases hr : fieldsK P f r (off + k.length) with
            | none => rw [hr] at h; cases h
            | some rest =>
              rw [hr] at h; cases h
              rw [List.length_append, seg_app, seg_app, fieldsK_seg hr fun fd hm => hq fd (List.mem_cons_of_mem _ hm)]
              have := hq x (List.mem_cons_self ..) k hk
              rw [ho] at this; rw [this]
          · cases h
        · cases h
      · cases h
theorem ckVs_seg {ks : List CK} {vs : List Value} (h : ckVs ks vs) (off n : Nat) : ckVs (seg ks off n) (seg vs off n) := ckVs_take (ckVs_drop h _) _
theorem rep_seg {α : Type} (k : List α) : ∀ (n i : Nat), i < n → seg (rep k n) (i * k.length) k.length = k
  | n + 1, 0, _ => by simp [seg, rep]
  | n + 1, i + 1, h => by
    unfold seg; simp only [rep]
    rw [show (i + 1) * k.length = k.length + i * k.length by rw [Nat.add_mul]; omega, ← List.drop_drop, List.drop_left]
    exact rep_seg k n i (by omega)
theorem seg_all {α : Type} {xs ys : List α} (m : Nat) : ∀ n, (∀ i, i < n → seg xs (i * m) m = seg ys (i * m) m) → seg xs 0 (n * m) = seg ys 0 (n * m)
  | 0, _ => by simp [seg]
  | n + 1, h => by
    rw [Nat.add_mul, Nat.one_mul, seg_app, seg_app, seg_all m n fun i hi => h i (by omega), Nat.zero_add, h n (by omega)]

theorem key_parts {t : TypeId} {k : List CK} {xs ys : List Value} {off : Nat} {a b : Value} (ha : KeyV (oneT P t) k a) (hb : KeyV (oneT P t) k b) (h1 : ∀ c, oneT P t = false → a = .agg c → c.toList = seg xs off k.length) (h2 : oneT P t = true → [a] = seg xs off k.length)
    (h3 : ∀ c, oneT P t = false → b = .agg c → c.toList = seg ys off k.length) (h4 : oneT P t = true → [b] = seg ys off k.length) (e : a = b) : seg xs off k.length = seg ys off k.length := by
  subst e
  cases ho : oneT P t with
  | true => rw [← h2 ho, ← h4 ho]
  | false =>
    rw [ho] at ha; unfold KeyV at ha; rw [if_neg (by simp)] at ha
    obtain ⟨cs, rfl, _⟩ := ha
    rw [← h1 cs ho rfl, ← h3 cs ho rfl]

theorem ba_eq {a b : ByteArray} (h : (a == b) = true) : a = b := by
  cases a with | mk a => cases b with | mk b =>
  exact congrArg _ (eq_of_beq (h : (a == b) = true))

/-- Equality of flat values answers; where it says so they are the same. -/
theorem eq_flat : ∀ (d : Nat) (t : TypeId) (ks : List CK), flatK P d t = some ks → ∀ D v w, KeyV (oneT P t) ks v → KeyV (oneT P t) ks w → ∃ b, evSem P (Op.equalIn (D + d) t v w) = some b ∧ (b = true → v = w)
  | 0, _, _, h, _, _, _, _, _ => by cases h
  | d + 1, t, ks, h, D, v, w, hv, hw => by
    have h' := h
    simp only [flatK] at h
    show ∃ b, evSem P (Op.equalIn ((D + d) + 1) t v w) = some b ∧ _
    split at h
    · rename_i k hu
      cases h
      unfold KeyV oneT at hv hw; rw [hu] at hv hw
      obtain ⟨c, hc, hv⟩ := hv; cases hc; obtain ⟨n, rfl⟩ := hv
      obtain ⟨c, hc, hw⟩ := hw; cases hc; obtain ⟨m, rfl⟩ := hw
      rw [Op.equalIn, evSem_bind1 _ _ (evSem_underlying hu)]
      refine ⟨n == m, by simp [evSem, pure], fun e => by rw [eq_of_beq e]⟩
    · rename_i hu
      cases h
      unfold KeyV oneT at hv hw; rw [hu] at hv hw
      obtain ⟨c, hc, hv⟩ := hv; cases hc; obtain ⟨n, rfl⟩ := hv
      obtain ⟨c, hc, hw⟩ := hw; cases hc; obtain ⟨m, rfl⟩ := hw
      rw [Op.equalIn, evSem_bind1 _ _ (evSem_underlying hu)]
      refine ⟨n == m, by simp [evSem, pure], fun e => by rw [eq_of_beq e]⟩
    · rename_i hu
      cases h
      unfold KeyV oneT at hv hw; rw [hu] at hv hw
      obtain ⟨c, hc, hv⟩ := hv; cases hc; obtain ⟨n, rfl⟩ := hv
      obtain ⟨c, hc, hw⟩ := hw; cases hc; obtain ⟨m, rfl⟩ := hw
      rw [Op.equalIn, evSem_bind1 _ _ (evSem_underlying hu)]
      refine ⟨n == m, by simp [evSem, pure], fun e => by rw [ba_eq e]⟩
    · rename_i fs hu
      split at h
      · cases h
      · rename_i hs
        have hs : P.stoodInHeld t = false := by simpa using hs
        have ho : oneT P t = false := by unfold oneT; rw [hu]
        rw [ho] at hv hw
        unfold KeyV at hv hw; rw [if_neg (by simp)] at hv hw
        obtain ⟨xs, rfl, hx⟩ := hv
        obtain ⟨ys, rfl, hy⟩ := hw
        rw [Op.equalIn, evSem_bind1 _ _ (evSem_underlying hu)]
        simp only [evSem_program, hs, Bool.false_eq_true, if_false, ← Array.forIn_toList]
        have step : ∀ f ∈ fs.toList, ∀ b : Option Bool × Unit, ∃ c : Bool, evSem P ((fun (f : Field) (_ : Option Bool × Unit) => (if f.name ≠ "_" then do
                let a ← part f.type xs f.offset
                let b ← part f.type ys f.offset
                let c ← Op.equalIn (D + d) f.type a b
                if (!c) = true then pure (ForInStep.done (some false, ())) else pure (ForInStep.yield (none, ()))
              else pure (ForInStep.yield (none, ())) : Sem (ForInStep (Option Bool × Unit)))) f b) = some (if c then .yield (none, ()) else .done (some false, ())) ∧ (c = true → ∀ k, flatK P d f.type = some k → seg xs.toList f.offset k.length = seg ys.toList f.offset k.length) := by
          intro f hm _
          obtain ⟨q1, k, q2, q3, _, q5⟩ := fieldsK_mem h f hm
          rw [Nat.sub_zero] at q5
          have c1 := ckVs_seg hx f.offset k.length; have c2 := ckVs_seg hy f.offset k.length
          rw [q5] at c1 c2
          obtain ⟨a, a1, a2, a3, a4⟩ := part_flat q2 q3 c1
          obtain ⟨b, b1, b2, b3, b4⟩ := part_flat q2 q3 c2
          obtain ⟨c, e1, e2⟩ := eq_flat d f.type k q2 D a b a2 b2
          refine ⟨c, ?_, fun hc k' hk' => ?_⟩
          · simp only [q1, ne_eq, not_false_eq_true, if_true]
            rw [evSem_bind1 _ _ a1, evSem_bind1 _ _ b1, evSem_bind1 _ _ e1]
            cases c <;> rfl
          · rw [q2] at hk'; cases hk'
            exact key_parts a2 b2 a3 a4 b3 b4 (e2 hc)
        obtain ⟨r, r1, r2⟩ := loop_eq _ fs.toList step
        rw [evSem_bind1 _ _ r1]
        rcases r2 with ⟨rfl, r3⟩ | rfl
        · refine ⟨true, rfl, fun _ => ?_⟩
          have := fieldsK_seg h r3
          have l1 := ckVs_length hx; have l2 := ckVs_length hy
          unfold seg at this
          rw [List.drop_zero, List.drop_zero, List.take_of_length_le (by omega), List.take_of_length_le (by omega)] at this
          rw [Array.toList_inj.1 this]
        · exact ⟨false, rfl, fun e => by cases e⟩
    · rename_i n e hu
      split at h
      · rename_i k hk
        split at h
        · rename_i ht
          cases h
          have ho : oneT P t = false := by unfold oneT; rw [hu]
          rw [ho] at hv hw
          unfold KeyV at hv hw; rw [if_neg (by simp)] at hv hw
          obtain ⟨xs, rfl, hx⟩ := hv
          obtain ⟨ys, rfl, hy⟩ := hw
          have hso : evSem P (sizeOf e) = some k.length := by
            unfold tsize at ht
            cases hi : P.info? e with
            | none => rw [hi] at ht; cases ht
            | some i => rw [hi] at ht; simp only [Option.map_some, Option.some.injEq] at ht; rw [evSem_size hi, ht]
          rw [Op.equalIn, evSem_bind1 _ _ (evSem_underlying hu)]
          simp only
          rw [evSem_bind1 _ _ hso]
          simp only [Std.Legacy.Range.forIn_eq_forIn_range']
          have step : ∀ j ∈ List.range' 0 (Std.Legacy.Range.size [0:n]), ∀ b : Option Bool × Unit, ∃ c : Bool, evSem P ((fun (j : Nat) (_ : Option Bool × Unit) => (do
                  let a ← part e xs (j * k.length)
                  let b ← part e ys (j * k.length)
                  let c ← Op.equalIn (D + d) e a b
                  if (!c) = true then pure (ForInStep.done (some false, ())) else pure (ForInStep.yield (none, ())) : Sem (ForInStep (Option Bool × Unit)))) j b) = some (if c then .yield (none, ()) else .done (some false, ())) ∧ (c = true → seg xs.toList (j * k.length) k.length = seg ys.toList (j * k.length) k.length) := by
            intro j hj _
            have hj : j < n := by simp [Std.Legacy.Range.size] at hj; omega
            have c1 := ckVs_seg hx (j * k.length) k.length; have c2 := ckVs_seg hy (j * k.length) k.length
            rw [rep_seg k n j hj] at c1 c2
            obtain ⟨a, a1, a2, a3, a4⟩ := part_flat hk ht c1
            obtain ⟨b, b1, b2, b3, b4⟩ := part_flat hk ht c2
            obtain ⟨c, e1, e2⟩ := eq_flat d e k hk D a b a2 b2
            refine ⟨c, ?_, fun hc => key_parts a2 b2 a3 a4 b3 b4 (e2 hc)⟩
            simp only
            rw [evSem_bind1 _ _ a1, evSem_bind1 _ _ b1, evSem_bind1 _ _ e1]
            cases c <;> rfl
          obtain ⟨r, r1, r2⟩ := loop_eq _ _ step
          rw [evSem_bind1 _ _ r1]
          rcases r2 with ⟨rfl, r3⟩ | rfl
          · refine ⟨true, rfl, fun _ => ?_⟩
            have := seg_all k.length n fun i hi => r3 i (by simp [Std.Legacy.Range.size]; omega)
            have l1 := ckVs_length hx; have l2 := ckVs_length hy
            rw [rep_length] at l1 l2
            unfold seg at this
            rw [List.drop_zero, List.drop_zero, List.take_of_length_le (by omega), List.take_of_length_le (by omega)] at this
            rw [Array.toList_inj.1 this]
          · exact ⟨false, rfl, fun e => by cases e⟩
        · cases h
      · cases h
    · cases h

theorem loop_unit {α : Type} (F : α → Unit → Sem (ForInStep Unit)) : ∀ (l : List α), (∀ x ∈ l, ∀ b : Unit, evSem P (F x b) = some (.yield ())) → evSem P (forIn l () F) = some ()
  | [], _ => rfl
  | x :: l, h => by
    rw [List.forIn_cons, evSem_bind1 _ _ (h x (List.mem_cons_self ..) ())]
    exact loop_unit F l fun y hy => h y (List.mem_cons_of_mem _ hy)

theorem chk_flat : ∀ (d : Nat) (t : TypeId) (ks : List CK), flatK P d t = some ks → ∀ D emp v, KeyV (oneT P t) ks v → evSem P (Instr.checkKey emp (D + d) t v) = some ()
  | 0, _, _, h, _, _, _, _ => by cases h
  | d + 1, t, ks, h, D, emp, v, hv => by
    simp only [flatK] at h
    show evSem P (Instr.checkKey emp ((D + d) + 1) t v) = _
    split at h
    · rename_i k hu
      cases h
      unfold KeyV oneT at hv; rw [hu] at hv
      obtain ⟨c, hc, hv⟩ := hv; cases hc; obtain ⟨n, rfl⟩ := hv
      rw [Instr.checkKey, evSem_bind1 _ _ (evSem_underlying hu)]; rfl
    · rename_i hu
      cases h
      unfold KeyV oneT at hv; rw [hu] at hv
      obtain ⟨c, hc, hv⟩ := hv; cases hc; obtain ⟨n, rfl⟩ := hv
      rw [Instr.checkKey, evSem_bind1 _ _ (evSem_underlying hu)]; rfl
    · rename_i hu
      cases h
      unfold KeyV oneT at hv; rw [hu] at hv
      obtain ⟨c, hc, hv⟩ := hv; cases hc; obtain ⟨n, rfl⟩ := hv
      rw [Instr.checkKey, evSem_bind1 _ _ (evSem_underlying hu)]; rfl
    · rename_i fs hu
      split at h
      · cases h
      · have ho : oneT P t = false := by unfold oneT; rw [hu]
        rw [ho] at hv
        unfold KeyV at hv; rw [if_neg (by simp)] at hv
        obtain ⟨xs, rfl, hx⟩ := hv
        rw [Instr.checkKey, evSem_bind1 _ _ (evSem_underlying hu)]
        simp only [← Array.forIn_toList]
        have step : ∀ f ∈ fs.toList, ∀ b : Unit, evSem P ((fun (f : Field) (_ : Unit) => (if f.name ≠ "_" then do
                let a ← part f.type xs f.offset
                Instr.checkKey emp (D + d) f.type a
                pure (ForInStep.yield ())
              else pure (ForInStep.yield ()) : Sem (ForInStep Unit))) f b) = some (.yield ()) := by
          intro f hm _
          obtain ⟨q1, k, q2, q3, _, q5⟩ := fieldsK_mem h f hm
          rw [Nat.sub_zero] at q5
          have c1 := ckVs_seg hx f.offset k.length
          rw [q5] at c1
          obtain ⟨a, a1, a2, _, _⟩ := part_flat q2 q3 c1
          simp only [q1, ne_eq, not_false_eq_true, if_true]
          rw [evSem_bind1 _ _ a1, evSem_bind1 _ _ (chk_flat d f.type k q2 D emp a a2)]; rfl
        exact (evSem_bind1 _ _ (loop_unit _ fs.toList step)).trans rfl
    · rename_i n e hu
      split at h
      · rename_i k hk
        split at h
        · rename_i ht
          cases h
          have ho : oneT P t = false := by unfold oneT; rw [hu]
          rw [ho] at hv
          unfold KeyV at hv; rw [if_neg (by simp)] at hv
          obtain ⟨xs, rfl, hx⟩ := hv
          have hso : evSem P (sizeOf e) = some k.length := by
            unfold tsize at ht
            cases hi : P.info? e with
            | none => rw [hi] at ht; cases ht
            | some i => rw [hi] at ht; simp only [Option.map_some, Option.some.injEq] at ht; rw [evSem_size hi, ht]
          rw [Instr.checkKey, evSem_bind1 _ _ (evSem_underlying hu)]
          simp only [Std.Legacy.Range.forIn_eq_forIn_range']
          have step : ∀ j ∈ List.range' 0 (Std.Legacy.Range.size [0:n]), ∀ b : Unit, evSem P ((fun (j : Nat) (_ : Unit) => (do
                  let z ← sizeOf e
                  let a ← part e xs (j * z)
                  Instr.checkKey emp (D + d) e a
                  pure (ForInStep.yield ()) : Sem (ForInStep Unit))) j b) = some (.yield ()) := by
            intro j hj _
            have hj : j < n := by simp [Std.Legacy.Range.size] at hj; omega
            have c1 := ckVs_seg hx (j * k.length) k.length
            rw [rep_seg k n j hj] at c1
            obtain ⟨a, a1, a2, _, _⟩ := part_flat hk ht c1
            simp only
            rw [evSem_bind1 _ _ hso, evSem_bind1 _ _ a1, evSem_bind1 _ _ (chk_flat d e k hk D emp a a2)]; rfl
          exact (evSem_bind1 _ _ (loop_unit _ _ step)).trans rfl
        · cases h
      · cases h
    · cases h

theorem ck_bits : ∀ {c : CK} {v : Value}, ckV c v → ∀ n, Instr.sameBits n v v = true
  | .int k, v, h, n => by obtain ⟨m, rfl⟩ := h; unfold Instr.sameBits; simp
  | .bool, v, h, n => by obtain ⟨m, rfl⟩ := h; unfold Instr.sameBits; simp
  | .str, v, h, n => by
    obtain ⟨m, rfl⟩ := h; unfold Instr.sameBits
    cases m with | mk m => exact (beq_self_eq_true m : _)
theorem key_bits {one : Bool} {ks : List CK} {v : Value} (h : KeyV one ks v) : Instr.sameBits 10000 v v = true := by
  unfold KeyV at h
  split at h
  · obtain ⟨c, _, h⟩ := h; exact ck_bits h _
  · obtain ⟨cs, rfl, h⟩ := h
    have : ∀ (ks : List CK) (l : List Value), ckVs ks l → ((l.zip l).all fun (x, y) => Instr.sameBits 9999 x y) = true := by
      intro ks
      induction ks with
      | nil => intro l h; simp only [ckVs] at h; subst h; rfl
      | cons c r ih =>
        intro l h
        simp only [ckVs] at h
        obtain ⟨v, vs, rfl, h1, h2⟩ := h
        simp only [List.zip_cons_cons, List.all_cons, Bool.and_eq_true]
        exact ⟨ck_bits h1 _, ih vs h2⟩
    show (cs.size == cs.size && _) = true
    rw [beq_self_eq_true, Bool.true_and]; exact this ks _ h
theorem keyFlat {t : TypeId} {d : Nat} {ks : List CK} (h : flatK P d t = some ks) (hd : d ≤ 10000) : KeyOK P t (KeyV (oneT P t) ks) := by
  refine ⟨?_, fun emp k hk => ?_, fun k k' hk hk' => ?_⟩
  · cases d with
    | zero => cases h
    | succ d =>
      simp only [flatK] at h
      cases hu : P.underlying t with
      | none => rw [hu] at h; cases h
      | some u => exact ⟨u, evSem_underlying hu⟩
  · have := chk_flat d t ks h (10000 - d) emp k hk
    rwa [Nat.sub_add_cancel hd] at this
  · obtain ⟨b, h1, h2⟩ := eq_flat d t ks h (10000 - d) k k' hk hk'
    rw [Nat.sub_add_cancel hd] at h1
    exact ⟨b, h1, fun e => by rw [h2 e]; exact key_bits hk'⟩
end
end
end Go.EF.Rk
end

section
namespace Go.EF.Rk
noncomputable section
open Go Go.EF

/-! ### operands -/
def isInR (k : IntKind) (n : Int) : Bool := decide (ikLo k ≤ n) && decide (n ≤ ikHi k)
theorem isInR_ok {k : IntKind} {n : Int} (h : isInR k n = true) : inR k n := by simpa [isInR, inR] using h
mutual
def ofAV : AV → SV
  | .v (.int k n) => bif isInR k n then .int k (.k n) else .any
  | .v (.bool b) => .bool (bif b then .tt else .ff)
  | .v x => .val x
  | .list .exact [] 0 => .listc .exact [] 0
  | .fn f [] [] => .fn f [] []
  | .agg cs => .agg (ofAVs cs)
  | .tup cs => .tup (ofAVs cs)
  | _ => .any
def ofAVs : List AV → List SV
  | [] => []
  | x :: r => ofAV x :: ofAVs r
end
mutual
theorem ofAV_ok (ρ : V) : ∀ x : AV, R ρ (ofAV x) x
  | .v x => by
    cases x with
    | int k n =>
      simp only [ofAV]
      cases h : isInR k n with
      | true => simp only [cond_true, R, Lin.ev_k]; exact ⟨trivial, isInR_ok h⟩
      | false => simp only [cond_false, R]
    | bool b => simp only [ofAV]; cases b <;> simp [R, Cond.ev]
    | _ => simp only [ofAV, R]
  | .list own cs n => by
    unfold ofAV
    split <;> first | (rename_i h; cases h; done) | skip
    all_goals first | (simp only [R]; done) | skip
    all_goals first | (rename_i h; cases h; simp only [R, SOwn.den, Rs]; exact ⟨[], rfl, rfl⟩) | skip
  | .fn f a b => by
    unfold ofAV
    split <;> first | (rename_i h; cases h; done) | skip
    all_goals first | (simp only [R]; done) | skip
    all_goals first | (rename_i h; cases h; simp only [R, Rs]; exact ⟨[], [], rfl, rfl, rfl⟩) | skip
  | .agg cs => by simp only [ofAV, R]; exact ⟨cs, rfl, ofAVs_ok ρ cs⟩
  | .tup cs => by simp only [ofAV, R]; exact ⟨cs, rfl, ofAVs_ok ρ cs⟩
  | .junk => by simp only [ofAV, R]
  | .ptr _ _ => by simp only [ofAV, R]
  | .lptr _ _ => by simp only [ofAV, R]
  | .ms _ _ _ _ => by simp only [ofAV, R]
  | .mx _ _ => by simp only [ofAV, R]
  | .map _ => by simp only [ofAV, R]
  | .yld _ => by simp only [ofAV, R]
theorem ofAVs_ok (ρ : V) : ∀ x : List AV, Rs ρ (ofAVs x) x
  | [] => rfl
  | x :: r => ⟨x, r, rfl, ofAV_ok ρ x, ofAVs_ok ρ r⟩
end
mutual
theorem ofAV_bl (n : Nat) : ∀ x : AV, (ofAV x).bl n = true
  | .v x => by
    cases x with
    | int k m => simp only [ofAV]; cases isInR k m <;> rfl
    | bool b => simp only [ofAV]; cases b <;> rfl
    | _ => simp only [ofAV, SV.bl]
  | .list own cs m => by
    unfold ofAV
    split <;> first | rfl | (rename_i h; cases h)
  | .fn f a b => by
    unfold ofAV
    split <;> first | rfl | (rename_i h; cases h)
  | .agg cs => by simp only [ofAV, SV.bl]; exact ofAVs_bl n cs
  | .tup cs => by simp only [ofAV, SV.bl]; exact ofAVs_bl n cs
  | .junk => by simp only [ofAV, SV.bl]
  | .ptr _ _ => by simp only [ofAV, SV.bl]
  | .lptr _ _ => by simp only [ofAV, SV.bl]
  | .ms _ _ _ _ => by simp only [ofAV, SV.bl]
  | .mx _ _ => by simp only [ofAV, SV.bl]
  | .map _ => by simp only [ofAV, SV.bl]
  | .yld _ => by simp only [ofAV, SV.bl]
theorem ofAVs_bl (n : Nat) : ∀ x : List AV, belowS n (ofAVs x) = true
  | [] => rfl
  | x :: r => by simp only [ofAVs, belowS, Bool.and_eq_true]; exact ⟨ofAV_bl n x, ofAVs_bl n r⟩
end

def opS (fr : Fr) : Opd → SV
  | .tmp t => fr.get t
  | .const x => ofAV x
def opsS (fr : Fr) : List Opd → List SV
  | [] => []
  | o :: r => opS fr o :: opsS fr r
section
variable {P : Program} {ρ ρ' : V} {ss : SS} {st : St} {fr : Fr} {frc : Nat → AV}
theorem opS_ok (h : FR ρ fr frc) (o : Opd) : R ρ (opS fr o) (o.ev frc) := by
  cases o with
  | tmp t => exact h t
  | const x => exact ofAV_ok ρ x
theorem opS_bl {n : Nat} (h : fr.bl n = true) (o : Opd) : (opS fr o).bl n = true := by
  cases o with
  | tmp t => exact Fr.bl_get h t
  | const x => exact ofAV_bl n x
theorem opsS_ok (h : FR ρ fr frc) : ∀ os : List Opd, Rs ρ (opsS fr os) (os.map (·.ev frc))
  | [] => rfl
  | o :: r => ⟨_, _, rfl, opS_ok h o, opsS_ok h r⟩
theorem opsS_bl {n : Nat} (h : fr.bl n = true) : ∀ os : List Opd, belowS n (opsS fr os) = true
  | [] => rfl
  | o :: r => by simp only [opsS, belowS, Bool.and_eq_true]; exact ⟨opS_bl h o, opsS_bl h r⟩

/-! ### what comes of an operation -/
abbrev Outs := List (SV × SS)
def Some1 (P : Program) (ρ : V) (nv : Nat) (st : St) (x : AV) (outs : Outs) : Prop := ∃ r ∈ outs, Named P ρ nv st x r
theorem Named.less {n m : Nat} {x : AV} {r : SV × SS} (ha : Agree n ρ ρ') (hn : n ≤ m) (h : Named P ρ' m st x r) : Named P ρ n st x r := by
  obtain ⟨ρ2, h1, h2, h3⟩ := h; exact ⟨ρ2, ha.trans h1 hn, Nat.le_trans hn h2, h3⟩
def fin (s : SV) (ss : SS) : M Outs := pure [nm s ss]
theorem fin_ok {n : Nat} {s : SV} {x : AV} {outs : Outs} {o o' : Orc} (ha : Agree n ρ ρ') (hn : n ≤ ss.nv) (h : Sat P ρ' ss st) (hx : R ρ' s x) (hb : s.bl ss.nv = true) (e : fin s ss o = .ok outs o') : Some1 P ρ n st x outs := by
  have e := ret_ok e; subst e
  exact ⟨_, List.mem_singleton.2 rfl, (nm_ok s h hb hx).less ha hn⟩
theorem fin_here {s : SV} {x : AV} {outs : Outs} {o o' : Orc} (h : Sat P ρ ss st) (hx : R ρ s x) (hb : s.bl ss.nv = true) (e : fin s ss o = .ok outs o') : Some1 P ρ ss.nv st x outs := fin_ok (Agree.refl _ _) (Nat.le_refl _) h hx hb e

/-! ### truth values -/
def mkC : Cond → Cond
  | .ge ⟨c, []⟩ => bif decide (0 ≤ c) then .tt else .ff
  | .eq ⟨c, []⟩ => bif decide (c = 0) then .tt else .ff
  | .ne ⟨c, []⟩ => bif decide (c = 0) then .ff else .tt
  | c => c
theorem mkC_ev (ρ : Nat → Int) (c : Cond) : (mkC c).ev ρ = c.ev ρ := by
  unfold mkC
  split
  · rename_i c
    simp only [Cond.ev, Lin.ev, evT, Int.add_zero]
    cases decide (0 ≤ c) <;> rfl
  · rename_i c
    simp only [Cond.ev, Lin.ev, evT, Int.add_zero]
    cases decide (c = 0) <;> rfl
  · rename_i c
    simp only [Cond.ev, Lin.ev, evT, Int.add_zero]
    cases decide (c = 0) <;> rfl
  · rfl
theorem mkC_bl {n : Nat} {c : Cond} (h : c.bl n = true) : (mkC c).bl n = true := by
  unfold mkC
  split
  · rename_i c; cases decide (0 ≤ c) <;> rfl
  · rename_i c; cases decide (c = 0) <;> rfl
  · rename_i c; cases decide (c = 0) <;> rfl
  · exact h
def Cond.not : Cond → Cond
  | .tt => .ff
  | .ff => .tt
  | .ge l => .ge ((l.mul (-1)).addk (-1))
  | .eq l => .ne l
  | .ne l => .eq l
theorem Cond.not_ev (ρ : Nat → Int) (c : Cond) : c.not.ev ρ = !c.ev ρ := by
  cases c with
  | ge l =>
    simp only [Cond.not, Cond.ev, Lin.ev_addk, Lin.ev_mul]
    by_cases h : 0 ≤ l.ev ρ
    · rw [decide_eq_true h]; exact decide_eq_false (by omega)
    · rw [decide_eq_false h]; exact decide_eq_true (by omega)
  | eq l => rfl
  | ne l => simp [Cond.not, Cond.ev]
  | tt => rfl
  | ff => rfl
theorem Cond.not_bl {n : Nat} {c : Cond} (h : c.bl n = true) : c.not.bl n = true := by
  cases c <;> first | rfl | exact h | exact mul_below _ h

/-- What follows where a condition is met. -/
def fact (fs : List Lin) : Cond → M (List Lin)
  | .ge l => pure [l]
  | .eq l => pure [l, l.mul (-1)]
  | .ne l => do
    let x ← prv fs l
    if x then pure [l.addk (-1)] else do
      let x ← prv fs (l.mul (-1))
      if x then pure [(l.mul (-1)).addk (-1)] else pure []
  | _ => pure []
theorem fact_ok {fs : List Lin} {ks : List KI} (K : Kn P ρ fs ks) {n : Nat} {c : Cond} (hb : c.bl n = true) (hc : c.ev ρ.i = true) {nf : List Lin} {o o' : Orc} (e : fact fs c o = .ok nf o') : ∀ f ∈ nf, f.below n = true ∧ 0 ≤ f.ev ρ.i := by
  cases c with
  | ge l => have e := ret_ok e; subst e; intro f hf; simp only [List.mem_singleton] at hf; subst hf; exact ⟨hb, of_decide_eq_true hc⟩
  | eq l =>
    have e := ret_ok e; subst e
    have hc := of_decide_eq_true hc
    intro f hf; simp only [List.mem_cons, List.not_mem_nil, or_false] at hf
    rcases hf with rfl | rfl
    · exact ⟨hb, by omega⟩
    · exact ⟨mul_below _ hb, by rw [Lin.ev_mul]; omega⟩
  | ne l =>
    have hc : ¬ l.ev ρ.i = 0 := by simpa [Cond.ev] using hc
    simp only [fact] at e
    obtain ⟨x, o1, e1, e2⟩ := bind_ok e
    cases x with
    | true =>
      simp only [if_true] at e2
      have h := prv_ok K e1
      have e2 := ret_ok e2; subst e2
      intro f hf; simp only [List.mem_singleton] at hf; subst hf
      exact ⟨hb, by rw [Lin.ev_addk]; omega⟩
    | false =>
      simp only [Bool.false_eq_true, if_false] at e2
      obtain ⟨x, o2, e3, e4⟩ := bind_ok e2
      cases x with
      | true =>
        simp only [if_true] at e4
        have h := prv_ok K e3
        rw [Lin.ev_mul] at h
        have e4 := ret_ok e4; subst e4
        intro f hf; simp only [List.mem_singleton] at hf; subst hf
        exact ⟨mul_below _ hb, by rw [Lin.ev_addk, Lin.ev_mul]; omega⟩
      | false => have e4 := ret_ok (by simpa using e4); subst e4; simp
  | tt => have e := ret_ok e; subst e; simp
  | ff => have e := ret_ok e; subst e; simp
/-- Implications whose head holds, as facts. -/
def fire (fs : List Lin) : List KI → M (List Lin)
  | [] => pure []
  | .imp a b :: r => do
    let x ← prv fs a
    let l ← fire fs r
    if x then pure (b :: l) else pure l
  | _ :: r => fire fs r
theorem fire_ok {fs : List Lin} {ks0 : List KI} {n : Nat} (K : Kn P ρ fs ks0) : ∀ {ks : List KI} {nf : List Lin} {o o' : Orc}, (∀ k ∈ ks, k.bl n = true ∧ k.ok P ρ) → fire fs ks o = .ok nf o' → ∀ f ∈ nf, f.below n = true ∧ 0 ≤ f.ev ρ.i
  | [], nf, o, o', _, e => by have e := ret_ok e; subst e; simp
  | k :: r, nf, o, o', h, e => by
    have hr := fun x hx => h x (List.mem_cons_of_mem k hx)
    cases k with
    | imp a b =>
      simp only [fire] at e
      obtain ⟨x, o1, e1, e2⟩ := bind_ok e
      obtain ⟨l, o2, e3, e4⟩ := bind_ok e2
      have ih := fire_ok K hr e3
      cases x with
      | true =>
        have e4 := ret_ok (by simpa using e4); subst e4
        have hk := h _ (List.mem_cons_self ..)
        simp only [KI.bl, Bool.and_eq_true, KI.ok] at hk
        exact List.forall_mem_cons.2 ⟨⟨hk.1.2, hk.2 (prv_ok K e1)⟩, ih⟩
      | false => have e4 := ret_ok (by simpa using e4); subst e4; exact ih
    | _ => exact fire_ok K hr e
def asm (c : Cond) (ss : SS) : M SS := do
  let f ← fact ss.fs c
  let g ← fire (f ++ ss.fs) ss.ks
  pure ⟨ss.nv, g ++ (f ++ ss.fs), [] ++ ([] ++ ss.ks), ss.hp⟩
theorem asm_ok (h : Sat P ρ ss st) {c : Cond} (hb : c.bl ss.nv = true) (hc : c.ev ρ.i = true) {ss' : SS} {o o' : Orc} (e : asm c ss o = .ok ss' o') : Sat P ρ ss' st ∧ ss'.nv = ss.nv := by
  obtain ⟨f, o1, e1, e2⟩ := bind_ok e
  obtain ⟨g, o2, e3, e4⟩ := bind_ok e2
  have e4 := ret_ok e4; subst e4
  have h1 := h.ext (Agree.refl _ _) h.ok (Nat.le_refl _) f [] (fact_ok h.kn hb hc e1) (by simp)
  have h2 := fire_ok (n := ss.nv) h1.kn (ks := ss.ks) h.ks e3
  exact ⟨h1.ext (Agree.refl _ _) h.ok (Nat.le_refl _) g [] h2 (by simp), rfl⟩

/-! ### numbers -/
theorem wrap_in (k : IntKind) (n : Int) : inR k (k.wrap n) := by
  cases k <;> simp [inR, ikLo, ikHi, IntKind.wrap, IntKind.bits, IntKind.signed] <;> (try split) <;> omega
theorem wrap_same {k : IntKind} {n : Int} (h : inR k n) : k.wrap n = n := by
  cases k <;> simp [inR, ikLo, ikHi] at h <;> simp [IntKind.wrap, IntKind.bits, IntKind.signed] <;> (try split) <;> omega

def prvIn (fs : List Lin) (k : IntKind) (l : Lin) : M Bool := do
  let x ← prv fs (l.addk (- ikLo k))
  if x then prv fs ((l.mul (-1)).addk (ikHi k)) else pure false
theorem prvIn_ok {fs : List Lin} {ks : List KI} (K : Kn P ρ fs ks) {k : IntKind} {l : Lin} {o o' : Orc} (h : prvIn fs k l o = .ok true o') : inR k (l.ev ρ.i) := by
  obtain ⟨⟨o1, h1⟩, o2, h2⟩ := and_ok h
  have a := prv_ok K h1; have b := prv_ok K h2
  rw [Lin.ev_addk] at a; rw [Lin.ev_addk, Lin.ev_mul] at b
  exact ⟨by omega, by omega⟩
/-- The first power of two, of some, that is not exceeded. -/
def ubs : List Nat := [1, 2, 3, 4, 5, 6, 8, 10, 12, 16, 20, 30, 44]
def ub (fs : List Lin) (l : Lin) : List Nat → M (Option Nat)
  | [] => pure none
  | e :: r => do
    let x ← prv fs ((l.mul (-1)).addk (2 ^ e))
    if x then pure (some e) else ub fs l r
theorem ub_ok {fs : List Lin} {ks : List KI} (K : Kn P ρ fs ks) {l : Lin} : ∀ {es : List Nat} {e : Nat} {o o' : Orc}, ub fs l es o = .ok (some e) o' → l.ev ρ.i ≤ 2 ^ e
  | [], e, o, o', h => absurd (ret_ok h) (by simp)
  | c :: r, e, o, o', h => by
    obtain ⟨x, o1, h1, h2⟩ := bind_ok h
    cases x with
    | true =>
      have h2 := ret_ok (by simpa using h2); cases h2
      have := prv_ok K h1; rw [Lin.ev_addk, Lin.ev_mul] at this; omega
    | false => exact ub_ok K (by simpa using h2)

/-- What is of a kind, but no more is known. -/
def someInt (k : IntKind) : SV := .uint k [] []
theorem someInt_ok {k : IntKind} {n : Int} (h : inR k n) : R ρ (someInt k) (.v (.int k n)) := ⟨n, rfl, h, by simp [bounds]⟩

def isK (l : Lin) : Bool := match l.t with | [] => true | _ => false
theorem isK_ev {l : Lin} (h : isK l = true) (ρ : Nat → Int) : l.ev ρ = l.c := by
  unfold isK at h
  split at h
  · rename_i e; simp [Lin.ev, e, evT]
  · cases h
def linOr (k : IntKind) (l : Lin) (ss : SS) : M (SV × SS) := do
  let x ← prvIn ss.fs k l
  pure (if x then .int k l else someInt k, ss)
def mulS (k : IntKind) (a b : Lin) (ss : SS) : M (SV × SS) :=
  if isK a then linOr k (b.mul a.c) ss
  else if isK b then linOr k (a.mul b.c) ss
  else do
    let x ← prv ss.fs a
    let y ← prv ss.fs b
    if x && y then do
      let p ← ub ss.fs a ubs
      let q ← ub ss.fs b ubs
      pure (bif decide (p.getD 40 + q.getD 40 ≤ 30 ∧ k = .i64) then .uint k [.k 0] [.k (2 ^ (p.getD 40 + q.getD 40))] else someInt k, ss)
    else pure (someInt k, ss)
def quoS (k : IntKind) (a b : Lin) (ss : SS) : M (SV × SS) :=
  if isK b && decide (0 < b.c) then do
    let x ← prv ss.fs a
    if x && !decide (k = .u64) then pure (.int k (.v ss.nv), ⟨ss.nv + 1, [.v ss.nv, a.sub ((Lin.v ss.nv).mul b.c), (((Lin.v ss.nv).mul b.c).sub a).addk (b.c - 1)] ++ ss.fs, [] ++ ss.ks, ss.hp⟩)
    else pure (someInt k, ss)
  else do
    let x ← prv ss.fs (b.addk (-1))
    if x then pure (someInt k, ss) else bad 21
def remS (k : IntKind) (a b : Lin) (ss : SS) : M (SV × SS) :=
  if isK b && decide (0 < b.c) then do
    let x ← prv ss.fs a
    pure (bif x then .uint k [.k 0] [.k (b.c - 1)] else someInt k, ss)
  else do
    let x ← prv ss.fs (b.addk (-1))
    if x then pure (someInt k, ss) else bad 22
def arith (op : BinOp) (k : IntKind) (a b : Lin) (ss : SS) : M (SV × SS) :=
  match op with
  | .add => linOr k (a.add b) ss
  | .sub => linOr k (a.sub b) ss
  | .mul => mulS k a b ss
  | .quo => quoS k a b ss
  | .rem => remS k a b ss
  | .and => do
    let x ← prv ss.fs a
    let y ← prv ss.fs b
    pure (bif x then (bif y then .uint k [.k 0] [a, b] else .uint k [.k 0] [a]) else bif y then .uint k [.k 0] [b] else someInt k, ss)
  | .or => do
    let x ← prv ss.fs a
    let y ← prv ss.fs b
    pure (bif x && y then .uint k [a, b] [] else someInt k, ss)
  | .andNot => do
    let x ← prv ss.fs a
    pure (bif x then .uint k [.k 0] [a] else someInt k, ss)
  | _ => bad 24

theorem ofInt_nonneg {n : Nat} {a : Int} (h0 : 0 ≤ a) (h : a < 2 ^ n) : (BitVec.ofInt n a).toNat = a.toNat := by
  rw [BitVec.toNat_ofInt]
  have : a % ((2 ^ n : Nat) : Int) = a := Int.emod_eq_of_lt h0 (by simpa using h)
  rw [this]
theorem inR_lt {k : IntKind} {n : Int} (h : inR k n) : n < 2 ^ k.bits := by
  cases k <;> simp [inR, ikLo, ikHi] at h <;> simp [IntKind.bits] <;> omega
theorem inR_le {k : IntKind} {n m : Int} (h : inR k n) (h0 : 0 ≤ m) (hm : m ≤ n) : inR k m := by
  cases k <;> simp [inR, ikLo, ikHi] at h ⊢ <;> omega
theorem or_in {k : IntKind} {a b : Int} (ha : inR k a) (hb : inR k b) (h1 : 0 ≤ a) (h2 : 0 ≤ b) : inR k ((a.toNat ||| b.toNat : Nat) : Int) := by
  have key : ∀ m : Nat, a.toNat < 2 ^ m → b.toNat < 2 ^ m → (a.toNat ||| b.toNat) < 2 ^ m := fun m x y => Nat.or_lt_two_pow x y
  cases k <;> simp only [inR, ikLo, ikHi] at ha hb ⊢
  · have := key 7 (by omega) (by omega); omega
  · have := key 15 (by omega) (by omega); omega
  · have := key 31 (by omega) (by omega); omega
  · have := key 63 (by omega) (by omega); omega
  · have := key 8 (by omega) (by omega); omega
  · have := key 16 (by omega) (by omega); omega
  · have := key 32 (by omega) (by omega); omega
  · have := key 64 (by omega) (by omega); omega
theorem bits_and {k : IntKind} {a b : Int} (ha : inR k a) (h1 : 0 ≤ a) : 0 ≤ bitsI k .and a b ∧ bitsI k .and a b ≤ a := by
  have e : ((BitVec.ofInt k.bits a &&& BitVec.ofInt k.bits b).toNat : Int) ≤ a := by
    rw [BitVec.toNat_and, ofInt_nonneg h1 (inR_lt ha)]
    have := @Nat.and_le_left a.toNat (BitVec.ofInt k.bits b).toNat
    omega
  have e0 : (0 : Int) ≤ ((BitVec.ofInt k.bits a &&& BitVec.ofInt k.bits b).toNat : Int) := Int.natCast_nonneg _
  simp only [bitsI]
  rw [wrap_same (inR_le ha e0 e)]; exact ⟨e0, e⟩
theorem bits_and' {k : IntKind} {a b : Int} (hb : inR k b) (h1 : 0 ≤ b) : 0 ≤ bitsI k .and a b ∧ bitsI k .and a b ≤ b := by
  have e : ((BitVec.ofInt k.bits a &&& BitVec.ofInt k.bits b).toNat : Int) ≤ b := by
    rw [BitVec.toNat_and, ofInt_nonneg h1 (inR_lt hb)]
    have := @Nat.and_le_right (BitVec.ofInt k.bits a).toNat b.toNat
    omega
  have e0 : (0 : Int) ≤ ((BitVec.ofInt k.bits a &&& BitVec.ofInt k.bits b).toNat : Int) := Int.natCast_nonneg _
  simp only [bitsI]
  rw [wrap_same (inR_le hb e0 e)]; exact ⟨e0, e⟩
theorem bits_andNot {k : IntKind} {a b : Int} (ha : inR k a) (h1 : 0 ≤ a) : 0 ≤ bitsI k .andNot a b ∧ bitsI k .andNot a b ≤ a := by
  have e : ((BitVec.ofInt k.bits a &&& ~~~ BitVec.ofInt k.bits b).toNat : Int) ≤ a := by
    rw [BitVec.toNat_and, ofInt_nonneg h1 (inR_lt ha)]
    have := @Nat.and_le_left a.toNat (~~~ BitVec.ofInt k.bits b).toNat
    omega
  have e0 : (0 : Int) ≤ ((BitVec.ofInt k.bits a &&& ~~~ BitVec.ofInt k.bits b).toNat : Int) := Int.natCast_nonneg _
  simp only [bitsI]
  rw [wrap_same (inR_le ha e0 e)]; exact ⟨e0, e⟩
theorem bits_or' {k : IntKind} {a b : Int} (ha : inR k a) (hb : inR k b) (h1 : 0 ≤ a) (h2 : 0 ≤ b) : a ≤ bitsI k .or a b ∧ b ≤ bitsI k .or a b := by
  simp only [bitsI]
  rw [BitVec.toNat_or, ofInt_nonneg h1 (inR_lt ha), ofInt_nonneg h2 (inR_lt hb), wrap_same (or_in ha hb h1 h2)]
  have := @Nat.left_le_or a.toNat b.toNat
  have := @Nat.right_le_or a.toNat b.toNat
  omega
theorem bits_in (k : IntKind) (op : BinOp) (a b : Int) : inR k (bitsI k op a b) := wrap_in k _

theorem bounds_k {ρ : Nat → Int} {n : Int} {a b : Int} (h1 : a ≤ n) (h2 : n ≤ b) : bounds ρ [.k a] [.k b] n :=
  ⟨fun l hl => by simp only [List.mem_singleton] at hl; subst hl; rw [Lin.ev_k]; exact h1, fun l hl => by simp only [List.mem_singleton] at hl; subst hl; rw [Lin.ev_k]; exact h2⟩

theorem some_named (h : Sat P ρ ss st) {k : IntKind} {n : Int} (hn : inR k n) : Named P ρ ss.nv st (.v (.int k n)) (someInt k, ss) := .same h rfl (someInt_ok hn)
theorem linOr_ok (h : Sat P ρ ss st) {k : IntKind} {l : Lin} (hl : l.below ss.nv = true) {n : Int} (en : l.ev ρ.i = n) {r : SV × SS} {o o' : Orc} (e : linOr k l ss o = .ok r o') : Named P ρ ss.nv st (.v (.int k (k.wrap n))) r := by
  obtain ⟨x, o1, e1, e2⟩ := bind_ok e
  have e2 := ret_ok e2; subst e2
  cases x with
  | true =>
    have hx := prvIn_ok h.kn e1
    rw [if_pos rfl, ← en, wrap_same hx]; exact .same h (s := .int k l) hl ⟨rfl, hx⟩
  | false => exact some_named h (wrap_in k n)
theorem mulS_ok (h : Sat P ρ ss st) {k : IntKind} {a b : Lin} (ha : a.below ss.nv = true) (hb : b.below ss.nv = true) {r : SV × SS} {o o' : Orc} (e : mulS k a b ss o = .ok r o') : Named P ρ ss.nv st (.v (.int k (k.wrap (a.ev ρ.i * b.ev ρ.i)))) r := by
  have K := h.kn
  unfold mulS at e
  split at e
  · rename_i h1
    exact linOr_ok h (mul_below _ hb) (by rw [Lin.ev_mul, isK_ev h1]) e
  · split at e
    · rename_i h1
      exact linOr_ok h (mul_below _ ha) (by rw [Lin.ev_mul, isK_ev h1 ρ.i, Int.mul_comm]) e
    · obtain ⟨x, o1, e1, e2⟩ := bind_ok e
      obtain ⟨y, o2, e3, e4⟩ := bind_ok e2
      split at e4
      · rename_i hxy
        simp only [Bool.and_eq_true] at hxy
        obtain ⟨rfl, rfl⟩ := hxy
        obtain ⟨p, o3, e5, e6⟩ := bind_ok e4
        obtain ⟨q, o4, e7, e8⟩ := bind_ok e6
        have e8 := ret_ok e8; subst e8
        cases hd : decide (p.getD 40 + q.getD 40 ≤ 30 ∧ k = .i64) with
        | false => exact some_named h (wrap_in k _)
        | true =>
          obtain ⟨hpq, rfl⟩ := of_decide_eq_true hd
          cases p with
          | none => simp at hpq; omega
          | some p =>
            cases q with
            | none => simp at hpq
            | some q =>
              simp only [Option.getD_some] at hpq ⊢
              have a0 := prv_ok K e1; have b0 := prv_ok K e3
              have a1 := ub_ok K e5; have b1 := ub_ok K e7
              have p0 : (0 : Int) ≤ a.ev ρ.i * b.ev ρ.i := Int.mul_nonneg a0 b0
              have p1 : a.ev ρ.i * b.ev ρ.i ≤ 2 ^ (p + q) := by
                rw [Int.pow_add]
                exact Int.mul_le_mul a1 b1 b0 (Int.le_of_lt (Int.pow_pos (by omega)))
              have p2 : (2 : Int) ^ (p + q) ≤ 2 ^ 30 := by
                have := Nat.pow_le_pow_right (n := 2) (by omega) hpq
                exact_mod_cast this
              have hin : inR .i64 (a.ev ρ.i * b.ev ρ.i) := by simp only [inR, ikLo, ikHi]; omega
              rw [wrap_same hin]
              exact .same h (s := .uint .i64 _ _) rfl ⟨_, rfl, hin, bounds_k p0 p1⟩
      · have e4 := ret_ok e4; subst e4; exact some_named h (wrap_in k _)

theorem quoS_ok (h : Sat P ρ ss st) {k : IntKind} {a b : Lin} (t : TypeId) (ha : a.below ss.nv = true) (ra : inR k (a.ev ρ.i)) {r : SV × SS} {o o' : Orc} (e : quoS k a b ss o = .ok r o') :
    ∃ x, binV P .quo t (.v (.int k (a.ev ρ.i))) (.v (.int k (b.ev ρ.i))) = some x ∧ Named P ρ ss.nv st x r := by
  have K := h.kn
  unfold quoS at e
  split at e
  · rename_i h1
    simp only [Bool.and_eq_true, decide_eq_true_eq] at h1
    obtain ⟨h1, hc⟩ := h1
    have eb := isK_ev h1 ρ.i
    refine ⟨_, bin_quo P t k _ _ (by omega), ?_⟩
    obtain ⟨x, o1, e1, e2⟩ := bind_ok e
    split at e2
    · rename_i hx
      simp only [Bool.and_eq_true, Bool.not_eq_true', decide_eq_false_iff_not] at hx
      obtain ⟨rfl, hk⟩ := hx
      have e2 := ret_ok e2; subst e2
      have a0 := prv_ok K e1
      have q0 : 0 ≤ (a.ev ρ.i).tdiv (b.ev ρ.i) := Int.tdiv_nonneg a0 (by omega)
      have eq1 : (a.ev ρ.i).tdiv (b.ev ρ.i) = a.ev ρ.i / b.ev ρ.i := Int.tdiv_eq_ediv_of_nonneg a0
      have q1 : (a.ev ρ.i).tdiv (b.ev ρ.i) ≤ a.ev ρ.i := by rw [eq1]; exact Int.ediv_le_self _ a0
      have q2 : b.c * (a.ev ρ.i).tdiv (b.ev ρ.i) ≤ a.ev ρ.i := by
        rw [eq1, eb]; have := Int.mul_ediv_add_emod (a.ev ρ.i) b.c; have := Int.emod_nonneg (a.ev ρ.i) (show b.c ≠ 0 by omega)
        omega
      have q3 : a.ev ρ.i ≤ b.c * (a.ev ρ.i).tdiv (b.ev ρ.i) + (b.c - 1) := by
        rw [eq1, eb]; have := Int.mul_ediv_add_emod (a.ev ρ.i) b.c; have := Int.emod_lt_of_pos (a.ev ρ.i) hc
        omega
      have hin : inR k ((a.ev ρ.i).tdiv (b.ev ρ.i)) := inR_le ra q0 q1
      rw [wrap_same hin]
      let z : Pt := { i := (a.ev ρ.i).tdiv (b.ev ρ.i) }
      refine ⟨ρ.put ss.nv z, put_agree _ _ _, Nat.le_succ _, h.ext (put_agree _ _ _) (put_ok h.ok _ (inR_all hk hin)) (Nat.le_succ _) [_, _, _] [] ?_ (by simp), ?_, v_below _⟩
      · have hv : (ρ.put ss.nv z).i ss.nv = (a.ev ρ.i).tdiv (b.ev ρ.i) := put_i _ _ _
        have hva : a.ev (ρ.put ss.nv z).i = a.ev ρ.i := lin_agree (put_agree _ _ _) ha
        have ha' := Lin.below_mono (Nat.le_succ _) ha
        intro f hf
        simp only [List.mem_cons, List.not_mem_nil, or_false] at hf
        rcases hf with rfl | rfl | rfl
        · exact ⟨v_below _, by rw [Lin.ev_v, hv]; exact q0⟩
        · exact ⟨sub_below ha' (mul_below _ (v_below _)), by rw [Lin.ev_sub, Lin.ev_mul, Lin.ev_v, hv, hva]; omega⟩
        · exact ⟨addk_below _ (sub_below (mul_below _ (v_below _)) ha'), by rw [Lin.ev_addk, Lin.ev_sub, Lin.ev_mul, Lin.ev_v, hv, hva]; omega⟩
      · simp only [R, Lin.ev_v, put_i]; exact ⟨rfl, hin⟩
    · have e2 := ret_ok e2; subst e2; exact some_named h (wrap_in k _)
  · obtain ⟨x, o1, e1, e2⟩ := bind_ok e
    cases x with
    | false => exact (bad_ok (by simpa using e2)).elim
    | true =>
      have b0 := prv_ok K e1; rw [Lin.ev_addk] at b0
      have e2 := ret_ok (by simpa using e2); subst e2
      exact ⟨_, bin_quo P t k _ _ (by omega), some_named h (wrap_in k _)⟩
theorem emod_le' {a b : Int} (h : 0 ≤ a) (hb : 1 ≤ b) : a % b ≤ a := by
  have := Int.mul_ediv_add_emod a b
  have := Int.mul_nonneg (show 0 ≤ b by omega) (Int.ediv_nonneg h (show 0 ≤ b by omega))
  omega
theorem tmod_in {k : IntKind} {a b : Int} (ha : inR k a) (hb : 1 ≤ b) : inR k (a.tmod b) := by
  by_cases h : 0 ≤ a
  · have : a.tmod b = a % b := Int.tmod_eq_emod_of_nonneg h
    rw [this]
    have h1 := Int.emod_nonneg a (show b ≠ 0 by omega)
    have h2 : a % b ≤ a := emod_le' h hb
    exact inR_le ha h1 h2
  · have e : a.tmod b = - ((-a).tmod b) := by rw [Int.neg_tmod]; omega
    have : (-a).tmod b = (-a) % b := Int.tmod_eq_emod_of_nonneg (by omega)
    have h1 := Int.emod_nonneg (-a) (show b ≠ 0 by omega)
    have h2 : (-a) % b ≤ -a := emod_le' (by omega) hb
    rw [e, this]
    cases k <;> simp [inR, ikLo, ikHi] at ha ⊢ <;> omega
theorem remS_ok (h : Sat P ρ ss st) {k : IntKind} {a b : Lin} (t : TypeId) (ra : inR k (a.ev ρ.i)) {r : SV × SS} {o o' : Orc} (e : remS k a b ss o = .ok r o') :
    ∃ x, binV P .rem t (.v (.int k (a.ev ρ.i))) (.v (.int k (b.ev ρ.i))) = some x ∧ Named P ρ ss.nv st x r := by
  have K := h.kn
  unfold remS at e
  split at e
  · rename_i h1
    simp only [Bool.and_eq_true, decide_eq_true_eq] at h1
    obtain ⟨h1, hc⟩ := h1
    have eb := isK_ev h1 ρ.i
    have hin : inR k ((a.ev ρ.i).tmod (b.ev ρ.i)) := tmod_in ra (by omega)
    refine ⟨_, bin_rem P t k _ _ (by omega), ?_⟩
    obtain ⟨x, o1, e1, e2⟩ := bind_ok e
    have e2 := ret_ok e2; subst e2
    cases x with
    | false => exact some_named h hin
    | true =>
      have a0 := prv_ok K e1
      have em : (a.ev ρ.i).tmod (b.ev ρ.i) = a.ev ρ.i % b.ev ρ.i := Int.tmod_eq_emod_of_nonneg a0
      have h2 := Int.emod_nonneg (a.ev ρ.i) (show b.ev ρ.i ≠ 0 by omega)
      have h3 := Int.emod_lt_of_pos (a.ev ρ.i) (show 0 < b.ev ρ.i by omega)
      exact .same h (s := .uint k _ _) rfl ⟨_, rfl, hin, bounds_k (by omega) (by omega)⟩
  · obtain ⟨x, o1, e1, e2⟩ := bind_ok e
    cases x with
    | false => exact (bad_ok (by simpa using e2)).elim
    | true =>
      have b0 := prv_ok K e1; rw [Lin.ev_addk] at b0
      have e2 := ret_ok (by simpa using e2); subst e2
      exact ⟨_, bin_rem P t k _ _ (by omega), some_named h (tmod_in ra (by omega))⟩

theorem arith_ok (h : Sat P ρ ss st) {op : BinOp} {k : IntKind} {a b : Lin} (t : TypeId) (ha : a.below ss.nv = true) (hb : b.below ss.nv = true) (ra : inR k (a.ev ρ.i)) (rb : inR k (b.ev ρ.i)) {r : SV × SS} {o o' : Orc} (e : arith op k a b ss o = .ok r o') :
    ∃ x, binV P op t (.v (.int k (a.ev ρ.i))) (.v (.int k (b.ev ρ.i))) = some x ∧ Named P ρ ss.nv st x r := by
  have K := h.kn
  have more : ∀ {n : Int} {lo hi : List Lin}, inR k n → bounds ρ.i lo hi n → belowL ss.nv lo = true → belowL ss.nv hi = true → Named P ρ ss.nv st (.v (.int k n)) (.uint k lo hi, ss) := by
    intro n lo hi h1 h2 h3 h4
    exact .same h (by simp only [SV.bl, Bool.and_eq_true]; exact ⟨h3, h4⟩) ⟨n, rfl, h1, h2⟩
  have b1 : ∀ {x : Lin}, x.below ss.nv = true → belowL ss.nv [x] = true := fun h => by simp only [belowL, h, Bool.and_true]
  have m1 : ∀ {x : Int} {l m : Lin}, m ∈ [l] → m = l := fun h => List.mem_singleton.1 h
  cases op <;> simp only [arith] at e <;> first | exact (bad_ok e).elim | skip
  · exact ⟨_, bin_add P t k _ _, linOr_ok h (add_below ha hb) (Lin.ev_add _ _ _) e⟩
  · exact ⟨_, bin_sub P t k _ _, linOr_ok h (sub_below ha hb) (Lin.ev_sub _ _ _) e⟩
  · exact ⟨_, bin_mul P t k _ _, mulS_ok h ha hb e⟩
  · exact quoS_ok h t ha ra e
  · exact remS_ok h t ra e
  · obtain ⟨x, o1, e1, e2⟩ := bind_ok e
    obtain ⟨y, o2, e3, e4⟩ := bind_ok e2
    have e4 := ret_ok e4; subst e4
    refine ⟨_, bin_and P t k _ _, ?_⟩
    cases x with
    | true =>
      have A := bits_and (k := k) (b := b.ev ρ.i) ra (prv_ok K e1)
      cases y with
      | true =>
        have B := bits_and' (k := k) (a := a.ev ρ.i) rb (prv_ok K e3)
        exact more (bits_in _ _ _ _) ⟨fun l hl => by rw [List.mem_singleton.1 hl, Lin.ev_k]; exact A.1, fun l hl => by
          rcases List.mem_cons.1 hl with rfl | hl
          · exact A.2
          · rw [List.mem_singleton.1 hl]; exact B.2⟩ rfl (by simp only [belowL, ha, hb, Bool.and_true])
      | false => exact more (bits_in _ _ _ _) ⟨fun l hl => by rw [List.mem_singleton.1 hl, Lin.ev_k]; exact A.1, fun l hl => by rw [List.mem_singleton.1 hl]; exact A.2⟩ rfl (b1 ha)
    | false =>
      cases y with
      | true =>
        have B := bits_and' (k := k) (a := a.ev ρ.i) rb (prv_ok K e3)
        exact more (bits_in _ _ _ _) ⟨fun l hl => by rw [List.mem_singleton.1 hl, Lin.ev_k]; exact B.1, fun l hl => by rw [List.mem_singleton.1 hl]; exact B.2⟩ rfl (b1 hb)
      | false => exact some_named h (bits_in _ _ _ _)
  · obtain ⟨x, o1, e1, e2⟩ := bind_ok e
    obtain ⟨y, o2, e3, e4⟩ := bind_ok e2
    have e4 := ret_ok e4; subst e4
    refine ⟨_, bin_or P t k _ _, ?_⟩
    cases hxy : (x && y) with
    | true =>
      simp only [Bool.and_eq_true] at hxy
      obtain ⟨rfl, rfl⟩ := hxy
      have A := bits_or' ra rb (prv_ok K e1) (prv_ok K e3)
      exact more (bits_in _ _ _ _) ⟨fun l hl => by
        rcases List.mem_cons.1 hl with rfl | hl
        · exact A.1
        · rw [List.mem_singleton.1 hl]; exact A.2, by simp⟩ (by simp only [belowL, ha, hb, Bool.and_true]) rfl
    | false => exact some_named h (bits_in _ _ _ _)
  · obtain ⟨x, o1, e1, e2⟩ := bind_ok e
    have e2 := ret_ok e2; subst e2
    refine ⟨_, bin_andNot P t k _ _, ?_⟩
    cases x with
    | true =>
      have A := bits_andNot (k := k) (b := b.ev ρ.i) ra (prv_ok K e1)
      exact more (bits_in _ _ _ _) ⟨fun l hl => by rw [List.mem_singleton.1 hl, Lin.ev_k]; exact A.1, fun l hl => by rw [List.mem_singleton.1 hl]; exact A.2⟩ rfl (b1 ha)
    | false => exact some_named h (bits_in _ _ _ _)
end
end
end Go.EF.Rk
end

section
namespace Go.EF.Rk
noncomputable section
open Go Go.EF

def kindOf : SV → Option CK
  | .int k _ | .uint k _ _ => some (.int k)
  | .bool _ | .ubool => some .bool
  | .str _ | .ustr _ _ | .val (.string _) => some .str
  | _ => none
def kindsOf : List SV → Option (List CK)
  | [] => some []
  | s :: r => match kindOf s, kindsOf r with
    | some k, some ks => some (k :: ks)
    | _, _ => none
def strLen (ks : List KI) : SV → Option Lin
  | .str s => strOf ks s
  | .val (.string b) => bif decide (b.size ≤ LBIG) then some (.k b.size) else none
  | _ => none

/-- The first of some numbers that is not exceeded. -/
def ubc (fs : List Lin) (l : Lin) : List Nat → M (Option Nat)
  | [] => pure none
  | e :: r => do
    let x ← prv fs ((l.mul (-1)).addk e)
    if x then pure (some e) else ubc fs l r
def ubcs : List Nat := [0, 1, 2, 3, 4, 5, 6, 7, 8, 10, 12, 16, 20, 30, 40]

def shlS (k : IntKind) (a b : Lin) (ss : SS) : M (SV × SS) := do
  let x ← prv ss.fs b
  if x then
    if a = .k 1 ∧ k = .i64 then do
      let c ← ubc ss.fs b ubcs
      pure (match c with | some c => .uint k [.k 1] [.k (2 ^ (c % 62))] | none => someInt k, ss)
    else pure (someInt k, ss)
  else bad 30
def shrS (k : IntKind) (a b : Lin) (ss : SS) : M (SV × SS) := do
  let x ← prv ss.fs b
  if x then do
    let y ← prv ss.fs a
    pure (bif y then .uint k [.k 0] [a] else someInt k, ss)
  else bad 31
def cmpC (op : BinOp) (a b : Lin) : Option Cond :=
  match op with
  | .lss => some (.ge ((b.sub a).addk (-1)))
  | .leq => some (.ge (b.sub a))
  | .gtr => some (.ge ((a.sub b).addk (-1)))
  | .geq => some (.ge (a.sub b))
  | .eql => some (.eq (a.sub b))
  | .neq => some (.ne (a.sub b))
  | _ => none
def isCmp : BinOp → Bool
  | .lss | .leq | .gtr | .geq | .eql | .neq => true
  | _ => false
def isEq : BinOp → Bool
  | .eql | .neq => true
  | _ => false

def intBin (op : BinOp) (k : IntKind) (a : Lin) (k' : IntKind) (b : Lin) (ss : SS) : M (SV × SS) :=
  match op with
  | .shl => shlS k a b ss
  | .shr => shrS k a b ss
  | .xor => if k = k' then pure (someInt k, ss) else bad 32
  | op => if k = k' then (match cmpC op a b with
    | some c => pure (.bool (mkC c), ss)
    | none => arith op k a b ss) else bad 33
def sameStr : SV → SV → Bool
  | .str s, .str t => Nat.beq s t
  | _, _ => false
def eqRes (op : BinOp) (a b : SV) : Option Bool := match op with
  | .eql => bif sameStr a b then some true else none
  | .neq => bif sameStr a b then some false else none
  | _ => none
def strBin (op : BinOp) (a b : SV) (ss : SS) : M (SV × SS) :=
  match eqRes op a b with
  | some v => pure (.bool (bif v then .tt else .ff), ss)
  | none =>
  if isCmp op then pure (.ubool, ss)
  else match op, strLen ss.ks a, strLen ss.ks b with
    | .add, some x, some y => do
      let z ← prv ss.fs (((x.add y).mul (-1)).addk LBIG)
      if z then pure (.ustr [x.add y] [x.add y], ss) else bad 34
    | _, _, _ => bad 35
def aggOK (P : Program) (op : BinOp) (t : TypeId) (cs ds : List SV) : Bool :=
  isEq op && !P.eqGuardType P.depth t && !oneT P t && (match flatK P 8 t with | some ks => decide (kindsOf cs = some ks) && decide (kindsOf ds = some ks) | none => false)
def aggBin (P : Program) (op : BinOp) (t : TypeId) (cs ds : List SV) (ss : SS) : M (SV × SS) :=
  if aggOK P op t cs ds then pure (.ubool, ss) else bad 36
def binS (P : Program) (op : BinOp) (t : TypeId) (a b : SV) (ss : SS) : M (SV × SS) :=
  match a, b with
  | .int k x, .int k' y => intBin op k x k' y ss
  | .bool _, .bool _ => if isEq op && (oneT P t && decide (flatK P 8 t = some [.bool])) then pure (.ubool, ss) else bad 37
  | .agg cs, .agg ds => aggBin P op t cs ds ss
  | a, b => match kindOf a, kindOf b with
    | some .str, some .str => strBin op a b ss
    | some .bool, some .bool => if isEq op && (oneT P t && decide (flatK P 8 t = some [.bool])) then pure (.ubool, ss) else bad 37
    | _, _ => bad 38

def unS (op : UnOp) (a : SV) (ss : SS) : M (SV × SS) :=
  match op, a with
  | .not, .bool c => pure (.bool c.not, ss)
  | .not, .ubool => pure (.ubool, ss)
  | .neg, .int k l => linOr k (l.mul (-1)) ss
  | .xor, .int k _ => pure (someInt k, ss)
  | _, _ => bad 39
def convS (k : IntKind) (a : SV) (ss : SS) : M (SV × SS) :=
  match a with
  | .int _ l => linOr k l ss
  | .uint _ _ _ => pure (someInt k, ss)
  | _ => bad 40

section
variable {P : Program} {ρ : V} {ss : SS} {st : St}

theorem ubc_ok {fs : List Lin} {ks : List KI} (K : Kn P ρ fs ks) {l : Lin} : ∀ {es : List Nat} {e : Nat} {o o' : Orc}, ubc fs l es o = .ok (some e) o' → e ∈ es ∧ l.ev ρ.i ≤ e
  | [], e, o, o', h => absurd (ret_ok h) (by simp)
  | c :: r, e, o, o', h => by
    obtain ⟨x, o1, h1, h2⟩ := bind_ok h
    cases x with
    | true =>
      have h2 := ret_ok (by simpa using h2); cases h2
      have := prv_ok K h1; rw [Lin.ev_addk, Lin.ev_mul] at this; exact ⟨List.mem_cons_self .., by omega⟩
    | false => have := ubc_ok K (l := l) (es := r) (e := e) (by simpa using h2); exact ⟨List.mem_cons_of_mem _ this.1, this.2⟩

theorem shlS_ok (h : Sat P ρ ss st) {k k' : IntKind} {a b : Lin} (t : TypeId) {r : SV × SS} {o o' : Orc} (e : shlS k a b ss o = .ok r o') :
    ∃ x, binV P .shl t (.v (.int k (a.ev ρ.i))) (.v (.int k' (b.ev ρ.i))) = some x ∧ Named P ρ ss.nv st x r := by
  have K := h.kn
  obtain ⟨x, o1, e1, e2⟩ := bind_ok e
  cases x with
  | false => exact (bad_ok (by simpa using e2)).elim
  | true =>
    have b0 := prv_ok K e1
    refine ⟨_, bin_shl P t k _ _ b0, ?_⟩
    simp only [if_true] at e2
    split at e2
    · rename_i hk
      obtain ⟨rfl, rfl⟩ := hk
      obtain ⟨c, o2, e3, e4⟩ := bind_ok e2
      have e4 := ret_ok e4; subst e4
      cases c with
      | none => exact some_named h (wrap_in _ _)
      | some c =>
        obtain ⟨hm, hc⟩ := ubc_ok K e3
        have hc40 : c ≤ 40 := by simp only [ubcs, List.mem_cons, List.not_mem_nil, or_false] at hm; omega
        have hmod : c % 62 = c := Nat.mod_eq_of_lt (by omega)
        have hmin : min (b.ev ρ.i).toNat IntKind.i64.bits = (b.ev ρ.i).toNat := by simp [IntKind.bits]; omega
        have p1 : (1 : Int) ≤ 2 ^ (b.ev ρ.i).toNat := Int.pow_pos (by omega)
        have p2 : (2 : Int) ^ (b.ev ρ.i).toNat ≤ 2 ^ c := by
          have := Nat.pow_le_pow_right (n := 2) (by omega) (show (b.ev ρ.i).toNat ≤ c by omega)
          exact_mod_cast this
        have p3 : (2 : Int) ^ c ≤ 2 ^ 40 := by
          have := Nat.pow_le_pow_right (n := 2) (by omega) hc40
          exact_mod_cast this
        have hin : inR .i64 (2 ^ (b.ev ρ.i).toNat) := by simp only [inR, ikLo, ikHi]; omega
        rw [hmin, Lin.ev_k, Int.one_mul, wrap_same hin]
        exact .same h (s := .uint .i64 _ _) rfl ⟨_, rfl, hin, bounds_k p1 (by rw [hmod]; exact p2)⟩
    · have e2 := ret_ok e2; subst e2; exact some_named h (wrap_in _ _)
theorem shr_in {k : IntKind} {a : Int} (h : inR k a) (m : Nat) : inR k (a.fdiv (2 ^ m)) ∧ (0 ≤ a → 0 ≤ a.fdiv (2 ^ m) ∧ a.fdiv (2 ^ m) ≤ a) := by
  have hp : (1 : Int) ≤ 2 ^ m := Int.pow_pos (by omega)
  rw [Int.fdiv_eq_ediv_of_nonneg _ (by omega)]
  by_cases h0 : 0 ≤ a
  · have h1 := Int.ediv_nonneg h0 (show (0 : Int) ≤ 2 ^ m by omega)
    have h2 : a / 2 ^ m ≤ a := Int.ediv_le_self _ h0
    exact ⟨inR_le h h1 h2, fun _ => ⟨h1, h2⟩⟩
  · have h1 : a / 2 ^ m < 0 := Int.ediv_neg_of_neg_of_pos (by omega) (by omega)
    have h2 : a ≤ a / 2 ^ m := by
      refine Int.le_ediv_of_mul_le (by omega) ?_
      have := Int.mul_le_mul_of_nonpos_left (a := a) (show a ≤ 0 by omega) hp
      omega
    refine ⟨?_, fun h => absurd h h0⟩
    cases k <;> simp [inR, ikLo, ikHi] at h ⊢ <;> omega
theorem shrS_ok (h : Sat P ρ ss st) {k k' : IntKind} {a b : Lin} (t : TypeId) (ha : a.below ss.nv = true) (ra : inR k (a.ev ρ.i)) {r : SV × SS} {o o' : Orc} (e : shrS k a b ss o = .ok r o') :
    ∃ x, binV P .shr t (.v (.int k (a.ev ρ.i))) (.v (.int k' (b.ev ρ.i))) = some x ∧ Named P ρ ss.nv st x r := by
  have K := h.kn
  obtain ⟨x, o1, e1, e2⟩ := bind_ok e
  cases x with
  | false => exact (bad_ok (by simpa using e2)).elim
  | true =>
    have b0 := prv_ok K e1
    refine ⟨_, bin_shr P t k _ _ b0, ?_⟩
    simp only [if_true] at e2
    obtain ⟨y, o2, e3, e4⟩ := bind_ok e2
    have e4 := ret_ok e4; subst e4
    have A := shr_in ra (min (b.ev ρ.i).toNat k.bits)
    cases y with
    | true =>
      have A2 := A.2 (prv_ok K e3)
      exact .same h (s := .uint k _ _) (by simp only [SV.bl, belowL, ha, k_below, Bool.and_true]) ⟨_, rfl, A.1, fun l hl => by rw [List.mem_singleton.1 hl, Lin.ev_k]; exact A2.1, fun l hl => by rw [List.mem_singleton.1 hl]; exact A2.2⟩
    | false => exact some_named h A.1

theorem cmpC_ok {op : BinOp} {a b : Lin} {c : Cond} (e : cmpC op a b = some c) (t : TypeId) (k : IntKind) (ρ : Nat → Int) : binV P op t (.v (.int k (a.ev ρ))) (.v (.int k (b.ev ρ))) = some (.bool (c.ev ρ)) := by
  cases op <;> simp only [cmpC, Option.some.injEq, reduceCtorEq] at e <;> subst e
  · rw [bin_eql]; have : (a.ev ρ == b.ev ρ) = decide (a.ev ρ - b.ev ρ = 0) := by rw [Bool.eq_iff_iff, beq_iff_eq, decide_eq_true_eq]; omega
    simp only [Cond.ev, Lin.ev_sub, this]
  · rw [bin_neq]; have : (a.ev ρ != b.ev ρ) = !decide (a.ev ρ - b.ev ρ = 0) := by
      unfold bne; congr 1; rw [Bool.eq_iff_iff, beq_iff_eq, decide_eq_true_eq]; omega
    simp only [Cond.ev, Lin.ev_sub, this]
  · rw [bin_lss]; have : decide (a.ev ρ < b.ev ρ) = decide (0 ≤ b.ev ρ - a.ev ρ + -1) := decide_eq_decide.2 (by omega)
    simp only [Cond.ev, Lin.ev_addk, Lin.ev_sub, this]
  · rw [bin_leq]; have : decide (a.ev ρ ≤ b.ev ρ) = decide (0 ≤ b.ev ρ - a.ev ρ) := decide_eq_decide.2 (by omega)
    simp only [Cond.ev, Lin.ev_sub, this]
  · rw [bin_gtr]; have : decide (a.ev ρ > b.ev ρ) = decide (0 ≤ a.ev ρ - b.ev ρ + -1) := decide_eq_decide.2 (by omega)
    simp only [Cond.ev, Lin.ev_addk, Lin.ev_sub, this]
  · rw [bin_geq]; have : decide (a.ev ρ ≥ b.ev ρ) = decide (0 ≤ a.ev ρ - b.ev ρ) := decide_eq_decide.2 (by omega)
    simp only [Cond.ev, Lin.ev_sub, this]
theorem cmpC_bl {op : BinOp} {a b : Lin} {c : Cond} {n : Nat} (e : cmpC op a b = some c) (ha : a.below n = true) (hb : b.below n = true) : c.bl n = true := by
  cases op <;> simp only [cmpC, Option.some.injEq, reduceCtorEq] at e <;> subst e <;> simp only [Cond.bl] <;> first | exact sub_below ha hb | exact sub_below hb ha
theorem bin_xor (t : TypeId) (k : IntKind) (a b : Int) : binV P .xor t (.v (.int k a)) (.v (.int k b)) = some (.v (.int k (bitsI k .xor a b))) := by
  simp [binV, AV.toV, eqGuard, binOp, Op.intBits, evSem, bind, Sem.bind, pure, bitsI]
theorem intBin_ok (h : Sat P ρ ss st) {op : BinOp} {k k' : IntKind} {a b : Lin} (t : TypeId) (ha : a.below ss.nv = true) (hb : b.below ss.nv = true) (ra : inR k (a.ev ρ.i)) (rb : inR k' (b.ev ρ.i)) {r : SV × SS} {o o' : Orc} (e : intBin op k a k' b ss o = .ok r o') :
    ∃ x, binV P op t (.v (.int k (a.ev ρ.i))) (.v (.int k' (b.ev ρ.i))) = some x ∧ Named P ρ ss.nv st x r := by
  have gen : ∀ (_ : (if k = k' then (match cmpC op a b with
    | some c => pure (.bool (mkC c), ss)
    | none => arith op k a b ss) else bad 33 : M (SV × SS)) o = .ok r o'), ∃ x, binV P op t (.v (.int k (a.ev ρ.i))) (.v (.int k' (b.ev ρ.i))) = some x ∧ Named P ρ ss.nv st x r := by
    intro e2
    split at e2
    · rename_i hk; subst hk
      cases hc : cmpC op a b with
      | some c =>
        rw [hc] at e2
        have e2 := ret_ok e2; subst e2
        refine ⟨_, cmpC_ok hc t k ρ.i, .same h (s := .bool (mkC c)) (mkC_bl (cmpC_bl hc ha hb)) ?_⟩
        simp only [R, mkC_ev]
      | none => rw [hc] at e2; exact arith_ok h t ha hb ra rb e2
    · exact (bad_ok e2).elim
  cases op <;> first | exact gen e | skip
  · simp only [intBin] at e
    split at e
    · rename_i hk; subst hk; have e := ret_ok e; subst e; exact ⟨_, bin_xor t k _ _, some_named h (bits_in _ _ _ _)⟩
    · exact (bad_ok e).elim
  · exact shlS_ok h t e
  · exact shrS_ok h t ha ra e

theorem kindOf_ok {s : SV} {c : CK} (h : kindOf s = some c) {x : AV} (hx : R ρ s x) : ∃ v, x = .v v ∧ ckV c v ∧ x.toV = some v ∧ x.toV1 = some v := by
  cases s <;> simp only [kindOf, Option.some.injEq, reduceCtorEq] at h <;> first | subst h | skip
  · simp only [R] at hx; exact ⟨_, hx.1, ⟨_, rfl⟩, by rw [hx.1]; rfl, by rw [hx.1]; rfl⟩
  · simp only [R] at hx; obtain ⟨n, e, _⟩ := hx; exact ⟨_, e, ⟨_, rfl⟩, by rw [e]; rfl, by rw [e]; rfl⟩
  · simp only [R] at hx; exact ⟨_, hx, ⟨_, rfl⟩, by rw [hx]; rfl, by rw [hx]; rfl⟩
  · simp only [R] at hx; obtain ⟨n, e⟩ := hx; exact ⟨_, e, ⟨_, rfl⟩, by rw [e]; rfl, by rw [e]; rfl⟩
  · simp only [R] at hx; exact ⟨_, hx, ⟨_, rfl⟩, by rw [hx]; rfl, by rw [hx]; rfl⟩
  · simp only [R] at hx; obtain ⟨n, e, _⟩ := hx; exact ⟨_, e, ⟨_, rfl⟩, by rw [e]; rfl, by rw [e]; rfl⟩
  · rename_i v
    cases v <;> simp only [kindOf, Option.some.injEq, reduceCtorEq] at h
    subst h
    simp only [R] at hx; exact ⟨_, hx, ⟨_, rfl⟩, by rw [hx]; rfl, by rw [hx]; rfl⟩
theorem kindsOf_ok : ∀ {l : List SV} {ks : List CK}, kindsOf l = some ks → ∀ {ys : List AV}, Rs ρ l ys → ∃ vs, toVs ys = some vs ∧ ckVs ks vs
  | [], ks, h, ys, hy => by cases h; simp only [Rs] at hy; subst hy; exact ⟨[], rfl, rfl⟩
  | s :: r, ks, h, ys, hy => by
    simp only [kindsOf] at h
    simp only [Rs] at hy
    obtain ⟨y, ys', rfl, h1, h2⟩ := hy
    split at h
    · rename_i k ks' hk hks
      cases h
      obtain ⟨v, _, q2, _, q3⟩ := kindOf_ok hk h1
      obtain ⟨vs, q4, q5⟩ := kindsOf_ok hks h2
      exact ⟨v :: vs, by simp only [toVs, q3, q4], v, vs, rfl, q2, q5⟩
    · cases h
theorem strLen_ok (h : Sat P ρ ss st) {s : SV} {l : Lin} (e : strLen ss.ks s = some l) {x : AV} (hx : R ρ s x) : ∃ b : ByteArray, x = .str b ∧ l.ev ρ.i = b.size ∧ l.below ss.nv = true ∧ b.size ≤ LBIG := by
  cases s <;> simp only [strLen, reduceCtorEq] at e
  · have hk := h.ks _ (strOf_mem e)
    simp only [KI.bl, Bool.and_eq_true, KI.ok] at hk
    simp only [R] at hx
    exact ⟨_, hx, hk.2.1, hk.1.2, hk.2.2⟩
  · rename_i v
    cases v <;> simp only [strLen, reduceCtorEq] at e
    rename_i b
    simp only [R] at hx
    cases hd : decide (b.size ≤ LBIG) with
    | true => rw [hd] at e; cases e; exact ⟨b, hx, Lin.ev_k _ _, rfl, of_decide_eq_true hd⟩
    | false => rw [hd] at e; cases e

theorem bin_agg {op : BinOp} {t : TypeId} {ks : List CK} (ho : isEq op = true) (hg : P.eqGuardType P.depth t = false) (h1 : oneT P t = false) (hf : flatK P 8 t = some ks) {ys zs : List AV} {vs ws : List Value} (hy : toVs ys = some vs) (hz : toVs zs = some ws) (cy : ckVs ks vs) (cz : ckVs ks ws) :
    ∃ b : Bool, binV P op t (.agg ys) (.agg zs) = some (.bool b) := by
  have hv : KeyV (oneT P t) ks (.agg vs.toArray) := by rw [h1]; unfold KeyV; rw [if_neg (by simp)]; exact ⟨_, rfl, by simpa using cy⟩
  have hw : KeyV (oneT P t) ks (.agg ws.toArray) := by rw [h1]; unfold KeyV; rw [if_neg (by simp)]; exact ⟨_, rfl, by simpa using cz⟩
  obtain ⟨b, hb, _⟩ := eq_flat 8 t ks hf 9992 _ _ hv hw
  have hb : evSem P (Op.equal t (.agg vs.toArray) (.agg ws.toArray)) = some b := hb
  simp only [binV, AV.toV, hy, hz, Option.map_some]
  have guard : ∀ (op : BinOp) (a b : Array Value), evSem P (eqGuard op t (.const .nilIface) (.const .nilIface) (.agg a) (.agg b)) = some () := by
    intro op a b
    unfold eqGuard
    cases op <;> first | rfl | simp [bind, Sem.bind, program, evSem, hg, pure]
  rw [evSem_bind1 _ _ (guard _ _ _)]
  cases op <;> simp only [isEq, Bool.false_eq_true] at ho
  · refine ⟨b, ?_⟩
    simp only [binOp]; rw [evSem_bind1 _ _ hb]; rfl
  · refine ⟨!b, ?_⟩
    simp only [binOp]; rw [evSem_bind1 _ _ hb]; rfl

theorem str_cmp {op : BinOp} (h : isCmp op = true) (t : TypeId) (x y : ByteArray) : ∃ b : Bool, binV P op t (.str x) (.str y) = some (.bool b) := by
  cases op <;> simp only [isCmp, Bool.false_eq_true] at h <;> exact ⟨_, rfl⟩
theorem str_add (t : TypeId) {x y : ByteArray} (h : x.size + y.size ≤ LBIG) : binV P .add t (.str x) (.str y) = some (.str (x ++ y)) := by
  have : ¬ ((x.size + y.size : Nat) : Int) > IntKind.i64.max := by
    have : IntKind.i64.max = 9223372036854775807 := by decide
    simp only [LBIG] at h; omega
  simp only [binV, AV.toV, eqGuard, binOp, Op.stringOp]
  simp [bind, Sem.bind, pure]
  rw [if_neg (by simp only [LBIG] at h; omega)]; rfl
theorem ba_size_append (x y : ByteArray) : (x ++ y).size = x.size + y.size := ByteArray.size_append

theorem str_eq (P : Program) (t : TypeId) (s : ByteArray) : binV P .eql t (.v (.string s)) (.v (.string s)) = some (.bool true) := by
  have h : binV P .eql t (.v (.string s)) (.v (.string s)) = some (.bool (s.toList == s.toList)) := rfl
  rw [h, beq_self_eq_true]
theorem str_ne (P : Program) (t : TypeId) (s : ByteArray) : binV P .neq t (.v (.string s)) (.v (.string s)) = some (.bool false) := by
  have h : binV P .neq t (.v (.string s)) (.v (.string s)) = some (.bool (!(s.toList == s.toList))) := rfl
  rw [h, beq_self_eq_true]; rfl
theorem strBin_ok (h : Sat P ρ ss st) {op : BinOp} {a b : SV} (t : TypeId) (ka : kindOf a = some .str) (kb : kindOf b = some .str) {x y : AV} (hx : R ρ a x) (hy : R ρ b y) {r : SV × SS} {o o' : Orc} (e : strBin op a b ss o = .ok r o') :
    ∃ z, binV P op t x y = some z ∧ Named P ρ ss.nv st z r := by
  obtain ⟨v, rfl, ⟨s1, rfl⟩, _⟩ := kindOf_ok ka hx
  obtain ⟨w, rfl, ⟨s2, rfl⟩, _⟩ := kindOf_ok kb hy
  unfold strBin at e
  cases hq : eqRes op a b with
  | some v =>
    rw [hq] at e
    have e := ret_ok e; subst e
    have same : sameStr a b = true → s1 = s2 := by
      intro hs
      unfold sameStr at hs
      split at hs
      · simp only [R] at hx hy
        rw [Nat.eq_of_beq_eq_true hs] at hx
        have := hx.trans hy.symm
        cases this; rfl
      · cases hs
    unfold eqRes at hq
    split at hq
    · cases hs : sameStr a b with
      | false => rw [hs] at hq; cases hq
      | true => rw [hs] at hq; cases hq; have := same hs; subst this; exact ⟨_, str_eq P t s1, .same h (s := .bool .tt) rfl rfl⟩
    · cases hs : sameStr a b with
      | false => rw [hs] at hq; cases hq
      | true => rw [hs] at hq; cases hq; have := same hs; subst this; exact ⟨_, str_ne P t s1, .same h (s := .bool .ff) rfl rfl⟩
    · cases hq
  | none =>
  rw [hq] at e
  simp only at e
  split at e
  · rename_i hc
    have e := ret_ok e; subst e
    obtain ⟨c, hc⟩ := str_cmp (P := P) hc t s1 s2
    exact ⟨_, hc, .same h (s := .ubool) rfl ⟨c, rfl⟩⟩
  · cases ha : strLen ss.ks a with
    | none => rw [ha] at e; cases op <;> exact (bad_ok e).elim
    | some l1 =>
      cases hb : strLen ss.ks b with
      | none => rw [ha, hb] at e; cases op <;> exact (bad_ok e).elim
      | some l2 =>
        rw [ha, hb] at e
        cases op <;> first | exact (bad_ok e).elim | skip
        obtain ⟨x, o1, e1, e2⟩ := bind_ok e
        cases x with
        | false => exact (bad_ok (by simpa using e2)).elim
        | true =>
          have e2 := ret_ok (by simpa using e2); subst e2
          obtain ⟨b1, q1, q2, q3, _⟩ := strLen_ok h ha hx; cases q1
          obtain ⟨b2, q4, q5, q6, _⟩ := strLen_ok h hb hy; cases q4
          have := prv_ok h.kn e1
          rw [Lin.ev_addk, Lin.ev_mul, Lin.ev_add] at this
          have hle : s1.size + s2.size ≤ LBIG := by omega
          refine ⟨_, str_add t hle, .same h (s := .ustr _ _) (by simp only [SV.bl, belowL, add_below q3 q6, Bool.and_true]) ⟨_, rfl, by rw [ba_size_append]; exact hle, ?_⟩⟩
          have ee : (l1.add l2).ev ρ.i = ((s1 ++ s2).size : Int) := by rw [Lin.ev_add, ba_size_append]; omega
          exact ⟨fun l hl => by rw [List.mem_singleton.1 hl, ee]; exact Int.le_refl _, fun l hl => by rw [List.mem_singleton.1 hl, ee]; exact Int.le_refl _⟩

theorem bool_eq {op : BinOp} (h : isEq op = true) (t : TypeId) (h1 : oneT P t = true) (hf : flatK P 8 t = some [.bool]) (x y : Bool) : ∃ b : Bool, binV P op t (.bool x) (.bool y) = some (.bool b) := by
  have key : ∀ z : Bool, KeyV (oneT P t) [.bool] (.bool z) := fun z => by rw [h1]; unfold KeyV; rw [if_pos rfl]; exact ⟨_, rfl, z, rfl⟩
  obtain ⟨b, hb, _⟩ := eq_flat 8 t _ hf 9992 _ _ (key x) (key y)
  have hb : evSem P (Op.equal t (.bool x) (.bool y)) = some b := hb
  have guard : ∀ (op : BinOp), evSem P (eqGuard op t (.const .nilIface) (.const .nilIface) (.bool x) (.bool y)) = some () := by
    intro op; cases op <;> rfl
  simp only [binV, AV.toV]
  rw [evSem_bind1 _ _ (guard _)]
  cases op <;> simp only [isEq, Bool.false_eq_true] at h
  · refine ⟨b, ?_⟩
    simp only [binOp]; rw [evSem_bind1 _ _ hb]; rfl
  · refine ⟨!b, ?_⟩
    simp only [binOp]; rw [evSem_bind1 _ _ hb]; rfl

theorem binS_ok (h : Sat P ρ ss st) {op : BinOp} {t : TypeId} {a b : SV} (ba : a.bl ss.nv = true) (bb : b.bl ss.nv = true) {x y : AV} (hx : R ρ a x) (hy : R ρ b y) {r : SV × SS} {o o' : Orc} (e : binS P op t a b ss o = .ok r o') :
    ∃ z, binV P op t x y = some z ∧ Named P ρ ss.nv st z r := by
  unfold binS at e
  split at e
  · rename_i k l k' l'
    simp only [R] at hx hy
    rw [hx.1, hy.1]
    exact intBin_ok h t ba bb hx.2 hy.2 e
  · simp only [R] at hx hy
    split at e
    · rename_i hq
      have e := ret_ok e; subst e
      subst hx hy
      simp only [Bool.and_eq_true, decide_eq_true_eq] at hq
      obtain ⟨c, hc⟩ := bool_eq (P := P) hq.1 t hq.2.1 hq.2.2 _ _
      exact ⟨_, hc, .same h (s := .ubool) rfl ⟨c, rfl⟩⟩
    · exact (bad_ok e).elim
  · rename_i cs ds
    simp only [R] at hx hy
    obtain ⟨ys, rfl, h1⟩ := hx
    obtain ⟨zs, rfl, h2⟩ := hy
    unfold aggBin at e
    split at e
    · rename_i hq
      have e := ret_ok e; subst e
      simp only [aggOK, Bool.and_eq_true, Bool.not_eq_true'] at hq
      obtain ⟨⟨⟨q1, q2⟩, q3⟩, q4⟩ := hq
      cases hf : flatK P 8 t with
      | none => rw [hf] at q4; cases q4
      | some ks =>
        rw [hf] at q4
        simp only [Bool.and_eq_true, decide_eq_true_eq] at q4
        obtain ⟨vs, v1, v2⟩ := kindsOf_ok q4.1 h1
        obtain ⟨ws, w1, w2⟩ := kindsOf_ok q4.2 h2
        obtain ⟨c, hc⟩ := bin_agg q1 q2 q3 hf v1 w1 v2 w2
        exact ⟨_, hc, .same h (s := .ubool) rfl ⟨c, rfl⟩⟩
    · exact (bad_ok e).elim
  · cases ka : kindOf a with
    | none => rw [ka] at e; exact (bad_ok e).elim
    | some ca =>
      cases kb : kindOf b with
      | none => rw [ka, kb] at e; cases ca <;> exact (bad_ok e).elim
      | some cb =>
        rw [ka, kb] at e
        cases ca <;> cases cb <;> first | exact (bad_ok e).elim | skip
        · simp only at e
          split at e
          · rename_i hq
            have e := ret_ok e; subst e
            obtain ⟨v, rfl, ⟨x1, rfl⟩, _⟩ := kindOf_ok ka hx
            obtain ⟨w, rfl, ⟨y1, rfl⟩, _⟩ := kindOf_ok kb hy
            simp only [Bool.and_eq_true, decide_eq_true_eq] at hq
            obtain ⟨c, hc⟩ := bool_eq (P := P) hq.1 t hq.2.1 hq.2.2 x1 y1
            exact ⟨_, hc, .same h (s := .ubool) rfl ⟨c, rfl⟩⟩
          · exact (bad_ok e).elim
        · exact strBin_ok h t ka kb hx hy e

theorem unS_ok (h : Sat P ρ ss st) {op : UnOp} {a : SV} (ba : a.bl ss.nv = true) {x : AV} (hx : R ρ a x) {r : SV × SS} {o o' : Orc} (e : unS op a ss o = .ok r o') :
    ∃ v w, x.toV = some v ∧ evSem P (Op.unary op v) = some w ∧ Named P ρ ss.nv st (.v w) r := by
  unfold unS at e
  split at e
  · rename_i c
    simp only [R] at hx; subst hx
    have e := ret_ok e; subst e
    refine ⟨_, _, rfl, rfl, .same h (s := .bool c.not) (Cond.not_bl ba) ?_⟩
    simp only [R, Cond.not_ev]
  · simp only [R] at hx
    obtain ⟨b, rfl⟩ := hx
    have e := ret_ok e; subst e
    exact ⟨_, .bool (!b), rfl, rfl, .same h (s := .ubool) rfl ⟨!b, rfl⟩⟩
  · rename_i k l
    simp only [R] at hx
    rw [hx.1]
    refine ⟨_, _, rfl, rfl, ?_⟩
    have := linOr_ok (n := 0 - l.ev ρ.i) h (mul_below _ ba) (by rw [Lin.ev_mul]; omega) e
    exact this
  · rename_i k l
    simp only [R] at hx
    rw [hx.1]
    have e := ret_ok e; subst e
    refine ⟨_, _, rfl, rfl, some_named h (wrap_in k _)⟩
  · exact (bad_ok e).elim
theorem convS_ok (h : Sat P ρ ss st) {k : IntKind} {a : SV} (ba : a.bl ss.nv = true) {x : AV} (hx : R ρ a x) {r : SV × SS} {o o' : Orc} (e : convS k a ss o = .ok r o') :
    ∃ j n, x = .v (.int j n) ∧ Named P ρ ss.nv st (.v (.int k (k.wrap n))) r := by
  unfold convS at e
  split at e
  · simp only [R] at hx; exact ⟨_, _, hx.1, linOr_ok h ba rfl e⟩
  · simp only [R] at hx; obtain ⟨n, hn, _⟩ := hx; have e := ret_ok e; subst e; exact ⟨_, _, hn, some_named h (wrap_in k _)⟩
  · exact (bad_ok e).elim
end
end
end Go.EF.Rk
end

section
namespace Go.EF.Rk
noncomputable section
open Go Go.EF

def getSV (cs : List SV) (agg : Bool) (sz off : Nat) : Option SV :=
  bif agg then (bif Nat.blt 0 sz && Nat.ble (off + sz) cs.length then some (.agg ((cs.drop off).take sz)) else none) else cs[off]?
/-- One cell of a memory. -/
def sOne : SV → Bool
  | .any | .agg _ | .tup _ => false
  | .val x => x.oneCell'
  | _ => true
def cellsS : SV → Option (List SV)
  | .agg cs => some cs
  | s => bif sOne s then some [s] else none

section
variable {P : Program} {ρ ρ' : V} {ss : SS} {st : St}

theorem getSV_ok {cs : List SV} {ys : List AV} (h : Rs ρ cs ys) {agg : Bool} {sz off : Nat} {s : SV} (e : getSV cs agg sz off = some s) : ∃ x, getCells ys agg sz off = some x ∧ R ρ s x := by
  unfold getSV at e
  cases agg with
  | false => obtain ⟨y, h1, h2⟩ := Rs_get h (by simpa using e); exact ⟨y, by simpa [getCells] using h1, h2⟩
  | true =>
    simp only [cond_true] at e
    cases hc : (Nat.blt 0 sz && Nat.ble (off + sz) cs.length) with
    | false => rw [hc] at e; cases e
    | true =>
      rw [hc] at e; cases e
      simp only [Bool.and_eq_true] at hc
      have h1 := Nat.blt_eq.mp hc.1; have h2 := Nat.le_of_ble_eq_true hc.2
      refine ⟨.agg ((ys.drop off).take sz), ?_, ?_⟩
      · unfold getCells; rw [if_pos rfl, if_pos ⟨h1, by rw [Rs_length h]; exact h2⟩]
      · simp only [R]; exact ⟨_, rfl, Rs_take (Rs_drop h _) _⟩
theorem getSV_bl {cs : List SV} {n : Nat} (h : belowS n cs = true) {agg : Bool} {sz off : Nat} {s : SV} (e : getSV cs agg sz off = some s) : s.bl n = true := by
  unfold getSV at e
  cases agg with
  | false => exact belowS_get h (by simpa using e)
  | true =>
    simp only [cond_true] at e
    cases hc : (Nat.blt 0 sz && Nat.ble (off + sz) cs.length) with
    | false => rw [hc] at e; cases e
    | true => rw [hc] at e; cases e; exact belowS_take (belowS_drop h _) _

theorem sOne_ok {s : SV} (h : sOne s = true) {x : AV} (hx : R ρ s x) : x.one = true := by
  cases s <;> simp only [sOne, Bool.false_eq_true] at h <;> simp only [R] at hx
  case int => rw [hx.1]; rfl
  case uint => obtain ⟨n, e, _⟩ := hx; rw [e]; rfl
  case bool => rw [hx]; rfl
  case ubool => obtain ⟨n, e⟩ := hx; rw [e]; rfl
  case str => rw [hx]; rfl
  case ustr => obtain ⟨n, e, _⟩ := hx; rw [e]; rfl
  case val => rw [hx]; exact h
  case ptr => rw [hx]; rfl
  case ptrx => rw [hx.1]; rfl
  case ptrv => rw [hx.1]; rfl
  case lptr => rw [hx.1]; rfl
  case lpc => obtain ⟨n, e, _⟩ := hx; rw [e]; rfl
  case list => rw [hx]; rfl
  case listc => obtain ⟨n, e, _⟩ := hx; rw [e]; rfl
  case ulist => obtain ⟨w, cs, n, e, _⟩ := hx; rw [e]; rfl
  case ms => rw [hx.1]; rfl
  case mx => rw [hx.1]; rfl
  case map => rw [hx]; rfl
  case fn => obtain ⟨w, cs, e, _⟩ := hx; rw [e]; rfl
  case yld => rw [hx]; rfl
  case born => rw [hx]; rfl
theorem sOnes_ok : ∀ {l : List SV}, l.all sOne = true → ∀ {ys : List AV}, Rs ρ l ys → ys.all AV.one = true
  | [], _, ys, hy => by simp only [Rs] at hy; subst hy; rfl
  | s :: r, h, ys, hy => by
    simp only [List.all_cons, Bool.and_eq_true] at h
    simp only [Rs] at hy
    obtain ⟨y, ys', rfl, h1, h2⟩ := hy
    simp only [List.all_cons, Bool.and_eq_true]; exact ⟨sOne_ok h.1 h1, sOnes_ok h.2 h2⟩
theorem one_boxable {x : AV} (h : x.one = true) : x.boxable = true ∧ x.cells = [x] := by
  cases x <;> simp [AV.one, AV.boxable, AV.cells] at h ⊢
  exact h
theorem cellsS_ok {s : SV} {cs : List SV} (e : cellsS s = some cs) {x : AV} (hx : R ρ s x) : x.boxable = true ∧ Rs ρ cs x.cells := by
  have gen : ∀ (_ : (bif sOne s then some [s] else none) = some cs), x.boxable = true ∧ Rs ρ cs x.cells := by
    intro e
    cases h : sOne s with
    | false => rw [h] at e; cases e
    | true =>
      rw [h] at e; cases e
      obtain ⟨h1, h2⟩ := one_boxable (sOne_ok h hx)
      exact ⟨h1, by rw [h2]; exact ⟨x, [], rfl, hx, rfl⟩⟩
  cases s with
  | agg ds => cases e; simp only [R] at hx; obtain ⟨ys, rfl, h⟩ := hx; exact ⟨rfl, h⟩
  | _ => exact gen e
theorem cellsS_bl {s : SV} {cs : List SV} {n : Nat} (h : s.bl n = true) (e : cellsS s = some cs) : belowS n cs = true := by
  have gen : ∀ (_ : (bif sOne s then some [s] else none) = some cs), belowS n cs = true := by
    intro e
    cases hs : sOne s with
    | false => rw [hs] at e; cases e
    | true => rw [hs] at e; cases e; simp only [belowS, h, Bool.and_true]
  cases s with
  | agg ds => cases e; exact h
  | _ => exact gen e

/-! ### elements of lists -/
/-- What is learnt of an element from other things known of its list. -/
def learnAll (ks : List KI) (cs : List SV) : List (List SV) → List Lin × List KI
  | [] => ([], [])
  | el :: r => match learnS ks cs el, learnAll ks cs r with | (f, k), (f', k') => (f ++ f', k ++ k')
theorem learnAll_ok (h : Sat P ρ ss st) {cs : List SV} (hb : belowS ss.nv cs = true) {xs : List AV} (hx : Rs ρ cs xs) : ∀ {els : List (List SV)}, (∀ el ∈ els, belowS ss.nv el = true ∧ Rs ρ el xs) → Learnt P ρ ss.nv (learnAll ss.ks cs els)
  | [], _ => .nil
  | el :: r, he => by
    have A := learnS_ok h cs el hb (he el (List.mem_cons_self ..)).1 xs hx (he el (List.mem_cons_self ..)).2
    have B := learnAll_ok h hb hx (els := r) fun e he' => he e (List.mem_cons_of_mem _ he')
    simp only [learnAll]
    refine ⟨fun f hf => ?_, fun k hk => ?_⟩
    · rcases List.mem_append.1 hf with hf | hf
      · exact A.1 f hf
      · exact B.1 f hf
    · rcases List.mem_append.1 hk with hk | hk
      · exact A.2 k hk
      · exact B.2 k hk
def presBelow (fs : List Lin) (i : Lin) : List (Lin × List SV) → M (List (List SV))
  | [] => pure []
  | (b, el) :: r => do
    let x ← prv fs ((b.sub i).addk (-1))
    let l ← presBelow fs i r
    pure (bif x then el :: l else l)
theorem presBelow_ok {fs : List Lin} {ks : List KI} (K : Kn P ρ fs ks) {i : Lin} : ∀ {l : List (Lin × List SV)} {r : List (List SV)} {o o' : Orc}, presBelow fs i l o = .ok r o' → ∀ el ∈ r, ∃ b, (b, el) ∈ l ∧ i.ev ρ.i < b.ev ρ.i
  | [], r, o, o', e, el, he => by have e := ret_ok e; subst e; cases he
  | (b, e0) :: l, r, o, o', e, el, he => by
    obtain ⟨x, o1, e1, e2⟩ := bind_ok e
    obtain ⟨q, o2, e3, e4⟩ := bind_ok e2
    have e4 := ret_ok e4; subst e4
    have ih := presBelow_ok K e3
    cases x with
    | false => obtain ⟨c, h1, h2⟩ := ih el he; exact ⟨c, List.mem_cons_of_mem _ h1, h2⟩
    | true =>
      rcases List.mem_cons.1 he with rfl | he
      · have := prv_ok K e1; rw [Lin.ev_addk, Lin.ev_sub] at this; exact ⟨b, List.mem_cons_self .., by omega⟩
      · obtain ⟨c, h1, h2⟩ := ih el he; exact ⟨c, List.mem_cons_of_mem _ h1, h2⟩

def rdElt (ss : SS) (L : Nat) (i : Lin) : M (List SV × SS) :=
  match eltOf ss.ks L i with
  | some cs => pure (cs, ss)
  | none => do
    let ps ← presBelow ss.fs i (presOf ss.ks L)
    match ps ++ allsOf ss.ks L with
    | [] => bad 50
    | el :: more => match nmS el ss with
      | (cs, ss1) => match learnAll ss1.ks cs (more.filter fun m => Nat.beq m.length el.length) with
        | (f, k) => pure (cs, ⟨ss1.nv, f ++ ss1.fs, (.elt L i cs :: k) ++ ss1.ks, ss1.hp⟩)

theorem rdElt_ok (h : Sat P ρ ss st) {L : Nat} {i : Lin} (hL : L < ss.nv) (hi : i.below ss.nv = true) (h0 : 0 ≤ i.ev ρ.i) (h1 : i.ev ρ.i < ρ.n L) {r : List SV × SS} {o o' : Orc} (e : rdElt ss L i o = .ok r o') :
    ∃ ρ', Agree ss.nv ρ ρ' ∧ ss.nv ≤ r.2.nv ∧ Sat P ρ' r.2 st ∧ Rs ρ' r.1 (elemAt (ρ.l L) r.1.length (i.ev ρ.i).toNat) ∧ belowS r.2.nv r.1 = true := by
  unfold rdElt at e
  cases he : eltOf ss.ks L i with
  | some cs =>
    rw [he] at e
    have e := ret_ok e; subst e
    have hk := h.ks _ (eltOf_mem he)
    simp only [KI.bl, Bool.and_eq_true, KI.ok] at hk
    exact ⟨ρ, Agree.refl _ _, Nat.le_refl _, h, hk.2.2.2, hk.1.2.2⟩
  | none =>
    rw [he] at e
    obtain ⟨ps, o1, e1, e2⟩ := bind_ok e
    have hp := presBelow_ok h.kn e1
    have all : ∀ el ∈ ps ++ allsOf ss.ks L, belowS ss.nv el = true ∧ Rs ρ el (elemAt (ρ.l L) el.length (i.ev ρ.i).toNat) := by
      intro el hm
      rcases List.mem_append.1 hm with hm | hm
      · obtain ⟨b, q1, q2⟩ := hp el hm
        have hk := h.ks _ (presOf_mem q1)
        simp only [KI.bl, Bool.and_eq_true, KI.ok] at hk
        exact ⟨hk.1.2.2, hk.2 _ (by omega) (by omega)⟩
      · have hk := h.ks _ (allsOf_mem hm)
        simp only [KI.bl, Bool.and_eq_true, KI.ok] at hk
        exact ⟨hk.1.2, hk.2 _ (by omega)⟩
    cases hq : ps ++ allsOf ss.ks L with
    | nil => rw [hq] at e2; exact (bad_ok e2).elim
    | cons el more =>
      rw [hq] at e2
      simp only at e2
      rw [hq] at all
      have hel := all el (List.mem_cons_self ..)
      obtain ⟨ρ1, a1, a2, a3, a4, a5, a6⟩ := nmS_ok el h hel.1 hel.2
      rcases hn : nmS el ss with ⟨cs, ss1⟩
      rw [hn] at e2 a2 a3 a4 a5 a6
      simp only at e2 a2 a3 a4 a5 a6
      have e2 := ret_ok e2; subst e2
      have lc : cs.length = el.length := by rw [a6, Rs_length hel.2]
      have hfit : ∀ m ∈ more.filter (fun m => Nat.beq m.length el.length), belowS ss1.nv m = true ∧ Rs ρ1 m (elemAt (ρ.l L) el.length (i.ev ρ.i).toNat) := by
        intro m hm
        obtain ⟨hm1, hm2⟩ := List.mem_filter.1 hm
        have hA := all m (List.mem_cons_of_mem _ hm1)
        have hlen := Nat.eq_of_beq_eq_true hm2
        exact ⟨belowS_mono a2 _ hA.1, by rw [← hlen]; exact Rs_agree a1 hA.1 hA.2⟩
      have hl := learnAll_ok a3 a5 a4 hfit
      rcases hr : learnAll ss1.ks cs (more.filter fun m => Nat.beq m.length el.length) with ⟨f, k⟩
      rw [hr] at hl
      refine ⟨ρ1, a1, a2, ?_, by rw [lc]; exact a4, a5⟩
      refine a3.ext (Agree.refl _ _) a3.ok (Nat.le_refl _) f (.elt L i cs :: k) hl.1 ?_
      intro x hx
      rcases List.mem_cons.1 hx with rfl | hx
      · refine ⟨by simp only [KI.bl, Bool.and_eq_true]; exact ⟨Nat.blt_eq.mpr (Nat.lt_of_lt_of_le hL a2), Lin.below_mono a2 hi, a5⟩, ?_⟩
        simp only [KI.ok, a1.l _ hL, a1.ln _ hL, lin_agree a1 hi, lc]
        exact ⟨h0, h1, a4⟩
      · exact hl.2 x hx

/-! ### alike cells -/
def joinSV (a b : SV) : Option SV :=
  match a, b with
  | .int k l, .int k' l' => if k = k' then (if l = l' then some (.int k l) else some (someInt k)) else none
  | .uint k lo hi, .uint k' lo' hi' => if k = k' then (if lo = lo' ∧ hi = hi' then some (.uint k lo hi) else some (someInt k)) else none
  | .int k _, .uint k' _ _ => if k = k' then some (someInt k) else none
  | .uint k _ _, .int k' _ => if k = k' then some (someInt k) else none
  | .bool _, .bool _ => some .ubool
  | .bool _, .ubool => some .ubool
  | .ubool, .bool _ => some .ubool
  | .ubool, .ubool => some .ubool
  | .str s, .str s' => if s = s' then some (.str s) else none
  | _, _ => none
theorem joinSV_ok {a b s : SV} (e : joinSV a b = some s) {x : AV} (h : R ρ a x ∨ R ρ b x) : R ρ s x := by
  have si : ∀ {k : IntKind} {l : Lin}, R ρ (.int k l) x → R ρ (someInt k) x := fun h => by simp only [R] at h; exact ⟨_, h.1, h.2, by simp [bounds]⟩
  have su : ∀ {k : IntKind} {lo hi : List Lin}, R ρ (.uint k lo hi) x → R ρ (someInt k) x := fun h => by simp only [R] at h; obtain ⟨n, h1, h2, _⟩ := h; exact ⟨n, h1, h2, by simp [bounds]⟩
  have sb : ∀ {c : Cond}, R ρ (.bool c) x → R ρ .ubool x := fun h => ⟨_, h⟩
  unfold joinSV at e
  split at e
  · split at e
    · rename_i hk; subst hk
      split at e
      · rename_i hl; subst hl; cases e; exact h.elim id id
      · cases e; exact h.elim si si
    · cases e
  · split at e
    · rename_i hk; subst hk
      split at e
      · rename_i hl; obtain ⟨rfl, rfl⟩ := hl; cases e; exact h.elim id id
      · cases e; exact h.elim su su
    · cases e
  · split at e
    · rename_i hk; subst hk; cases e; exact h.elim si su
    · cases e
  · split at e
    · rename_i hk; subst hk; cases e; exact h.elim su si
    · cases e
  · cases e; exact h.elim sb sb
  · cases e; exact h.elim sb id
  · cases e; exact h.elim id sb
  · cases e; exact h.elim id id
  · split at e
    · rename_i hk; subst hk; cases e; exact h.elim id id
    · cases e
  · cases e
theorem joinSV_bl {a b s : SV} {n : Nat} (e : joinSV a b = some s) (ha : a.bl n = true) : s.bl n = true := by
  unfold joinSV at e
  split at e <;> (repeat' split at e) <;> first | (cases e; exact ha) | (cases e; rfl) | cases e
def joinS : List SV → List SV → Option (List SV)
  | [], [] => some []
  | a :: r, b :: s => match joinSV a b, joinS r s with
    | some x, some l => some (x :: l)
    | _, _ => none
  | _, _ => none
theorem joinS_ok : ∀ {a b s : List SV}, joinS a b = some s → ∀ {xs : List AV}, Rs ρ a xs ∨ Rs ρ b xs → Rs ρ s xs
  | [], [], s, e, xs, h => by cases e; exact h.elim id id
  | [], _ :: _, s, e, _, _ => by cases e
  | _ :: _, [], s, e, _, _ => by cases e
  | a :: r, b :: t, s, e, xs, h => by
    simp only [joinS] at e
    split at e
    · rename_i x l hx hl
      cases e
      rcases h with h | h
      · simp only [Rs] at h ⊢; obtain ⟨y, ys, rfl, h1, h2⟩ := h; exact ⟨y, ys, rfl, joinSV_ok hx (.inl h1), joinS_ok hl (.inl h2)⟩
      · simp only [Rs] at h ⊢; obtain ⟨y, ys, rfl, h1, h2⟩ := h; exact ⟨y, ys, rfl, joinSV_ok hx (.inr h1), joinS_ok hl (.inr h2)⟩
    · cases e
theorem joinS_bl {n : Nat} : ∀ {a b s : List SV}, joinS a b = some s → belowS n a = true → belowS n s = true
  | [], [], s, e, _ => by cases e; rfl
  | [], _ :: _, s, e, _ => by cases e
  | _ :: _, [], s, e, _ => by cases e
  | a :: r, b :: t, s, e, h => by
    simp only [joinS] at e
    split at e
    · rename_i x l hx hl
      cases e
      simp only [belowS, Bool.and_eq_true] at h ⊢
      exact ⟨joinSV_bl hx h.1, joinS_bl hl h.2⟩
    · cases e
/-- What is alike in the n parts of s cells each, from an offset on, so far apart. -/
def joinAt (cs : List SV) (s sz : Nat) : Nat → Nat → Option (List SV)
  | 0, _ => none
  | 1, off => bif Nat.ble (off + s) cs.length then some ((cs.drop off).take s) else none
  | n + 2, off => bif Nat.ble (off + s) cs.length then (match joinAt cs s sz (n + 1) (off + sz) with
    | some l => joinS ((cs.drop off).take s) l
    | none => none) else none
theorem joinAt_ok {cs : List SV} {ys : List AV} (h : Rs ρ cs ys) {s sz : Nat} : ∀ {n off : Nat} {l : List SV}, joinAt cs s sz n off = some l → ∀ j, j < n → off + j * sz + s ≤ ys.length ∧ Rs ρ l ((ys.drop (off + j * sz)).take s)
  | 0, _, _, _, j, hj => absurd hj (Nat.not_lt_zero _)
  | 1, off, l, e, j, hj => by
    simp only [joinAt] at e
    cases hb : Nat.ble (off + s) cs.length with
    | false => rw [hb] at e; cases e
    | true =>
      rw [hb] at e; cases e
      have hb := Nat.le_of_ble_eq_true hb
      have : j = 0 := by omega
      subst this
      simp only [Nat.zero_mul, Nat.add_zero]
      exact ⟨by rw [Rs_length h]; exact hb, Rs_take (Rs_drop h _) _⟩
  | n + 2, off, l, e, j, hj => by
    simp only [joinAt] at e
    cases hb : Nat.ble (off + s) cs.length with
    | false => rw [hb] at e; cases e
    | true =>
      rw [hb] at e
      simp only [cond_true] at e
      have hb := Nat.le_of_ble_eq_true hb
      cases hr : joinAt cs s sz (n + 1) (off + sz) with
      | none => rw [hr] at e; cases e
      | some l' =>
        rw [hr] at e
        cases j with
        | zero =>
          simp only [Nat.zero_mul, Nat.add_zero]
          exact ⟨by rw [Rs_length h]; exact hb, joinS_ok e (.inl (Rs_take (Rs_drop h _) _))⟩
        | succ j =>
          have := joinAt_ok h hr j (by omega)
          have ee : off + (j + 1) * sz = off + sz + j * sz := by rw [Nat.add_mul]; omega
          rw [ee]; exact ⟨this.1, joinS_ok e (.inr this.2)⟩
theorem joinAt_bl {cs : List SV} {m : Nat} (h : belowS m cs = true) {s sz : Nat} : ∀ {n off : Nat} {l : List SV}, joinAt cs s sz n off = some l → belowS m l = true
  | 0, _, _, e => by cases e
  | 1, off, l, e => by
    simp only [joinAt] at e
    cases hb : Nat.ble (off + s) cs.length with
    | false => rw [hb] at e; cases e
    | true => rw [hb] at e; cases e; exact belowS_take (belowS_drop h _) _
  | n + 2, off, l, e => by
    simp only [joinAt] at e
    cases hb : Nat.ble (off + s) cs.length with
    | false => rw [hb] at e; cases e
    | true =>
      rw [hb] at e
      simp only [cond_true] at e
      cases hr : joinAt cs s sz (n + 1) (off + sz) with
      | none => rw [hr] at e; cases e
      | some l' => rw [hr] at e; exact joinS_bl e (belowS_take (belowS_drop h _) _)

/-- One way for each place at which an index can stand. -/
def forks (cs : List SV) (agg : Bool) (s sz : Nat) (i : Lin) (ss : SS) : Nat → Nat → Nat → M Outs
  | 0, _, _ => pure []
  | n + 1, j, off => do
    let x ← opt 51 (getSV cs agg s off)
    let ss1 ← asm (.eq (i.addk (-(j : Int)))) ss
    let r ← forks cs agg s sz i ss n (j + 1) (off + sz)
    pure (nm x ss1 :: r)
theorem forks_ok (h : Sat P ρ ss st) {cs : List SV} {ys : List AV} (hc : Rs ρ cs ys) (hb : belowS ss.nv cs = true) {agg : Bool} {s sz : Nat} {i : Lin} (hi : i.below ss.nv = true) : ∀ {n j off : Nat} {outs : Outs} {o o' : Orc}, forks cs agg s sz i ss n j off o = .ok outs o' → ∀ q, q < n → i.ev ρ.i = (j + q : Nat) → ∃ x, getCells ys agg s (off + q * sz) = some x ∧ Some1 P ρ ss.nv st x outs
  | 0, _, _, _, _, _, _, q, hq, _ => absurd hq (Nat.not_lt_zero _)
  | n + 1, j, off, outs, o, o', e, q, hq, hv => by
    obtain ⟨x, o1, e1, e2⟩ := bind_ok e
    obtain ⟨ss1, o2, e3, e4⟩ := bind_ok e2
    obtain ⟨r, o3, e5, e6⟩ := bind_ok e4
    have e6 := ret_ok e6; subst e6
    cases q with
    | zero =>
      have g := opt_ok e1
      obtain ⟨y, g1, g2⟩ := getSV_ok hc g
      have hcond : (Cond.eq (i.addk (-(j : Int)))).ev ρ.i = true := by simp only [Cond.ev, Lin.ev_addk]; exact decide_eq_true (by omega)
      obtain ⟨s1, s2⟩ := asm_ok h (c := .eq (i.addk (-(j : Int)))) (addk_below _ hi) hcond e3
      refine ⟨y, by simpa using g1, _, List.mem_cons_self .., ?_⟩
      have := nm_ok x s1 (by rw [s2]; exact getSV_bl hb g) g2
      rw [s2] at this; exact this
    | succ q =>
      obtain ⟨y, g1, r1, g2, g3⟩ := forks_ok h hc hb hi e5 q (by omega) (by rw [hv]; congr 1; omega)
      exact ⟨y, by rw [show off + (q + 1) * sz = off + sz + q * sz by rw [Nat.add_mul]; omega]; exact g1, r1, List.mem_cons_of_mem _ g2, g3⟩

/-! ### loads -/
/-- What stands at an index of which little is known. -/
def readX (cs : List SV) (agg : Bool) (s st n sz o : Nat) (i : Lin) (ss : SS) : M Outs :=
  match joinAt cs (bif agg then s else 1) sz n (st + o) with
  | some l => bif agg then (bif Nat.blt 0 s then fin (.agg l) ss else bad 52) else (match l with | [x] => fin x ss | _ => bad 53)
  | none => forks cs agg s sz i ss n 0 (st + o)
theorem readX_ok (h : Sat P ρ ss st) {cs : List SV} {ys : List AV} (hc : Rs ρ cs ys) (hb : belowS ss.nv cs = true) {agg : Bool} {s b n sz o : Nat} {i : Lin} (hi : i.below ss.nv = true) (h0 : 0 ≤ i.ev ρ.i) (h1 : i.ev ρ.i < n) {outs : Outs} {q q' : Orc} (e : readX cs agg s b n sz o i ss q = .ok outs q') :
    ∃ x, getCells ys agg s (b + (i.ev ρ.i).toNat * sz + o) = some x ∧ Some1 P ρ ss.nv st x outs := by
  have eo : b + (i.ev ρ.i).toNat * sz + o = b + o + (i.ev ρ.i).toNat * sz := by omega
  rw [eo]
  unfold readX at e
  cases hj : joinAt cs (bif agg then s else 1) sz n (b + o) with
  | none =>
    rw [hj] at e
    exact forks_ok h hc hb hi e (i.ev ρ.i).toNat (by omega) (by omega)
  | some l =>
    rw [hj] at e
    obtain ⟨g1, g2⟩ := joinAt_ok hc hj (i.ev ρ.i).toNat (by omega)
    have g3 := joinAt_bl hb hj
    cases agg with
    | true =>
      simp only [cond_true] at e g1 g2
      cases hs : Nat.blt 0 s with
      | false => rw [hs] at e; exact (bad_ok e).elim
      | true =>
        rw [hs] at e
        refine ⟨.agg ((ys.drop (b + o + (i.ev ρ.i).toNat * sz)).take s), ?_, fin_here h (s := .agg l) (by simp only [R]; exact ⟨_, rfl, g2⟩) g3 e⟩
        unfold getCells; rw [if_pos rfl, if_pos ⟨Nat.blt_eq.mp hs, g1⟩]
    | false =>
      simp only [cond_false] at e g1 g2
      match l, g2, g3, e with
      | [], _, _, e => exact (bad_ok e).elim
      | _ :: _ :: _, _, _, e => exact (bad_ok e).elim
      | [x], g2, g3, e =>
        simp only [Rs] at g2
        obtain ⟨y, ys', e1, g4, rfl⟩ := g2
        have hget : ys[b + o + (i.ev ρ.i).toNat * sz]? = some y := by
          have : ((ys.drop (b + o + (i.ev ρ.i).toNat * sz)).take 1)[0]? = some y := by rw [e1]; rfl
          rw [List.getElem?_take, if_pos (by omega), List.getElem?_drop] at this
          simpa using this
        simp only [belowS, Bool.and_true] at g3
        exact ⟨y, by simpa [getCells] using hget, fin_here h g4 g3 e⟩

def loadS' (g : Bool) (s : Nat) (p : SV) (ss : SS) : M Outs :=
  match p with
  | .ptr a off => match hget ss.hp a with
    | some (.cells cs) => do
      let x ← opt 54 (getSV cs g s off)
      fin x ss
    | _ => bad 55
  | .ptrx a st n sz o i => match hget ss.hp a with
    | some (.cells cs) => readX cs g s st n sz o i ss
    | _ => bad 56
  | .ptrv a sz o i => match hget ss.hp a with
    | some (.vec _ n el) => if el.length = sz ∧ o + (bif g then s else 1) ≤ sz then do
        let b ← prv ss.fs ((n.sub i).addk (-1))
        if b then do
          let x ← opt 57 (getSV el g s o)
          fin x ss
        else bad 58
      else bad 59
    | _ => bad 60
  | .lptr L sz o i => match lstOf ss.ks L with
    | some (sz', _) => if sz' = sz ∧ o + (bif g then s else 1) ≤ sz then do
        let r ← rdElt ss L i
        if r.1.length = sz then do
          let x ← opt 61 (getSV r.1 g s o)
          fin x r.2
        else bad 62
      else bad 63
    | none => bad 64
  | .lpc cs off => do
    let x ← opt 65 (getSV cs g s off)
    fin x ss
  | _ => bad 66

theorem elem_get {cs : List AV} {sz i o s : Nat} {g : Bool} {x : AV} (ho : o + (bif g then s else 1) ≤ sz) (hl : (i + 1) * sz ≤ cs.length) (e : getCells (elemAt cs sz i) g s o = some x) : getCells cs g s (i * sz + o) = some x := by
  have hi : (i + 1) * sz = i * sz + sz := by rw [Nat.add_mul, Nat.one_mul]
  unfold getCells at e ⊢
  cases g with
  | false =>
    simp only [Bool.false_eq_true, if_false, cond_false] at e ho ⊢
    unfold elemAt at e
    rw [List.getElem?_take, if_pos (by omega), List.getElem?_drop] at e; exact e
  | true =>
    simp only [if_true, cond_true] at e ho ⊢
    split at e
    · rename_i hc
      cases e
      rw [if_pos ⟨hc.1, by omega⟩]
      congr 2
      unfold elemAt
      rw [List.drop_take, List.drop_drop, List.take_take, Nat.min_eq_left (by omega)]
    · cases e

theorem load_ok (h : Sat P ρ ss st) {g : Bool} {s : Nat} {p : SV} (hb : p.bl ss.nv = true) {y : AV} (hy : R ρ p y) {outs : Outs} {o o' : Orc} (e : loadS' g s p ss o = .ok outs o') : ∃ x, loadS st g s y = some x ∧ Some1 P ρ ss.nv st x outs := by
  unfold loadS' at e
  cases p <;> simp only at e <;> first | exact (bad_ok e).elim | skip
  · rename_i a off
    simp only [R] at hy; subst hy
    cases hg : hget ss.hp a with
    | none => rw [hg] at e; exact (bad_ok e).elim
    | some ob =>
      rw [hg] at e
      cases ob <;> simp only at e <;> first | exact (bad_ok e).elim | skip
      rename_i cs
      obtain ⟨x, o1, e1, e2⟩ := bind_ok e
      obtain ⟨ys, g1, g2⟩ := h.hp.get hg
      have hbl := (hpBl_mem h.hb _ (hget_mem hg)).2
      obtain ⟨z, g3, g4⟩ := getSV_ok g2 (opt_ok e1)
      exact ⟨z, by simp only [loadS, g1]; exact g3, fin_here h g4 (getSV_bl hbl (opt_ok e1)) e2⟩
  · rename_i a b n sz off i
    simp only [R] at hy
    obtain ⟨rfl, h0, h1⟩ := hy
    simp only [SV.bl, Bool.and_eq_true] at hb
    cases hg : hget ss.hp a with
    | none => rw [hg] at e; exact (bad_ok e).elim
    | some ob =>
      rw [hg] at e
      cases ob <;> simp only at e <;> first | exact (bad_ok e).elim | skip
      rename_i cs
      obtain ⟨ys, g1, g2⟩ := h.hp.get hg
      have hbl := (hpBl_mem h.hb _ (hget_mem hg)).2
      obtain ⟨z, g3, g4⟩ := readX_ok h g2 hbl hb.2 h0 h1 e
      exact ⟨z, by simp only [loadS, g1]; exact g3, g4⟩
  · rename_i a sz off i
    simp only [R] at hy
    obtain ⟨rfl, h0⟩ := hy
    cases hg : hget ss.hp a with
    | none => rw [hg] at e; exact (bad_ok e).elim
    | some ob =>
      rw [hg] at e
      cases ob <;> simp only at e <;> first | exact (bad_ok e).elim | skip
      rename_i xf n el
      split at e
      · rename_i hsz
        obtain ⟨b, o1, e1, e2⟩ := bind_ok e
        cases b with
        | false => exact (bad_ok (by simpa using e2)).elim
        | true =>
          simp only [if_true] at e2
          obtain ⟨x, o2, e3, e4⟩ := bind_ok e2
          have hlt := prv_ok h.kn e1; rw [Lin.ev_addk, Lin.ev_sub] at hlt
          obtain ⟨ys, g1, g2, g3, g5⟩ := h.hp.get hg
          have hbl := (hpBl_mem h.hb _ (hget_mem hg)).2
          simp only [SObj.bl, Bool.and_eq_true] at hbl
          obtain ⟨z, g6, g7⟩ := getSV_ok (g5 (i.ev ρ.i).toNat (by omega)) (opt_ok e3)
          obtain ⟨rfl, hsz⟩ := hsz
          have hlen : ((i.ev ρ.i).toNat + 1) * el.length ≤ ys.length := by rw [g3]; exact Nat.mul_le_mul_right _ (by omega)
          have := elem_get hsz hlen g6
          refine ⟨z, ?_, fin_here h g7 (getSV_bl hbl.2 (opt_ok e3)) e4⟩
          cases xf <;> simp only [loadS, g1, vecObj, cond_true, cond_false] <;> exact this
      · exact (bad_ok e).elim
  · rename_i L sz off i
    simp only [R] at hy
    obtain ⟨rfl, h0, h1⟩ := hy
    simp only [SV.bl, Bool.and_eq_true] at hb
    cases hl : lstOf ss.ks L with
    | none => rw [hl] at e; exact (bad_ok e).elim
    | some q =>
      obtain ⟨sz', len⟩ := q
      rw [hl] at e
      simp only at e
      split at e
      · rename_i hsz
        obtain ⟨r, o1, e1, e2⟩ := bind_ok e
        obtain ⟨ρ1, a1, a2, a3, a4, a5⟩ := rdElt_ok h (Nat.blt_eq.mp hb.1) hb.2 h0 h1 e1
        split at e2
        · rename_i hr
          obtain ⟨x, o2, e3, e4⟩ := bind_ok e2
          rw [hr] at a4
          obtain ⟨z, g1, g2⟩ := getSV_ok a4 (opt_ok e3)
          have hk := h.ks _ (lstOf_mem hl)
          simp only [KI.ok] at hk
          have hlen : ((i.ev ρ.i).toNat + 1) * sz ≤ (ρ.l L).length := by rw [hk.2.2.1, ← hsz.1]; exact Nat.mul_le_mul_right _ (by omega)
          have := elem_get hsz.2 hlen g1
          exact ⟨z, by simp only [loadS]; exact this, fin_ok a1 a2 a3 g2 (getSV_bl a5 (opt_ok e3)) e4⟩
        · exact (bad_ok e2).elim
      · exact (bad_ok e).elim
  · rename_i cs off
    simp only [R] at hy
    obtain ⟨ys, rfl, g1⟩ := hy
    obtain ⟨x, o1, e1, e2⟩ := bind_ok e
    obtain ⟨z, g3, g4⟩ := getSV_ok g1 (opt_ok e1)
    exact ⟨z, by simp only [loadS]; exact g3, fin_here h g4 (getSV_bl hb (opt_ok e1)) e2⟩
end
end
end Go.EF.Rk
end

section
namespace Go.EF.Rk
noncomputable section
open Go Go.EF

def wjoin (fs : List Lin) (ks : List KI) (c v : SV) : M SV := do
  let x ← le fs ks 8 v c
  pure (if x then c else (joinSV c v).getD .any)
def wjoinL (fs : List Lin) (ks : List KI) : List SV → List SV → M (List SV)
  | [], [] => pure []
  | c :: r, v :: s => do
    let a ← wjoin fs ks c v
    let l ← wjoinL fs ks r s
    pure (a :: l)
  | _, _ => bad 70
def weakAt (fs : List Lin) (ks : List KI) (cs : List SV) (off : Nat) (vs : List SV) : M (List SV) :=
  if off + vs.length ≤ cs.length then do
    let w ← wjoinL fs ks ((cs.drop off).take vs.length) vs
    pure (splice cs off w)
  else bad 71
def weakAll (fs : List Lin) (ks : List KI) (vs : List SV) (sz : Nat) : Nat → Nat → List SV → M (List SV)
  | 0, _, cs => pure cs
  | n + 1, off, cs => do
    let c ← weakAt fs ks cs off vs
    weakAll fs ks vs sz n (off + sz) c

def Wk (ρ : V) : List SV → List SV → Prop
  | [], [] => True
  | a :: r, b :: s => (∀ x, R ρ a x → R ρ b x) ∧ Wk ρ r s
  | _, _ => False
section
variable {P : Program} {ρ ρ' : V} {ss : SS} {st : St}
theorem Wk.refl : ∀ l, Wk ρ l l
  | [] => trivial
  | _ :: r => ⟨fun _ h => h, Wk.refl r⟩
theorem Wk.trans : ∀ {a b c : List SV}, Wk ρ a b → Wk ρ b c → Wk ρ a c
  | [], [], [], _, _ => trivial
  | _ :: _, _ :: _, _ :: _, h, k => ⟨fun x hx => k.1 x (h.1 x hx), Wk.trans h.2 k.2⟩
  | [], [], _ :: _, _, k => k.elim
  | [], _ :: _, _, h, _ => h.elim
  | _ :: _, [], _, h, _ => h.elim
  | _ :: _, _ :: _, [], _, k => k.elim
theorem Wk.rs : ∀ {a b : List SV}, Wk ρ a b → ∀ {ys : List AV}, Rs ρ a ys → Rs ρ b ys
  | [], [], _, _, h => h
  | _ :: _, _ :: _, w, _, h => by simp only [Rs] at h ⊢; obtain ⟨y, ys, rfl, h1, h2⟩ := h; exact ⟨y, ys, rfl, w.1 _ h1, w.2.rs h2⟩
  | [], _ :: _, w, _, _ => w.elim
  | _ :: _, [], w, _, _ => w.elim
theorem Wk.length : ∀ {a b : List SV}, Wk ρ a b → b.length = a.length
  | [], [], _ => rfl
  | _ :: _, _ :: _, w => by simp only [List.length_cons, w.2.length]
  | [], _ :: _, w => w.elim
  | _ :: _, [], w => w.elim
theorem Wk.drop : ∀ {a b : List SV}, Wk ρ a b → ∀ n, Wk ρ (a.drop n) (b.drop n)
  | _, _, w, 0 => w
  | [], [], _, _ + 1 => trivial
  | _ :: _, _ :: _, w, n + 1 => w.2.drop n
  | [], _ :: _, w, _ + 1 => w.elim
  | _ :: _, [], w, _ + 1 => w.elim
theorem Wk.take : ∀ {a b : List SV}, Wk ρ a b → ∀ n, Wk ρ (a.take n) (b.take n)
  | [], [], _, 0 => trivial
  | _ :: _, _ :: _, _, 0 => trivial
  | [], [], _, _ + 1 => trivial
  | _ :: _, _ :: _, w, n + 1 => ⟨w.1, w.2.take n⟩
  | [], _ :: _, w, _ => w.elim
  | _ :: _, [], w, _ => w.elim
theorem Wk.append : ∀ {a b : List SV}, Wk ρ a b → ∀ {c d : List SV}, Wk ρ c d → Wk ρ (a ++ c) (b ++ d)
  | [], [], _, _, _, k => k
  | _ :: _, _ :: _, w, _, _, k => ⟨w.1, w.2.append k⟩
  | [], _ :: _, w, _, _, _ => w.elim
  | _ :: _, [], w, _, _, _ => w.elim
theorem Wk.splice {cs ws : List SV} {off : Nat} (w : Wk ρ ((cs.drop off).take ws.length) ws) (_ : off + ws.length ≤ cs.length) : Wk ρ cs (splice cs off ws) := by
  have e : cs = cs.take off ++ ((cs.drop off).take ws.length ++ cs.drop (off + ws.length)) := by
    rw [← List.drop_drop, List.take_append_drop, List.take_append_drop]
  have := ((Wk.refl (ρ := ρ) (cs.take off)).append (w.append (Wk.refl (cs.drop (off + ws.length)))))
  rw [← e] at this
  unfold Go.EF.splice; rw [List.append_assoc]; exact this

theorem wjoin_ok (K : Kn P ρ ss.fs ss.ks) {c v s : SV} {o o' : Orc} (e : wjoin ss.fs ss.ks c v o = .ok s o') : (∀ x, R ρ c x → R ρ s x) ∧ ∀ x, R ρ v x → R ρ s x := by
  obtain ⟨b, o1, e1, e2⟩ := bind_ok e
  have e2 := ret_ok e2; subst e2
  cases b with
  | true => exact ⟨fun _ h => h, fun _ h => le_ok K e1 h⟩
  | false =>
    simp only [Bool.false_eq_true, if_false]
    cases hj : joinSV c v with
    | none => exact ⟨fun _ _ => trivial, fun _ _ => trivial⟩
    | some t => exact ⟨fun x h => joinSV_ok hj (.inl h), fun x h => joinSV_ok hj (.inr h)⟩
theorem wjoin_bl {c v s : SV} {n : Nat} {o o' : Orc} (hc : c.bl n = true) (e : wjoin ss.fs ss.ks c v o = .ok s o') : s.bl n = true := by
  obtain ⟨b, o1, e1, e2⟩ := bind_ok e
  have e2 := ret_ok e2; subst e2
  cases b with
  | true => exact hc
  | false =>
    simp only [Bool.false_eq_true, if_false]
    cases hj : joinSV c v with
    | none => rfl
    | some t => exact joinSV_bl hj hc
theorem wjoinL_ok (K : Kn P ρ ss.fs ss.ks) : ∀ {c v s : List SV} {o o' : Orc}, wjoinL ss.fs ss.ks c v o = .ok s o' → Wk ρ c s ∧ (∀ x, Rs ρ v x → Rs ρ s x) ∧ s.length = v.length
  | [], [], s, o, o', e => by have e := ret_ok e; subst e; exact ⟨trivial, fun _ h => h, rfl⟩
  | [], _ :: _, _, _, _, e => (bad_ok e).elim
  | _ :: _, [], _, _, _, e => (bad_ok e).elim
  | c :: r, v :: t, s, o, o', e => by
    obtain ⟨a, o1, e1, e2⟩ := bind_ok e
    obtain ⟨l, o2, e3, e4⟩ := bind_ok e2
    have e4 := ret_ok e4; subst e4
    have A := wjoin_ok K e1
    obtain ⟨B1, B2, B3⟩ := wjoinL_ok K e3
    refine ⟨⟨A.1, B1⟩, fun x h => ?_, by simp only [List.length_cons, B3]⟩
    simp only [Rs] at h ⊢; obtain ⟨y, ys, rfl, h1, h2⟩ := h; exact ⟨y, ys, rfl, A.2 _ h1, B2 _ h2⟩
theorem wjoinL_bl {n : Nat} : ∀ {c v s : List SV} {o o' : Orc}, belowS n c = true → wjoinL ss.fs ss.ks c v o = .ok s o' → belowS n s = true
  | [], [], s, o, o', _, e => by have e := ret_ok e; subst e; rfl
  | [], _ :: _, _, _, _, _, e => (bad_ok e).elim
  | _ :: _, [], _, _, _, _, e => (bad_ok e).elim
  | c :: r, v :: t, s, o, o', h, e => by
    obtain ⟨a, o1, e1, e2⟩ := bind_ok e
    obtain ⟨l, o2, e3, e4⟩ := bind_ok e2
    have e4 := ret_ok e4; subst e4
    simp only [belowS, Bool.and_eq_true] at h ⊢
    exact ⟨wjoin_bl h.1 e1, wjoinL_bl h.2 e3⟩
theorem belowS_splice {n : Nat} {cs ws : List SV} (h : belowS n cs = true) (h' : belowS n ws = true) (off : Nat) : belowS n (splice cs off ws) = true :=
  belowS_append (belowS_append (belowS_take h _) h') (belowS_drop h _)
theorem seg_splice {α : Type} {cs ws : List α} {off : Nat} (h : off + ws.length ≤ cs.length) : ((splice cs off ws).drop off).take ws.length = ws := by
  unfold splice
  rw [List.append_assoc, List.drop_left' (by rw [List.length_take]; omega), List.take_left' rfl]
theorem weakAt_ok (K : Kn P ρ ss.fs ss.ks) {cs vs s : List SV} {off : Nat} {o o' : Orc} (e : weakAt ss.fs ss.ks cs off vs o = .ok s o') : Wk ρ cs s ∧ (∀ x, Rs ρ vs x → Rs ρ ((s.drop off).take vs.length) x) ∧ off + vs.length ≤ cs.length := by
  unfold weakAt at e
  split at e
  · rename_i hl
    obtain ⟨w, o1, e1, e2⟩ := bind_ok e
    have e2 := ret_ok e2; subst e2
    obtain ⟨h1, h2, h3⟩ := wjoinL_ok K e1
    rw [← h3] at hl
    refine ⟨Wk.splice (by rw [h3]; exact h1) hl, fun x hx => ?_, by omega⟩
    rw [← h3, seg_splice hl]; exact h2 x hx
  · exact (bad_ok e).elim
theorem weakAt_bl {n : Nat} {cs vs s : List SV} {off : Nat} {o o' : Orc} (h : belowS n cs = true) (e : weakAt ss.fs ss.ks cs off vs o = .ok s o') : belowS n s = true := by
  unfold weakAt at e
  split at e
  · obtain ⟨w, o1, e1, e2⟩ := bind_ok e
    have e2 := ret_ok e2; subst e2
    exact belowS_splice h (wjoinL_bl (belowS_take (belowS_drop h _) _) e1) _
  · exact (bad_ok e).elim
theorem weakAll_ok (K : Kn P ρ ss.fs ss.ks) {vs : List SV} {sz : Nat} : ∀ {n off : Nat} {cs s : List SV} {o o' : Orc}, weakAll ss.fs ss.ks vs sz n off cs o = .ok s o' → Wk ρ cs s ∧ ∀ j, j < n → (∀ x, Rs ρ vs x → Rs ρ ((s.drop (off + j * sz)).take vs.length) x) ∧ off + j * sz + vs.length ≤ cs.length
  | 0, off, cs, s, o, o', e => by have e := ret_ok e; subst e; exact ⟨Wk.refl _, fun j hj => absurd hj (Nat.not_lt_zero _)⟩
  | n + 1, off, cs, s, o, o', e => by
    obtain ⟨c, o1, e1, e2⟩ := bind_ok e
    obtain ⟨h1, h2, h3⟩ := weakAt_ok K e1
    obtain ⟨h4, h5⟩ := weakAll_ok K e2
    refine ⟨h1.trans h4, fun j hj => ?_⟩
    cases j with
    | zero =>
      simp only [Nat.zero_mul, Nat.add_zero]
      exact ⟨fun x hx => ((h4.drop off).take _).rs (h2 x hx), h3⟩
    | succ j =>
      have := h5 j (by omega)
      rw [show off + (j + 1) * sz = off + sz + j * sz by rw [Nat.add_mul]; omega]
      exact ⟨this.1, by rw [← h1.length]; exact this.2⟩
theorem weakAll_bl {m : Nat} {vs : List SV} {sz : Nat} : ∀ {n off : Nat} {cs s : List SV} {o o' : Orc}, belowS m cs = true → weakAll ss.fs ss.ks vs sz n off cs o = .ok s o' → belowS m s = true
  | 0, off, cs, s, o, o', h, e => by have e := ret_ok e; subst e; exact h
  | n + 1, off, cs, s, o, o', h, e => by
    obtain ⟨c, o1, e1, e2⟩ := bind_ok e
    exact weakAll_bl (weakAt_bl h e1) e2
/-- What is written lies among what may stand there. -/
theorem Rs_put {s : List SV} {ys zs : List AV} {off : Nat} (h : Rs ρ s ys) (hz : Rs ρ ((s.drop off).take zs.length) zs) (hl : off + zs.length ≤ ys.length) : Rs ρ s (splice ys off zs) := by
  have e : s = s.take off ++ ((s.drop off).take zs.length ++ s.drop (off + zs.length)) := by
    rw [← List.drop_drop, List.take_append_drop, List.take_append_drop]
  rw [e]; unfold splice; rw [List.append_assoc]
  exact Rs_append (Rs_take h _) (Rs_append hz (Rs_drop h _))

/-! ### other objects -/
theorem hpBl_put {n : Nat} : ∀ {hp : Hp} {i : Nat} {o : SObj}, hpBl n hp = true → o.bl n = true → hpBl n (hput hp i o) = true
  | [], _, _, _, _ => rfl
  | (a, x) :: r, i, o, h, ho => by
    simp only [hpBl, Bool.and_eq_true] at h
    simp only [hput_cons]
    cases Nat.beq a i with
    | true => simp only [cond_true, hpBl, Bool.and_eq_true]; exact ⟨⟨h.1.1, ho⟩, h.2⟩
    | false => simp only [cond_false, hpBl, Bool.and_eq_true]; exact ⟨h.1, hpBl_put h.2 ho⟩
/-- An object has changed. -/
theorem Sat.put (h : Sat P ρ ss st) {a : Nat} {o o' : SObj} (hg : hget ss.hp a = some o) (hr : o.real = true) (hr' : o'.real = true) (hb : o'.bl ss.nv = true) {ao : AObj} (ho : o'.ok ρ (st.set (ρ.a a) ao) (ρ.a a)) : Sat P ρ { ss with hp := hput ss.hp a o' } (st.set (ρ.a a) ao) :=
  ⟨h.ok, h.fs, h.ks, hpBl_put h.hb hb, h.hp.put hg (lv_real hr) (lv_real hr') (fun b hb => St.get_set_ne _ _ (Ne.symm hb)) ho⟩

def storeP (s : Nat) (vs : List SV) (p : SV) (ss : SS) : M SS :=
  match p with
  | .ptr a off => match hget ss.hp a with
    | some (.cells cs) => if off + s ≤ cs.length then pure { ss with hp := hput ss.hp a (.cells (splice cs off vs)) } else bad 73
    | _ => bad 74
  | .ptrx a st n sz o _ => match hget ss.hp a with
    | some (.cells cs) => do
      let w ← weakAll ss.fs ss.ks vs sz n (st + o) cs
      pure { ss with hp := hput ss.hp a (.cells w) }
    | _ => bad 75
  | .ptrv a sz o i => match hget ss.hp a with
    | some (.vec xf n el) => if el.length = sz then do
        let b ← prv ss.fs ((n.sub i).addk (-1))
        if b then do
          let w ← weakAt ss.fs ss.ks el o vs
          pure { ss with hp := hput ss.hp a (.vec xf n w) }
        else bad 76
      else bad 77
    | _ => bad 78
  | _ => bad 79
def storeX (s : Nat) (p x : SV) (ss : SS) : M SS := do
  let vs ← opt 72 (cellsS x)
  if vs.length = s ∧ vs.all sOne = true then storeP s vs p ss else bad 80

theorem elem_put {ys zs : List AV} {sz i o j : Nat} (ho : o + zs.length ≤ sz) (hl : (i + 1) * sz ≤ ys.length) : elemAt (splice ys (i * sz + o) zs) sz j = if j = i then splice (elemAt ys sz i) o zs else elemAt ys sz j := by
  have hi : (i + 1) * sz = i * sz + sz := by rw [Nat.add_mul, Nat.one_mul]
  have hsp : i * sz + o + zs.length ≤ ys.length := by omega
  apply List.ext_getElem?
  intro q
  have lhs : (elemAt (splice ys (i * sz + o) zs) sz j)[q]? = if q < sz then (splice ys (i * sz + o) zs)[j * sz + q]? else none := by
    unfold elemAt; rw [List.getElem?_take]; split
    · rw [List.getElem?_drop]
    · rfl
  have rhs : ∀ k : Nat, (elemAt ys sz k)[q]? = if q < sz then ys[k * sz + q]? else none := by
    intro k; unfold elemAt; rw [List.getElem?_take]; split
    · rw [List.getElem?_drop]
    · rfl
  rw [lhs]
  by_cases hq : q < sz
  · rw [if_pos hq, splice_get hsp]
    by_cases hj : j = i
    · subst hj
      rw [if_pos rfl]
      have hel : (elemAt ys sz j).length = sz := by unfold elemAt; rw [List.length_take, List.length_drop]; omega
      rw [splice_get (by omega), rhs, if_pos hq]
      by_cases h1 : q < o
      · rw [if_pos (by omega), if_pos h1]
      · rw [if_neg (by omega), if_neg h1]
        by_cases h2 : q < o + zs.length
        · rw [if_pos (by omega), if_pos h2]; congr 1; omega
        · rw [if_neg (by omega), if_neg h2]
    · rw [if_neg hj, rhs, if_pos hq]
      rcases Nat.lt_or_gt_of_ne hj with h | h
      · have := Nat.mul_le_mul_right sz (show j + 1 ≤ i by omega); rw [Nat.add_mul, Nat.one_mul] at this
        rw [if_pos (by omega)]
      · have := Nat.mul_le_mul_right sz (show i + 1 ≤ j by omega); rw [Nat.add_mul, Nat.one_mul] at this
        rw [if_neg (by omega), if_neg (by omega)]
  · rw [if_neg hq]
    by_cases hj : j = i
    · subst hj
      rw [if_pos rfl]
      have hel : (elemAt ys sz j).length = sz := by unfold elemAt; rw [List.length_take, List.length_drop]; omega
      rw [List.getElem?_eq_none]; rw [splice_length (by omega)]; omega
    · rw [if_neg hj, rhs, if_neg hq]

theorem store_ok (h : Sat P ρ ss st) {s : Nat} {p x : SV} (hp : p.bl ss.nv = true) (hx : x.bl ss.nv = true) {yp yx : AV} (rp : R ρ p yp) (rx : R ρ x yx) {ss' : SS} {o o' : Orc} (e : storeX s p x ss o = .ok ss' o') :
    ∃ st', storeS st s yp yx = some st' ∧ Sat P ρ ss' st' ∧ ss'.nv = ss.nv := by
  obtain ⟨vs, o1, e1, e2⟩ := bind_ok e
  have hvs := opt_ok e1
  obtain ⟨bx, rs⟩ := cellsS_ok hvs rx
  have bvs := cellsS_bl hx hvs
  split at e2
  · rename_i hc
    obtain ⟨hlen, hone⟩ := hc
    have hones := sOnes_ok hone rs
    have hl : yx.cells.length = s := by rw [Rs_length rs, hlen]
    cases p <;> simp only [storeP] at e2 <;> first | exact (bad_ok e2).elim | skip
    · rename_i a off
      simp only [R] at rp; subst rp
      cases hg : hget ss.hp a with
      | none => rw [hg] at e2; exact (bad_ok e2).elim
      | some ob =>
        rw [hg] at e2
        cases ob <;> simp only at e2 <;> first | exact (bad_ok e2).elim | skip
        rename_i cs
        split at e2
        · rename_i hoff
          have e2 := ret_ok e2; subst e2
          obtain ⟨ys, g1, g2⟩ := h.hp.get hg
          have hbl := (hpBl_mem h.hb _ (hget_mem hg)).2
          have hlt := St.lt_of_get g1
          refine ⟨_, by simp only [storeS, g1]; rw [if_pos ⟨bx, hones, hl, by rw [Rs_length g2]; exact hoff⟩], h.put (o' := .cells (splice cs off vs)) hg rfl rfl (belowS_splice hbl bvs _) ?_, rfl⟩
          exact ⟨_, St.get_set_same _ _ hlt, Rs_splice g2 rs off⟩
        · exact (bad_ok e2).elim
    · rename_i a b n sz off i
      simp only [R] at rp
      obtain ⟨rfl, h0, h1⟩ := rp
      cases hg : hget ss.hp a with
      | none => rw [hg] at e2; exact (bad_ok e2).elim
      | some ob =>
        rw [hg] at e2
        cases ob <;> simp only at e2 <;> first | exact (bad_ok e2).elim | skip
        rename_i cs
        obtain ⟨w, o2, e3, e4⟩ := bind_ok e2
        have e4 := ret_ok e4; subst e4
        obtain ⟨ys, g1, g2⟩ := h.hp.get hg
        have hbl := (hpBl_mem h.hb _ (hget_mem hg)).2
        have hlt := St.lt_of_get g1
        obtain ⟨w1, w2⟩ := weakAll_ok h.kn e3
        obtain ⟨w3, w4⟩ := w2 (i.ev ρ.i).toNat (by omega)
        have eo : b + (i.ev ρ.i).toNat * sz + off = b + off + (i.ev ρ.i).toNat * sz := by omega
        have hfit : b + off + (i.ev ρ.i).toNat * sz + yx.cells.length ≤ ys.length := by rw [Rs_length g2, hl, ← hlen]; exact w4
        refine ⟨_, by simp only [storeS, g1]; rw [if_pos ⟨bx, hones, hl, by rw [eo, ← hl]; exact hfit⟩], h.put (o' := .cells w) hg rfl rfl (weakAll_bl hbl e3) ?_, rfl⟩
        refine ⟨_, St.get_set_same _ _ hlt, ?_⟩
        rw [eo]
        exact Rs_put (w1.rs g2) (by rw [hl, ← hlen]; exact w3 _ rs) hfit
    · rename_i a sz off i
      simp only [R] at rp
      obtain ⟨rfl, h0⟩ := rp
      cases hg : hget ss.hp a with
      | none => rw [hg] at e2; exact (bad_ok e2).elim
      | some ob =>
        rw [hg] at e2
        cases ob <;> simp only at e2 <;> first | exact (bad_ok e2).elim | skip
        rename_i xf n el
        split at e2
        · rename_i hsz
          obtain ⟨bb, o2, e3, e4⟩ := bind_ok e2
          cases bb with
          | false => exact (bad_ok (by simpa using e4)).elim
          | true =>
            simp only [if_true] at e4
            obtain ⟨w, o3, e5, e6⟩ := bind_ok e4
            have e6 := ret_ok e6; subst e6
            have hin := prv_ok h.kn e3; rw [Lin.ev_addk, Lin.ev_sub] at hin
            obtain ⟨ys, g1, g2, g3, g4⟩ := h.hp.get hg
            have hbl := (hpBl_mem h.hb _ (hget_mem hg)).2
            simp only [SObj.bl, Bool.and_eq_true] at hbl
            have hlt := St.lt_of_get g1
            obtain ⟨w1, w2, w3⟩ := weakAt_ok h.kn e5
            subst hsz
            have hlen1 : ((i.ev ρ.i).toNat + 1) * el.length ≤ ys.length := by rw [g3]; exact Nat.mul_le_mul_right _ (by omega)
            have hoz : off + yx.cells.length ≤ el.length := by rw [hl, ← hlen]; exact w3
            have hfit : (i.ev ρ.i).toNat * el.length + off + yx.cells.length ≤ ys.length := by
              have : ((i.ev ρ.i).toNat + 1) * el.length = (i.ev ρ.i).toNat * el.length + el.length := by rw [Nat.add_mul, Nat.one_mul]
              omega
            have okv : ∀ {xg : Bool}, (SObj.vec xg n w).ok ρ (st.set (ρ.a a) (vecObj xg (splice ys ((i.ev ρ.i).toNat * el.length + off) yx.cells))) (ρ.a a) := by
              intro xg
              refine ⟨_, St.get_set_same _ _ hlt, g2, by rw [splice_length hfit, g3, w1.length], fun j hj => ?_⟩
              rw [w1.length, elem_put hoz hlen1]
              split
              · rename_i hji
                have hel : (elemAt ys el.length (i.ev ρ.i).toNat).length = el.length := by rw [Rs_length (g4 _ (by omega))]
                exact Rs_put (w1.rs (g4 _ (by omega))) (by rw [hl, ← hlen]; exact w2 _ rs) (by rw [hel]; exact hoz)
              · exact w1.rs (g4 j hj)
            refine ⟨st.set (ρ.a a) (vecObj xf (splice ys ((i.ev ρ.i).toNat * el.length + off) yx.cells)), ?_, h.put hg rfl rfl (by simp only [SObj.bl, Bool.and_eq_true]; exact ⟨hbl.1, weakAt_bl hbl.2 e5⟩) okv, rfl⟩
            cases xf <;> simp only [storeS, g1, vecObj, cond_true, cond_false] <;> rw [if_pos ⟨bx, hones, hl, by rw [← hl]; exact hfit⟩]
        · exact (bad_ok e2).elim
  · exact (bad_ok e2).elim
end
end
end Go.EF.Rk
end

section
namespace Go.EF.Rk
noncomputable section
open Go Go.EF

section
variable {P : Program} {ρ ρ' : V} {ss : SS} {st : St} {fr : Fr} {frc : Nat → AV}

theorem Sat.new (h : Sat P ρ ss st) {o : SObj} {x : AObj} (hb : o.bl (ss.nv + 1) = true) (ho : ∀ ρ', Agree ss.nv ρ ρ' → ρ'.a ss.nv = st.next → o.ok ρ' (st.alloc x) st.next) :
    ∃ ρ', Agree ss.nv ρ ρ' ∧ ρ'.a ss.nv = st.next ∧ Sat P ρ' ⟨ss.nv + 1, ss.fs, ss.ks, (ss.nv, o) :: ss.hp⟩ (st.alloc x) := by
  let z : Pt := { a := st.next }
  have ha : (ρ.put ss.nv z).a ss.nv = st.next := put_a _ _ _
  have S := h.ext (put_agree ρ ss.nv z) (put_ok h.ok _ (by show _ ∧ _; simp only [z]; omega)) (Nat.le_succ _) [] [] (by simp) (by simp)
  refine ⟨ρ.put ss.nv z, put_agree _ _ _, ha, S.ok, S.fs, S.ks, ?_, S.hp.add ha (by rw [ha]; exact ho _ (put_agree _ _ _) ha)⟩
  simp only [hpBl, Bool.and_eq_true]
  exact ⟨⟨Nat.blt_eq.mpr (Nat.lt_succ_self _), hb⟩, S.hb⟩

def newS (o : SObj) (ss : SS) : SS := ⟨ss.nv + 1, ss.fs, ss.ks, (ss.nv, o) :: ss.hp⟩
theorem new_named (h : Sat P ρ ss st) {o : SObj} {x : AObj} (hb : o.bl (ss.nv + 1) = true) (ho : ∀ ρ', Agree ss.nv ρ ρ' → ρ'.a ss.nv = st.next → o.ok ρ' (st.alloc x) st.next) {s : SV} {y : AV} (hs : s.bl (ss.nv + 1) = true) (hy : ∀ ρ', Agree ss.nv ρ ρ' → ρ'.a ss.nv = st.next → R ρ' s y) :
    Named P ρ ss.nv (st.alloc x) y (s, newS o ss) := by
  obtain ⟨ρ1, a1, a2, a3⟩ := h.new hb ho
  exact ⟨ρ1, a1, Nat.le_succ _, a3, hy _ a1 a2, hs⟩

def allocS (z : List AV) (ss : SS) : M Outs := pure [(.ptr ss.nv 0, newS (.cells (ofAVs z)) ss)]
theorem blt_succ (n : Nat) : Nat.blt n (n + 1) = true := Nat.blt_eq.mpr (Nat.lt_succ_self n)
theorem one1 {n : Nat} {x : AV} {r : SV × SS} (h : Named P ρ n st x r) : Some1 P ρ n st x [r] := ⟨r, List.mem_singleton.2 rfl, h⟩
theorem alloc_ok (h : Sat P ρ ss st) (z : List AV) : Some1 P ρ ss.nv (st.alloc (.cells z)) (.ptr st.next 0) [(.ptr ss.nv 0, newS (.cells (ofAVs z)) ss)] :=
  one1 (new_named h (o := .cells (ofAVs z)) (ofAVs_bl _ _) (fun ρ' _ _ => ⟨z, St.get_alloc_new _ _, ofAVs_ok _ _⟩) (s := .ptr ss.nv 0) (blt_succ _) (fun ρ' _ e => by simp only [R, e]))
def boxS (x : SV) (ss : SS) : M Outs := do
  let cs ← opt 100 (cellsS x)
  pure [(.ptr ss.nv 0, newS (.cells cs) ss)]
theorem box_ok (h : Sat P ρ ss st) {x : SV} (hb : x.bl ss.nv = true) {y : AV} (hx : R ρ x y) {outs : Outs} {o o' : Orc} (e : boxS x ss o = .ok outs o') : y.boxable = true ∧ Some1 P ρ ss.nv (st.alloc (.cells y.cells)) (.ptr st.next 0) outs := by
  obtain ⟨cs, o1, e1, e2⟩ := bind_ok e
  have hc := opt_ok e1
  have e2 := ret_ok e2; subst e2
  obtain ⟨h1, h2⟩ := cellsS_ok hc hx
  have h3 := cellsS_bl hb hc
  exact ⟨h1, one1 (new_named h (o := .cells cs) (belowS_mono (Nat.le_succ _) _ h3) (fun ρ' ha _ => ⟨_, St.get_alloc_new _ _, Rs_agree ha h3 h2⟩) (s := .ptr ss.nv 0) (blt_succ _) (fun ρ' _ e => by simp only [R, e]))⟩

/-! ### structs and lists that are written out -/
def fillS (fr : Fr) : List SV → List (Nat × Nat × Opd) → M (List SV)
  | cs, [] => pure cs
  | cs, (off, sz, o) :: r => do
    let vs ← opt 101 (cellsS (opS fr o))
    if vs.length = sz ∧ off + sz ≤ cs.length then fillS fr (splice cs off vs) r else bad 102
theorem fill_ok (hF : FR ρ fr frc) : ∀ {parts : List (Nat × Nat × Opd)} {cs r : List SV} {ys : List AV} {o o' : Orc}, Rs ρ cs ys → fillS fr cs parts o = .ok r o' → ∃ zs, fillA (·.ev frc) ys parts = some zs ∧ Rs ρ r zs
  | [], cs, r, ys, o, o', h, e => by have e := ret_ok e; subst e; exact ⟨ys, rfl, h⟩
  | (off, sz, op) :: l, cs, r, ys, o, o', h, e => by
    obtain ⟨vs, o1, e1, e2⟩ := bind_ok e
    have hc := opt_ok e1
    obtain ⟨h1, h2⟩ := cellsS_ok hc (opS_ok hF op)
    split at e2
    · rename_i hk
      obtain ⟨zs, g1, g2⟩ := fill_ok hF (Rs_splice h h2 off) e2
      refine ⟨zs, ?_, g2⟩
      simp only [fillA]
      rw [if_pos ⟨h1, by rw [Rs_length h2]; exact hk.1, by rw [Rs_length h]; exact hk.2⟩]; exact g1
    · exact (bad_ok e2).elim
theorem fill_bl {n : Nat} (hF : fr.bl n = true) : ∀ {parts : List (Nat × Nat × Opd)} {cs r : List SV} {o o' : Orc}, belowS n cs = true → fillS fr cs parts o = .ok r o' → belowS n r = true
  | [], cs, r, o, o', h, e => by have e := ret_ok e; subst e; exact h
  | (off, sz, op) :: l, cs, r, o, o', h, e => by
    obtain ⟨vs, o1, e1, e2⟩ := bind_ok e
    split at e2
    · exact fill_bl hF (belowS_splice h (cellsS_bl (opS_bl hF op) (opt_ok e1)) off) e2
    · exact (bad_ok e2).elim

/-! ### places -/
def nilS (x : SV) : M SV := match x with
  | .ptr a o => pure (.ptr a o)
  | .ptrx a st n sz o i => pure (.ptrx a st n sz o i)
  | .ptrv a sz o i => pure (.ptrv a sz o i)
  | .lptr L sz o i => pure (.lptr L sz o i)
  | .lpc cs o => pure (.lpc cs o)
  | .fn f a b => pure (.fn f a b)
  | .yld l => pure (.yld l)
  | _ => bad 103
theorem nil_ok {x r : SV} {y : AV} (hx : R ρ x y) {c : Opd} (hy : c.ev frc = y) {o o' : Orc} (e : nilS x o = .ok r o') : evOp P (·.ev frc) st (.nilchk c) = some (y, st) ∧ r = x := by
  cases x <;> simp only [nilS] at e <;> first | exact (bad_ok e).elim | skip
  all_goals (have e := ret_ok e; refine ⟨?_, e.symm⟩; simp only [R] at hx; simp only [evOp, hy])
  · subst hx; rfl
  · rw [hx.1]
  · rw [hx.1]
  · rw [hx.1]
  · obtain ⟨ys, rfl, _⟩ := hx; rfl
  · obtain ⟨ya, yb, rfl, _⟩ := hx; rfl
  · subst hx; rfl

def faddrS (off : Nat) (x : SV) : M SV := match x with
  | .ptr a o => pure (.ptr a (o + off))
  | .ptrx a st n sz o i => pure (.ptrx a st n sz (o + off) i)
  | .ptrv a sz o i => pure (.ptrv a sz (o + off) i)
  | .lptr L sz o i => pure (.lptr L sz (o + off) i)
  | .lpc cs o => pure (.lpc cs (o + off))
  | _ => bad 104
theorem faddr_ok {n : Nat} {x r : SV} {y : AV} (hb : x.bl n = true) (hx : R ρ x y) {off : Nat} {c : Opd} (hy : c.ev frc = y) {o o' : Orc} (e : faddrS off x o = .ok r o') : ∃ z, evOp P (·.ev frc) st (.faddr off c) = some (z, st) ∧ R ρ r z ∧ r.bl n = true := by
  cases x <;> simp only [faddrS] at e <;> first | exact (bad_ok e).elim | skip
  all_goals (have e := ret_ok e; subst e; simp only [R] at hx; simp only [evOp, hy])
  · subst hx; exact ⟨_, rfl, rfl, hb⟩
  · rw [hx.1]; exact ⟨_, rfl, ⟨by congr 1; omega, hx.2⟩, hb⟩
  · rw [hx.1]; exact ⟨_, rfl, ⟨by congr 1; omega, hx.2⟩, hb⟩
  · rw [hx.1]; exact ⟨_, rfl, ⟨by congr 1; omega, hx.2⟩, hb⟩
  · obtain ⟨ys, rfl, h1⟩ := hx; exact ⟨_, rfl, ⟨ys, rfl, h1⟩, hb⟩

/-- Between two numbers. -/
def inside (fs : List Lin) (i n : Lin) : M Bool := do
  let x ← prv fs i
  if x then prv fs ((n.sub i).addk (-1)) else pure false
theorem inside_ok {fs : List Lin} {ks : List KI} (K : Kn P ρ fs ks) {i n : Lin} {o o' : Orc} (h : inside fs i n o = .ok true o') : 0 ≤ i.ev ρ.i ∧ i.ev ρ.i < n.ev ρ.i := by
  obtain ⟨⟨o1, h1⟩, o2, h2⟩ := and_ok h
  have a := prv_ok K h1; have b := prv_ok K h2; rw [Lin.ev_addk, Lin.ev_sub] at b; exact ⟨a, by omega⟩

def iaddrS (s : Nat) (x : SV) (i : Lin) (ss : SS) : M SV := match x with
  | .list _ L => match lstOf ss.ks L with
    | some (sz, len) => if sz = s then do
        let b ← inside ss.fs i len
        if b then pure (.lptr L s 0 i) else bad 105
      else bad 106
    | none => bad 107
  | .listc _ cs n => if isK i && decide (0 ≤ i.c) && decide (i.c < n) && decide (cs.length = n * s) then pure (.lpc cs (i.c.toNat * s)) else bad 108
  | .ms a st sz i0 len _ => if sz = s then do
      let b ← inside ss.fs i len
      if b then match hget ss.hp a with
        | some (.vec _ _ _) => if st = 0 then pure (.ptrv a s 0 (i0.add i)) else bad 109
        | some (.cells cs) => do
          let k := (cs.length - st) / (s + (1 - s))
          let b ← prv ss.fs (((Lin.k k).sub (i0.add i)).addk (-1))
          if b then pure (if isK (i0.add i) then .ptr a (st + (i0.add i).c.toNat * s) else .ptrx a st k s 0 (i0.add i)) else bad 110
        | _ => bad 111
      else bad 112
    else bad 113
  | .mx a n => do
      let b ← inside ss.fs i n
      if b then pure (.ptrv a s 0 i) else bad 114
  | _ => bad 115
theorem iaddr_ok (h : Sat P ρ ss st) {x r : SV} {y : AV} (hb : x.bl ss.nv = true) (hx : R ρ x y) {s : Nat} {k : IntKind} {i : Lin} (hi : i.below ss.nv = true) {c d : Opd} (hy : c.ev frc = y) (hd : d.ev frc = .v (.int k (i.ev ρ.i))) {o o' : Orc} (e : iaddrS s x i ss o = .ok r o') :
    ∃ z, evOp P (·.ev frc) st (.iaddr s c d) = some (z, st) ∧ R ρ r z ∧ r.bl ss.nv = true := by
  simp only [evOp, hy, hd, intOf?]
  cases x <;> simp only [iaddrS] at e <;> first | exact (bad_ok e).elim | skip
  · rename_i w L
    simp only [R] at hx; subst hx
    cases hl : lstOf ss.ks L with
    | none => rw [hl] at e; exact (bad_ok e).elim
    | some q =>
      obtain ⟨sz, len⟩ := q
      rw [hl] at e; simp only at e
      split at e
      · rename_i hs; subst hs
        obtain ⟨b, o1, e1, e2⟩ := bind_ok e
        cases b with
        | false => exact (bad_ok (by simpa using e2)).elim
        | true =>
          have e2 := ret_ok (by simpa using e2); subst e2
          have hin := inside_ok h.kn e1
          have hk := h.ks _ (lstOf_mem hl)
          simp only [KI.ok] at hk
          simp only [SV.bl, Bool.and_eq_true] at hb
          refine ⟨_, if_pos ⟨⟨hin.1, by rw [← hk.2.1]; exact hin.2⟩, hk.2.2.1⟩, ?_, by simp only [SV.bl, Bool.and_eq_true]; exact ⟨hb.2, hi⟩⟩
          simp only [R, Nat.add_zero]; exact ⟨trivial, hin.1, by rw [← hk.2.1]; exact hin.2⟩
      · exact (bad_ok e).elim
  · rename_i w cs n
    simp only [R] at hx
    obtain ⟨ys, rfl, h1⟩ := hx
    split at e
    · rename_i hc
      simp only [Bool.and_eq_true, decide_eq_true_eq] at hc
      obtain ⟨⟨⟨q1, q2⟩, q3⟩, q4⟩ := hc
      have e := ret_ok e; subst e
      have ei := isK_ev q1 ρ.i
      simp only [SV.bl, Bool.and_eq_true] at hb
      refine ⟨_, if_pos ⟨⟨by rw [ei]; exact q2, by rw [ei]; exact q3⟩, by rw [Rs_length h1]; exact q4⟩, ?_, hb.2⟩
      simp only [R]; exact ⟨ys, by rw [ei], h1⟩
    · exact (bad_ok e).elim
  · rename_i a b sz i0 len cap
    simp only [R] at hx
    obtain ⟨rfl, g0, g1, g2⟩ := hx
    simp only [SV.bl, Bool.and_eq_true] at hb
    split at e
    · rename_i hs; subst hs
      obtain ⟨bb, o1, e1, e2⟩ := bind_ok e
      cases bb with
      | false => exact (bad_ok (by simpa using e2)).elim
      | true =>
        simp only [if_true] at e2
        have hin := inside_ok h.kn e1
        have hcond : 0 ≤ i.ev ρ.i ∧ i.ev ρ.i < ((len.ev ρ.i).toNat : Int) := ⟨hin.1, by omega⟩
        have hsum : ((i0.add i).ev ρ.i).toNat = (i0.ev ρ.i).toNat + (i.ev ρ.i).toNat := by rw [Lin.ev_add]; omega
        have hbl : (i0.add i).below ss.nv = true := add_below hb.2.1 hi
        cases hg : hget ss.hp a with
        | none => rw [hg] at e2; exact (bad_ok e2).elim
        | some ob =>
          rw [hg] at e2
          cases ob <;> simp only at e2 <;> first | exact (bad_ok e2).elim | skip
          · rename_i cs
            obtain ⟨b2, o2, e3, e4⟩ := bind_ok e2
            cases b2 with
            | false => exact (bad_ok (by simpa using e4)).elim
            | true =>
              have e4 := ret_ok (by simpa using e4); subst e4
              have hlt := prv_ok h.kn e3
              rw [Lin.ev_addk, Lin.ev_sub, Lin.ev_k, Lin.ev_add] at hlt
              refine ⟨_, if_pos hcond, ?_⟩
              split
              · rename_i hk
                have ek := isK_ev hk ρ.i
                refine ⟨?_, hb.1⟩
                simp only [R]
                congr 1
                have : (i0.add i).c.toNat = (i0.ev ρ.i).toNat + (i.ev ρ.i).toNat := by rw [← ek]; exact hsum
                rw [this, Nat.add_mul]; omega
              · refine ⟨?_, by simp only [SV.bl, Bool.and_eq_true]; exact ⟨hb.1, hbl⟩⟩
                simp only [R, Nat.add_zero, hsum]
                refine ⟨by congr 1; rw [Nat.add_mul]; omega, by rw [Lin.ev_add]; omega, by rw [Lin.ev_add]; omega⟩
          · split at e2
            · rename_i hz; subst hz
              have e2 := ret_ok e2; subst e2
              refine ⟨_, if_pos hcond, ?_, by simp only [SV.bl, Bool.and_eq_true]; exact ⟨hb.1, hbl⟩⟩
              simp only [R, Nat.add_zero, hsum]
              exact ⟨by congr 1; rw [Nat.add_mul]; omega, by rw [Lin.ev_add]; omega⟩
            · exact (bad_ok e2).elim
    · exact (bad_ok e).elim
  · rename_i a n
    simp only [R] at hx
    obtain ⟨rfl, g0⟩ := hx
    simp only [SV.bl, Bool.and_eq_true] at hb
    obtain ⟨bb, o1, e1, e2⟩ := bind_ok e
    cases bb with
    | false => exact (bad_ok (by simpa using e2)).elim
    | true =>
      have e2 := ret_ok (by simpa using e2); subst e2
      have hin := inside_ok h.kn e1
      refine ⟨_, if_pos ⟨hin.1, by omega⟩, ?_, by simp only [SV.bl, Bool.and_eq_true]; exact ⟨hb.1, hi⟩⟩
      simp only [R, Nat.add_zero, Nat.zero_add]; exact ⟨trivial, hin.1⟩

def iaddrarrS (n s : Nat) (x : SV) (i : Lin) (ss : SS) : M SV := do
  let b ← inside ss.fs i (.k n)
  if b then (match x with
    | .ptr a off => pure (if isK i then .ptr a (off + i.c.toNat * s) else .ptrx a off n s 0 i)
    | .ptrx a st m sz o j => if isK i then pure (.ptrx a st m sz (o + i.c.toNat * s) j) else bad 116
    | .ptrv a sz o j => if isK i then pure (.ptrv a sz (o + i.c.toNat * s) j) else bad 117
    | .lptr L sz o j => if isK i then pure (.lptr L sz (o + i.c.toNat * s) j) else bad 118
    | .lpc cs o => if isK i then pure (.lpc cs (o + i.c.toNat * s)) else bad 119
    | _ => bad 120)
  else bad 121
theorem iaddrarr_ok (h : Sat P ρ ss st) {x r : SV} {y : AV} (hb : x.bl ss.nv = true) (hx : R ρ x y) {n s : Nat} {k : IntKind} {i : Lin} (hi : i.below ss.nv = true) {c d : Opd} (hy : c.ev frc = y) (hd : d.ev frc = .v (.int k (i.ev ρ.i))) {o o' : Orc} (e : iaddrarrS n s x i ss o = .ok r o') :
    ∃ z, evOp P (·.ev frc) st (.iaddrarr n s c d) = some (z, st) ∧ R ρ r z ∧ r.bl ss.nv = true := by
  obtain ⟨b, o1, e1, e2⟩ := bind_ok e
  cases b with
  | false => exact (bad_ok (by simpa using e2)).elim
  | true =>
    simp only [if_true] at e2
    have hin := inside_ok h.kn e1
    rw [Lin.ev_k] at hin
    simp only [evOp, hy, hd, intOf?]
    rw [if_pos hin]
    cases x <;> simp only at e2 <;> first | exact (bad_ok e2).elim | skip
    · simp only [R] at hx; subst hx
      have e2 := ret_ok e2; subst e2
      refine ⟨_, rfl, ?_⟩
      split
      · rename_i hk; refine ⟨?_, hb⟩; simp only [R, isK_ev hk ρ.i]
      · refine ⟨?_, by simp only [SV.bl, Bool.and_eq_true]; exact ⟨hb, hi⟩⟩
        simp only [R, Nat.add_zero]; exact ⟨trivial, hin⟩
    all_goals
      split at e2
      · rename_i hk
        have ek := isK_ev hk ρ.i
        have e2 := ret_ok e2; subst e2
        simp only [R] at hx
        first
          | (obtain ⟨ys, rfl, h1⟩ := hx; exact ⟨_, rfl, ⟨ys, by rw [ek], h1⟩, hb⟩)
          | (obtain ⟨rfl, h1⟩ := hx; exact ⟨_, rfl, ⟨by rw [ek]; congr 1; omega, h1⟩, hb⟩)
      · exact (bad_ok e2).elim

/-! ### parts -/
def fieldS (g : Bool) (off s : Nat) (x : SV) (ss : SS) : M Outs := match x with
  | .agg cs => do
    let r ← opt 122 (getSV cs g s off)
    fin r ss
  | _ => bad 123
theorem field_ok (h : Sat P ρ ss st) {x : SV} {y : AV} (hb : x.bl ss.nv = true) (hx : R ρ x y) {g : Bool} {off s : Nat} {c : Opd} (hy : c.ev frc = y) {outs : Outs} {o o' : Orc} (e : fieldS g off s x ss o = .ok outs o') :
    ∃ z, evOp P (·.ev frc) st (.field g off s c) = some (z, st) ∧ Some1 P ρ ss.nv st z outs := by
  cases x <;> simp only [fieldS] at e <;> first | exact (bad_ok e).elim | skip
  rename_i cs
  simp only [R] at hx
  obtain ⟨ys, rfl, h1⟩ := hx
  obtain ⟨r, o1, e1, e2⟩ := bind_ok e
  obtain ⟨z, g1, g2⟩ := getSV_ok h1 (opt_ok e1)
  exact ⟨z, by simp only [evOp, hy, g1], fin_here h g2 (getSV_bl hb (opt_ok e1)) e2⟩
def indexS (g : Bool) (n s : Nat) (x : SV) (i : Lin) (ss : SS) : M Outs := do
  let b ← inside ss.fs i (.k n)
  if b then (match x with
    | .agg cs => if isK i then do
        let r ← opt 124 (getSV cs g s (i.c.toNat * s))
        fin r ss
      else readX cs g s 0 n s 0 i ss
    | _ => bad 125)
  else bad 126
theorem index_ok (h : Sat P ρ ss st) {x : SV} {y : AV} (hb : x.bl ss.nv = true) (hx : R ρ x y) {g : Bool} {n s : Nat} {k : IntKind} {i : Lin} (hi : i.below ss.nv = true) {c d : Opd} (hy : c.ev frc = y) (hd : d.ev frc = .v (.int k (i.ev ρ.i))) {outs : Outs} {o o' : Orc} (e : indexS g n s x i ss o = .ok outs o') :
    ∃ z, evOp P (·.ev frc) st (.index g n s c d) = some (z, st) ∧ Some1 P ρ ss.nv st z outs := by
  obtain ⟨b, o1, e1, e2⟩ := bind_ok e
  cases b with
  | false => exact (bad_ok (by simpa using e2)).elim
  | true =>
    simp only [if_true] at e2
    have hin := inside_ok h.kn e1
    rw [Lin.ev_k] at hin
    cases x <;> simp only at e2 <;> first | exact (bad_ok e2).elim | skip
    rename_i cs
    simp only [R] at hx
    obtain ⟨ys, rfl, h1⟩ := hx
    simp only [evOp, hy, hd, intOf?]
    rw [if_pos hin]
    split at e2
    · rename_i hk
      obtain ⟨r, o2, e3, e4⟩ := bind_ok e2
      obtain ⟨z, g1, g2⟩ := getSV_ok h1 (opt_ok e3)
      rw [isK_ev hk ρ.i, g1]
      exact ⟨z, rfl, fin_here h g2 (getSV_bl hb (opt_ok e3)) e4⟩
    · obtain ⟨z, g1, g2⟩ := readX_ok h h1 hb hi hin.1 hin.2 e2
      rw [Nat.zero_add, Nat.add_zero] at g1
      rw [g1]; exact ⟨z, rfl, g2⟩
def indexstrS (x : SV) (i : Lin) (ss : SS) : M Outs := do
  let n ← opt 127 (strLen ss.ks x)
  let b ← inside ss.fs i n
  if b then fin (someInt .u8) ss else bad 128
theorem indexstr_ok (h : Sat P ρ ss st) {x : SV} {y : AV} (hx : R ρ x y) {k : IntKind} {i : Lin} {c d : Opd} (hy : c.ev frc = y) (hd : d.ev frc = .v (.int k (i.ev ρ.i))) {outs : Outs} {o o' : Orc} (e : indexstrS x i ss o = .ok outs o') :
    ∃ z, evOp P (·.ev frc) st (.indexstr c d) = some (z, st) ∧ Some1 P ρ ss.nv st z outs := by
  obtain ⟨n, o1, e1, e2⟩ := bind_ok e
  obtain ⟨b, o2, e3, e4⟩ := bind_ok e2
  cases b with
  | false => exact (bad_ok (by simpa using e4)).elim
  | true =>
    simp only [if_true] at e4
    have hin := inside_ok h.kn e3
    obtain ⟨bs, rfl, q1, q2, q3⟩ := strLen_ok h (opt_ok e1) hx
    simp only [evOp, hy, hd, intOf?]
    rw [if_pos hin.1]
    have hlt : (i.ev ρ.i).toNat < bs.size := by omega
    rw [getElem?_pos bs _ hlt]
    refine ⟨_, rfl, fin_here h (someInt_ok ?_) rfl e4⟩
    have := (bs[(i.ev ρ.i).toNat]).toNat_lt
    simp only [inR, ikLo, ikHi]; omega
def extractS (x : SV) (i : Nat) (ss : SS) : M Outs := match x with
  | .tup cs => do
    let r ← opt 129 cs[i]?
    fin r ss
  | _ => bad 130
theorem extract_ok' (h : Sat P ρ ss st) {x : SV} {y : AV} (hb : x.bl ss.nv = true) (hx : R ρ x y) {i : Nat} {c : Opd} (hy : c.ev frc = y) {outs : Outs} {o o' : Orc} (e : extractS x i ss o = .ok outs o') :
    ∃ z, evOp P (·.ev frc) st (.extract c i) = some (z, st) ∧ Some1 P ρ ss.nv st z outs := by
  cases x <;> simp only [extractS] at e <;> first | exact (bad_ok e).elim | skip
  rename_i cs
  simp only [R] at hx
  obtain ⟨ys, rfl, h1⟩ := hx
  obtain ⟨r, o1, e1, e2⟩ := bind_ok e
  obtain ⟨z, g1, g2⟩ := Rs_get h1 (opt_ok e1)
  exact ⟨z, by simp only [evOp, hy, g1], fin_here h g2 (belowS_get hb (opt_ok e1)) e2⟩

def lenS (k : LK) (x : SV) (ss : SS) : M Outs := match k, x with
  | .str, x => do
    let n ← opt 131 (strLen ss.ks x)
    pure [(.int .i64 n, ss)]
  | .sl, .list _ L => match lstOf ss.ks L with
    | some (_, n) => pure [(.int .i64 n, ss)]
    | none => bad 132
  | .sl, .listc _ _ n => if n ≤ LBIG then pure [(.int .i64 (.k n), ss)] else bad 133
  | .sl, .ms _ _ _ _ len _ => do
    let b ← prvIn ss.fs .i64 len
    if b then pure [(.int .i64 len, ss)] else bad 134
  | .sl, .mx _ n => do
    let b ← prvIn ss.fs .i64 n
    if b then pure [(.int .i64 n, ss)] else bad 135
  | _, _ => bad 136
theorem len_ok (h : Sat P ρ ss st) {x : SV} {y : AV} (hb : x.bl ss.nv = true) (hx : R ρ x y) {k : LK} {c : Opd} (hy : c.ev frc = y) {outs : Outs} {o o' : Orc} (e : lenS k x ss o = .ok outs o') :
    ∃ z, evOp P (·.ev frc) st (.len k c) = some (z, st) ∧ Some1 P ρ ss.nv st z outs := by
  have big : ∀ n : Nat, n ≤ LBIG → inR .i64 n := fun n hn => by simp only [LBIG] at hn; simp only [inR, ikLo, ikHi]; omega
  unfold lenS at e
  split at e
  · obtain ⟨n, o1, e1, e2⟩ := bind_ok e
    have e2 := ret_ok e2; subst e2
    obtain ⟨bs, rfl, q1, q2, q3⟩ := strLen_ok h (opt_ok e1) hx
    exact ⟨.int bs.size, by simp only [evOp, hy], one1 (.same h (s := .int .i64 n) q2 (by simp only [R, q1]; exact ⟨trivial, big _ q3⟩))⟩
  · rename_i w L
    simp only [R] at hx; subst hx
    cases hl : lstOf ss.ks L with
    | none => rw [hl] at e; exact (bad_ok e).elim
    | some q =>
      obtain ⟨sz, n⟩ := q
      rw [hl] at e
      have e := ret_ok e; subst e
      have hk := h.ks _ (lstOf_mem hl)
      simp only [KI.bl, Bool.and_eq_true, KI.ok] at hk
      exact ⟨.int (ρ.n L), by simp only [evOp, hy], one1 (.same h (s := .int .i64 n) hk.1.2 (by simp only [R, hk.2.1]; exact ⟨trivial, big _ hk.2.2.2⟩))⟩
  · simp only [R] at hx
    obtain ⟨ys, rfl, _⟩ := hx
    split at e
    · rename_i hn
      have e := ret_ok e; subst e
      rename_i m _; exact ⟨.int (m : Nat), by simp only [evOp, hy], one1 (.same h (s := .int .i64 (.k _)) rfl (by simp only [R, Lin.ev_k]; exact ⟨trivial, big _ hn⟩))⟩
    · exact (bad_ok e).elim
  · rename_i a b sz i len cap
    simp only [R] at hx
    obtain ⟨rfl, g0, g1, g2⟩ := hx
    simp only [SV.bl, Bool.and_eq_true] at hb
    obtain ⟨b, o1, e1, e2⟩ := bind_ok e
    cases b with
    | false => exact (bad_ok (by simpa using e2)).elim
    | true =>
      have e2 := ret_ok (by simpa using e2); subst e2
      refine ⟨.int ((len.ev ρ.i).toNat : Int), by simp only [evOp, hy], one1 (.same h (s := .int .i64 _) hb.2.2.1 ?_)⟩
      simp only [R]; exact ⟨by rw [Int.toNat_of_nonneg g1], prvIn_ok h.kn e1⟩
  · rename_i a n
    simp only [R] at hx
    obtain ⟨rfl, g0⟩ := hx
    simp only [SV.bl, Bool.and_eq_true] at hb
    obtain ⟨b, o1, e1, e2⟩ := bind_ok e
    cases b with
    | false => exact (bad_ok (by simpa using e2)).elim
    | true =>
      have e2 := ret_ok (by simpa using e2); subst e2
      refine ⟨.int ((n.ev ρ.i).toNat : Int), by simp only [evOp, hy], one1 (.same h (s := .int .i64 _) hb.2 ?_)⟩
      simp only [R]; exact ⟨by rw [Int.toNat_of_nonneg g0], prvIn_ok h.kn e1⟩
  · exact (bad_ok e).elim
end
end
end Go.EF.Rk
end
