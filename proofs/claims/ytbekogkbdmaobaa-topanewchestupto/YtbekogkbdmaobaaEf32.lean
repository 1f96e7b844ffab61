/- The law's own steps: lists that are written over; a call that is made twice. No conditions. -/
import Derived.Test.YtbekogkbdmaobaaEf31
namespace Go.EF
open Go Go.RowKit

section
variable {P : Program} {N : Nat} {lf : List AV} {st : St} {s0 : Base} {Q : Jmp → (Nat → AV) → St → Prop} {bb : CC} {m : List Cell} {t : List (Own × Nat)} {d : Option Nat} {r : List GOp}

theorem wr_iaddrx {sz : Nat} {x i : Opd} (a len : Nat) (hx : x.ev (L lf) = .mx a len) (ix : Int) (hi : i.ev (L lf) = .int ix) (h : 0 ≤ ix ∧ ix < len) (hd : dok lf d = true) (k : RO P N r bb (stx lf d (.ptr a (0 + ix.toNat * sz))) st Q) :
    RO P N (⟨d, none, .iaddr sz x i⟩ :: r) bb lf st Q :=
  wr_op (.ptr a (0 + ix.toNat * sz)) (by simp only [evOp, hx, hi, intOf?]; rw [if_pos h]) rfl hd k

theorem wr_storex {sz : Nat} {p x : Opd} (H : SP s0 m t st) (j : Nat) (a off : Nat) (cs : List AV) (nw : Bool) (hj : m[j]? = some ⟨a, .vec cs, nw⟩) (hp : p.ev (L lf) = .ptr a off) (v : AV) (hv : x.ev (L lf) = v) (h1 : v.boxable = true) (h2 : v.cells.all AV.one = true)
    (h3 : v.cells.length = sz) (h4 : off + sz ≤ cs.length) (hd : dok lf d = true) (k : ∀ st' (cs' : List AV), (cs'.length : Int) = cs.length → SP s0 (putC m j (.vec cs')) t st' → RO P N r bb (stx lf d .junk) st' Q) :
    RO P N (⟨d, none, .store sz p x⟩ :: r) bb lf st Q := by
  have hf := H.facts _ (List.mem_of_getElem? hj)
  simp only at hf
  refine wr_op .junk (st' := st.set a (.vec (splice cs off v.cells))) ?_ rfl hd (k _ _ (by rw [splice_length (by omega)]) (H.set j hj rfl _))
  simp only [evOp, hp, hv, storeS, hf]
  rw [if_pos ⟨h1, h2, h3, h4⟩]
end

/-- Behind the writing over: what was there before the call is as it was behind it. -/
theorem SP.wiped {s0 : Base} {st s2 : St} {m : List Cell} {t : List (Own × Nat)} (H : SP s0 m t st) (n : Nat) (hn0 : s0.st.next ≤ n) (hm : ∀ c ∈ m, c.a < n) (hn : st.next ≤ s2.next) (hk : ∀ a, a < n → s2.get a = st.get a) : SP s0 m [] s2 :=
  ⟨Nat.le_trans H.next hn, fun a ha hp hx => by rw [hk a (Nat.lt_of_lt_of_le ha hn0)]; exact H.old a ha hp hx, fun x hx => by rw [hk x.a (hm x hx)]; exact H.facts x hx, H.isnew, H.nodup, by simp, by simp⟩

theorem okl_of {τ : Type} {st0 : Base} {st : St} {o : Own} {sz : Nat} {l : List τ} {enc : τ → List AV} (g : Grown st0 st (o, sz)) (h : o = .exact → l = []) : OkL st o (l.flatMap enc) := by
  cases o with
  | any => exact g.elim
  | exact => exact .inl (by rw [h rfl]; rfl)
  | tok a => exact .inr ⟨a, sz, rfl, g.2⟩

theorem all_sc_I (l : List Int) : (l.flatMap encI).all AV.sc = true := by
  induction l with
  | nil => rfl
  | cons x l ih => simp only [List.flatMap_cons, encI, List.cons_append, List.nil_append, List.all_cons, AV.sc, Bool.true_and]; exact ih
theorem all_sc_S (l : List ByteArray) : (l.flatMap encS).all AV.sc = true := by
  induction l with
  | nil => rfl
  | cons x l ih => simp only [List.flatMap_cons, encS, List.cons_append, List.nil_append, List.all_cons, AV.sc, Bool.true_and]; exact ih

/-- What again asks of a call: the same is put whenever it is called, and what it hands back writes over nothing that was there. -/
def Anew (P : Program) (cl : AV) (xb : Nat) (xs : List AV) (N : List Int) (S : List ByteArray) : Prop :=
  ∀ (s : St) (h : Nat), s.get h = some (.cells hnil) → xb ≠ h → s.get xb = some (.cells xs) → WV P cl [.ptr h 0] s fun r s' =>
    Eff [(h, .cells [lst .any encI N, lst .any encS S])] s s' ∧ WV P r [] s' fun _ s2 => s'.next ≤ s2.next ∧ ∀ a, a < s.next → s2.get a = s'.get a

theorem St.app_get_old {s : St} {os : List AObj} {a : Nat} (h : a < s.next) : (⟨s.objs ++ os⟩ : St).get a = s.get a := by rw [St.get_app, if_pos h]
theorem St.app_next {s : St} {os : List AObj} : (⟨s.objs ++ os⟩ : St).next = s.next + os.length := by simp [St.next]

theorem eff_app {s : St} {h : Nat} {o o' : AObj} (hh : s.get h = some o) (os : List AObj) : Eff [(h, o')] s ⟨(s.set h o').objs ++ os⟩ := by
  have hlt := St.lt_of_get hh
  have hn : (s.set h o').next = s.next := St.next_set _ _ _
  refine ⟨by rw [St.app_next, hn]; omega, fun a ha hp => ?_, fun p hp => ?_⟩
  · rw [St.app_get_old (by omega), St.get_set_ne _ _ (hp _ (List.mem_cons_self ..))]
  · simp at hp; subst hp
    rw [St.app_get_old (by rw [hn]; exact hlt)]; exact St.get_set_same _ _ hlt

theorem app_get_new {s : St} {os : List AObj} (i : Nat) : (⟨s.objs ++ os⟩ : St).get (s.next + i) = os[i]? := by
  rw [St.get_app, if_neg (by omega)]; congr 1; omega

section
variable {P : Program} {f xb : Nat} {xs : List AV} {N : List Int} {S : List ByteArray} {stD : St} {o1 o2 : Own}

/-- A call that hands back nothing to write over. -/
theorem anew0 {g : Nat} (hf : frees xs = true) (hcs : CallSound P f [.ptr 0 0, .lptr xs 0] stC (.fn g [] []) stD)
    (h0 : stD.get 0 = some (.cells [lst o1 encI N, lst o2 encS S])) (k1 : OkL stD o1 (N.flatMap encI)) (k2 : OkL stD o2 (S.flatMap encS))
    (hw : ∀ s, WF P g [] s fun _ s2 => Ext s s2) : Anew P (.fn f [] [.ptr xb 0]) xb xs N S := by
  intro s h hh hne hx
  refine ⟨_, _, ⟨eff_app hh [], ?_⟩, law_call0 (.inr ⟨g, rfl⟩) hcs hh (toC_clo hx hf hne) h0 (all_sc_I N) (all_sc_S S) k1 k2⟩
  refine (hw _).mono fun r s2 hE => ⟨hE.next, fun a ha => hE.get a ?_⟩
  rw [St.app_next, St.next_set]; omega

/-- A call that hands back what writes over a list of numbers. -/
theorem anewI {g c : Nat} {o3 : Own} {l : List Int} (hf : frees xs = true) (hcs : CallSound P f [.ptr 0 0, .lptr xs 0] stC (.fn g [] [.ptr c 0]) stD)
    (h0 : stD.get 0 = some (.cells [lst o1 encI N, lst o2 encS S])) (k1 : OkL stD o1 (N.flatMap encI)) (k2 : OkL stD o2 (S.flatMap encS))
    (hc : stD.get c = some (.cells [lst o3 encI l])) (hc0 : c ≠ 0) (k3 : OkL stD o3 (l.flatMap encI)) (d1 : ∀ a, o3 = .tok a → o1 ≠ .tok a) (d2 : ∀ a, o3 = .tok a → o2 ≠ .tok a)
    (hw0 : ∀ s c, s.get c = some (.cells [.list .any [] 0]) → WF P g [.ptr c 0] s fun _ s2 => Ext s s2)
    (hw1 : ∀ s v c, v ≠ c → s.get v = some (.vec (l.flatMap encI)) → s.get c = some (.cells [.mx v l.length]) → WF P g [.ptr c 0] s fun _ s2 => s.next ≤ s2.next ∧ ∀ a, a < s.next → a ≠ v → s2.get a = s.get a) : Anew P (.fn f [] [.ptr xb 0]) xb xs N S := by
  intro s h hh hne hx
  have hn : (s.set h (.cells [lst .any encI N, lst .any encS S])).next = s.next := St.next_set _ _ _
  by_cases hl : l = []
  · subst hl
    refine ⟨_, _, ⟨eff_app hh _, ?_⟩, law_call1 hcs hh (toC_clo hx hf hne) h0 (all_sc_I N) (all_sc_S S) k1 k2 hc hc0⟩
    refine (hw0 _ _ ?_).mono fun r s2 hE => ⟨hE.next, fun a ha => hE.get a ?_⟩
    · have := app_get_new (s := s.set h (.cells [lst .any encI N, lst .any encS S])) (os := [.cells [.list .any [] ([] : List Int).length]]) 0
      rw [hn] at this; exact this
    · rw [St.app_next, hn]; omega
  · have hcs0 : l.flatMap encI ≠ [] := by
      cases l with
      | nil => exact absurd rfl hl
      | cons x l => simp [encI]
    rcases k3 with h3 | ⟨t3, s3, rfl, hl3⟩
    · exact absurd h3 hcs0
    · refine ⟨_, _, ⟨eff_app hh _, ?_⟩, law_call2 hcs hh (toC_clo hx hf hne) h0 (all_sc_I N) (all_sc_S S) k1 k2 hc hc0 (all_sc_I l) hcs0 hl3 (d1 _ rfl) (d2 _ rfl)⟩
      refine (hw1 _ s.next (s.next + 1) (by omega) ?_ ?_).mono fun r s2 hE => ⟨hE.1, fun a ha => hE.2 a ?_ (by omega)⟩
      · have := app_get_new (s := s.set h (.cells [lst .any encI N, lst .any encS S])) (os := [.vec (l.flatMap encI), .cells [.mx s.next l.length]]) 0
        rw [hn] at this; exact this
      · have := app_get_new (s := s.set h (.cells [lst .any encI N, lst .any encS S])) (os := [.vec (l.flatMap encI), .cells [.mx s.next l.length]]) 1
        rw [hn] at this; exact this
      · rw [St.app_next, hn]; omega

/-- All of an argument is put. -/
theorem all_again {x : AV} (hf : x.free = true) {r : AV} (hr : r = .tup []) (hcs : CallSound P f [x, .ptr 0 0] stC r stD)
    (h0 : stD.get 0 = some (.cells [lst o1 encI N, lst o2 encS S])) (k1 : OkL stD o1 (N.flatMap encI)) (k2 : OkL stD o2 (S.flatMap encS)) (s : St) (h : Nat) (hh : s.get h = some (.cells hnil)) :
    WF P f [x, .ptr h 0] s fun r s' => r = .tup [] ∧ Eff [(h, .cells [lst .any encI N, lst .any encS S])] s s' := by
  subst hr
  exact ⟨_, _, ⟨rfl, eff_app hh []⟩, law_call0 (.inl rfl) hcs hh (toC_all hf) h0 (all_sc_I N) (all_sc_S S) k1 k2⟩
end

theorem awake_any {P : Program} {f : Nat} (h : WF P f [] ⟨[]⟩ fun r _ => r = .bool true) (s : St) : WF P f [] s fun r s' => r = .bool true ∧ s' = s := by
  obtain ⟨r, st, rfl, hcs⟩ := h
  exact ⟨_, _, ⟨rfl, rfl⟩, pure_call hcs⟩
theorem frees_I (l : List Int) : frees (l.flatMap encI) = true := by
  induction l with
  | nil => rfl
  | cons x l ih => simp only [List.flatMap_cons, encI, List.cons_append, List.nil_append, frees, AV.free, Bool.true_and]; exact ih
theorem frees_S (l : List ByteArray) : frees (l.flatMap encS) = true := by
  induction l with
  | nil => rfl
  | cons x l ih => simp only [List.flatMap_cons, encS, List.cons_append, List.nil_append, frees, AV.free, Bool.true_and]; exact ih
theorem frees_app (a b : List AV) : frees (a ++ b) = (frees a && frees b) := by
  induction a with
  | nil => rfl
  | cons x a ih => simp only [List.cons_append, frees, ih, Bool.and_assoc]
theorem frees_flat {τ : Type} {enc : τ → List AV} (h : ∀ x, frees (enc x) = true) (l : List τ) : frees (l.flatMap enc) = true := by
  induction l with
  | nil => rfl
  | cons x l ih => rw [List.flatMap_cons, frees_app, h x, ih]; rfl
end Go.EF
