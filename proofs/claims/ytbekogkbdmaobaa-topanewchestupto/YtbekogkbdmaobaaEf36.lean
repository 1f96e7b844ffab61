/- Calls whose answers are known: what is reckoned once holds in every state. No conditions. -/
import Derived.Test.YtbekogkbdmaobaaEf35
namespace Go.EF
open Go Go.RowKit

mutual
/-- An answer whose lists lie in rows of the call's own, told without the rows. -/
def thaw (st : St) : AV → Option AV
  | .v x => some (.v x)
  | .list own cs n => match cs with
    | [] => some (.list .any [] n)
    | c :: cs => match own with
      | .tok t => match st.get t with
        | some (.arr true _) => match thaws st (c :: cs) with
          | some ds => some (.list .any ds n)
          | none => none
        | _ => none
      | _ => none
  | .agg cs => match thaws st cs with | some ds => some (.agg ds) | none => none
  | .tup cs => match thaws st cs with | some ds => some (.tup ds) | none => none
  | _ => none
def thaws (st : St) : List AV → Option (List AV)
  | [] => some []
  | x :: xs => match thaw st x, thaws st xs with | some y, some ys => some (y :: ys) | _, _ => none
end

section
variable {P : Program} {G G1 : Gh} {st stD : St} {w w' : World}

mutual
theorem vrel_thaw (hb : ∀ t s, stD.get t = some (.arr true s) → ∀ b n c, G1.arr t = some (b, n, c) → w.heap.size ≤ b) (G' : Gh) (hG' : ∀ b o y, w.heap.size ≤ b → G1.fz b o = some y → G'.fz b o = some y) : ∀ (x x' : AV) (y : Value), thaw stD x = some x' → VRel G1 x y → VRel G' x' y
  | .v x, x', y, h, r => by simp only [thaw] at h; cases h; simpa [VRel] using r
  | .list own [] n, x', y, h, r => by
    simp only [thaw] at h; cases h
    simp only [VRel] at r ⊢
    obtain ⟨base, cap, h1, h2, _, ys, h4, h5⟩ := r
    refine ⟨base, cap, h1, h2, trivial, ys, ?_, fun e => ?_⟩
    · simpa [VRels] using h4
    · simp only [VRels] at h4; exact absurd h4 e
  | .list .any (c :: cs) n, x', y, h, r => by simp [thaw] at h
  | .list .exact (c :: cs) n, x', y, h, r => by simp [thaw] at h
  | .list (.tok t) (c :: cs) n, x', y, h, r => by
    simp only [thaw] at h
    split at h
    · rename_i s hl
      split at h
      · rename_i ds hd
        cases h
        simp only [VRel] at r ⊢
        obtain ⟨base, cap, h1, h2, ⟨b2, g1, g2⟩, ys, h4, h5⟩ := r
        refine ⟨base, cap, h1, h2, trivial, ys, vrels_thaw hb G' hG' _ _ _ hd h4, fun e => ?_⟩
        obtain ⟨b, o, e1, e2⟩ := h5 e
        rw [e1] at g2; simp only [Option.some.injEq, Addr.mk.injEq] at g2; obtain ⟨rfl, rfl, _⟩ := g2
        exact ⟨b, 0, e1, fun i z ez => hG' _ _ _ (hb _ _ hl _ _ _ g1) (e2 i z ez)⟩
      · cases h
    · cases h
  | .agg cs, x', y, h, r => by
    simp only [thaw] at h
    split at h
    · rename_i ds hd
      cases h
      simp only [VRel] at r ⊢
      obtain ⟨ys, h1, h2⟩ := r
      exact ⟨ys, h1, vrels_thaw hb G' hG' _ _ _ hd h2⟩
    · cases h
  | .tup cs, x', y, h, r => by
    simp only [thaw] at h
    split at h
    · rename_i ds hd
      cases h
      simp only [VRel] at r ⊢
      obtain ⟨ys, h1, h2⟩ := r
      exact ⟨ys, h1, vrels_thaw hb G' hG' _ _ _ hd h2⟩
    · cases h
  | .junk, _, _, h, _ => by simp [thaw] at h
  | .ptr .., _, _, h, _ => by simp [thaw] at h
  | .lptr .., _, _, h, _ => by simp [thaw] at h
  | .ms .., _, _, h, _ => by simp [thaw] at h
  | .mx .., _, _, h, _ => by simp [thaw] at h
  | .map .., _, _, h, _ => by simp [thaw] at h
  | .fn .., _, _, h, _ => by simp [thaw] at h
  | .yld .., _, _, h, _ => by simp [thaw] at h
theorem vrels_thaw (hb : ∀ t s, stD.get t = some (.arr true s) → ∀ b n c, G1.arr t = some (b, n, c) → w.heap.size ≤ b) (G' : Gh) (hG' : ∀ b o y, w.heap.size ≤ b → G1.fz b o = some y → G'.fz b o = some y) : ∀ (xs xs' : List AV) (ys : List Value), thaws stD xs = some xs' → VRels G1 xs ys → VRels G' xs' ys
  | [], xs', ys, h, r => by simp only [thaws] at h; cases h; simpa [VRels] using r
  | x :: xs, xs', ys, h, r => by
    simp only [thaws] at h
    split at h
    · rename_i a b h1 h2
      cases h
      simp only [VRels] at r ⊢
      obtain ⟨y, ys', rfl, r1, r2⟩ := r
      exact ⟨y, ys', rfl, vrel_thaw hb G' hG' _ _ _ h1 r1, vrels_thaw hb G' hG' _ _ _ h2 r2⟩
    · cases h
end

/-- A call that takes no place and leaves none. -/
theorem free_call {f : Nat} {args : List AV} {r r' : AV} (hf : frees args = true) (hcs : CallSound P f args ⟨[]⟩ r stD) (hr : thaw stD r = some r') : CallSound P f args st r' st := by
  refine ⟨hcs.1, fun G w vargs n hR hv => ?_⟩
  have hR0 : Rel P { w0 := ⟨w, fun b => b < w.heap.size, fun _ h => h⟩, nx := 0, mu := fun _ => none, fz := G.fz, arr := fun _ => none, dfr := [], lps := [] } ⟨[]⟩ w :=
    { nxeq := rfl, below := ⟨rfl, rfl, rfl, Nat.le_refl _, fun _ _ => rfl⟩, dom := by simp, adom := by simp, inj := by simp, fresh := by simp, obj := by simp [St.get], fzok := hR.fzok, fzmu := by simp, arr := by simp [St.get], arrinj := by simp [St.get], dfr := by simp, lps := by simp }
  refine (hcs.2 _ w vargs n hR0 (vrels_free (G := G) (G' := { w0 := ⟨w, fun b => b < w.heap.size, fun _ h => h⟩, nx := 0, mu := fun _ => none, fz := G.fz, arr := fun _ => none, dfr := [], lps := [] }) (fun _ _ _ e => e) _ _ hf hv)).mono ?_
  rintro e w' ⟨v, G1, rfl, hle, _, hR1, hv1⟩
  have hbel := hR1.below
  have hw0 : G1.w0 = _ := hle.w0
  rw [hw0] at hbel
  have same : ∀ k, k < w.heap.size → w'.heap[k]? = w.heap[k]? := fun k h1 => hbel.block k h1
  have at_ : ∀ {k o}, w.heap[k]? = some o → w'.heap[k]? = some o := fun {k o} e => by rw [same k (Array.getElem?_eq_some_iff.1 e).1]; exact e
  have hold : ∀ b o y, G.fz b o = some y → b < w.heap.size := fun b o y e => by obtain ⟨_, _, _, h1, _⟩ := hR.fzok b o y e; exact (Array.getElem?_eq_some_iff.1 h1).1
  have hmub : ∀ a b, G.mu a = some b → b < w.heap.size := fun a b e => (hR.fresh a b e).2
  refine ⟨v, { G with fz := fun b o => if b < w.heap.size then G.fz b o else G1.fz b o }, rfl, ⟨rfl, Nat.le_refl _, fun _ _ => rfl, fun _ _ h => h, fun b o y e => ?_, fun _ _ h => h, fun _ h => h, fun _ h => h⟩, rfl, ?_, ?_⟩
  · show (if b < w.heap.size then _ else _) = _; rw [if_pos (hold b o y e)]; exact e
  · have hle2 : G.le { G with fz := fun b o => if b < w.heap.size then G.fz b o else G1.fz b o } := ⟨rfl, Nat.le_refl _, fun _ _ => rfl, fun _ _ h => h, fun b o y e => by show (if b < w.heap.size then _ else _) = _; rw [if_pos (hold b o y e)]; exact e, fun _ _ h => h, fun _ h => h, fun _ h => h⟩
    refine { nxeq := hR.nxeq, below := ?_, dom := hR.dom, adom := hR.adom, inj := hR.inj, fresh := ?_, obj := ?_, fzok := ?_, fzmu := ?_, arr := ?_, arrinj := hR.arrinj, dfr := ?_, lps := ?_ }
    · exact hR.below.step hbel.os hbel.tape hbel.output hbel.size fun k hk => same k (Nat.lt_of_lt_of_le (G.w0.lt k hk) hR.below.size)
    · intro a b e; have := hR.fresh a b e; exact ⟨this.1, Nat.lt_of_lt_of_le this.2 hbel.size⟩
    · intro a o b e hb
      exact (hR.obj a o b e hb).mono hle2 fun b' hb' => same b' (hR.fresh a b' hb').2
    · intro b o y e
      have e : (if b < w.heap.size then G.fz b o else G1.fz b o) = some y := e
      split at e
      · obtain ⟨vs, t, fr, h1, h2⟩ := hR.fzok b o y e; exact ⟨vs, t, fr, at_ h1, h2⟩
      · exact hR1.fzok b o y e
    · intro a b o e
      show (if b < w.heap.size then _ else _) = _
      rw [if_pos (hmub a b e)]; exact hR.fzmu a b o e
    · intro a sz e
      obtain ⟨b, n, cap, vs, t, g1, g2, g3, g4, g5, g6, g7⟩ := hR.arr a sz e
      refine ⟨b, n, cap, vs, t, g1, at_ g2, g3, g4, g5, fun o ho => ?_, g7⟩
      show (if b < w.heap.size then _ else _) = _
      rw [if_pos (Array.getElem?_eq_some_iff.1 g2).1]; exact g6 o ho
    · intro r hr; obtain ⟨h1, h2⟩ := hR.dfr r hr; exact ⟨h1, at_ h2⟩
    · intro r hr; obtain ⟨h1, rec, h2⟩ := hR.lps r hr; exact ⟨h1, rec, at_ h2⟩
  · refine vrel_thaw (w := w) (fun t s hl b n c g => ?_) _ (fun b o y hb e => ?_) _ _ _ hr hv1
    · obtain ⟨b2, n2, c2, vs, t2, g1, g2, g3, g4, g5, _⟩ := hR1.arr t s hl
      rw [g] at g1; cases g1
      rw [hw0] at g5
      exact Nat.le_of_not_lt g5
    · show (if b < w.heap.size then _ else _) = _; rw [if_neg (by omega)]; exact e
end

/-! ### with answers that are known -/
abbrev Memo := List (Nat × List AV × AV)

def Memo.find : Memo → Nat → List AV → Option AV
  | [], _, _ => none
  | (g, as, x) :: r, f, args => match Nat.beq g f && sames as args with | true => some x | false => Memo.find r f args

def MemoOK (P : Program) (memo : Memo) : Prop := ∀ m ∈ memo, ∀ st, CallSound P m.1 m.2.1 st m.2.2 st

theorem Memo.find_ok {P : Program} : ∀ {memo : Memo}, MemoOK P memo → ∀ {f args x}, memo.find f args = some x → ∀ st, CallSound P f args st x st
  | [], _, f, args, x, h => by simp [Memo.find] at h
  | (g, as, y) :: r, hm, f, args, x, h => by
    simp only [Memo.find] at h
    split at h
    · rename_i hb
      cases h
      simp only [Bool.and_eq_true] at hb
      have := hm _ (List.mem_cons_self ..)
      rw [← Nat.eq_of_beq_eq_true hb.1, ← sames_eq _ _ hb.2]
      exact this
    · exact find_ok (fun m hm' => hm m (List.mem_cons_of_mem _ hm')) h

def runM (P : Program) (tab : Fns) (memo : Memo) (fuel : Nat) : Nat → AV → List AV → St → Option (AV × St)
  | 0, _, _, _ => none
  | n + 1, x, args, st => match x with
    | .fn f first cap => match memo.find f (first ++ args ++ cap) with
      | some r => some (r, st)
      | none => match tab.find f with
        | some (N, rs, cc) => match Nat.ble (first ++ args ++ cap).length N with
          | true => match xc P (runM P tab memo fuel n) N fuel cc (frame0 (first ++ args ++ cap)) st with
            | some (.normal, fr', st') => xres P rs fr' st'
            | some (.ret, fr', st') => xres P rs fr' st'
            | _ => none
          | false => none
        | none => none
    | .yld l => match st.get l with
      | some (.loop .ready _ fr N ps ca cb) => match comp P N ca with
        | some asg => match comp P N cb with
          | some body => match Nat.beq args.length ps.length with
            | true => match xc P (runM P tab memo fuel n) N fuel asg (updz fr ps args) st with
              | some (.normal, fr1, st1) => match st1.get l with
                | some (.loop .ready q1 f1 N1 p1 a1 b1) => match xc P (runM P tab memo fuel n) N fuel body fr1 (st1.set l (.loop .busy q1 f1 N1 p1 a1 b1)) with
                  | some (y, _, st2) => match st2.get l with
                    | some (.loop .busy _ f2 N2 p2 a2 b2) => match y with
                      | .normal => some (.bool true, st2.set l (.loop .ready none f2 N2 p2 a2 b2))
                      | .ret => some (.bool false, st2.set l (.loop .done (some .ret) f2 N2 p2 a2 b2))
                      | .exit id => some (.bool false, st2.set l (.loop .done (some (.exit id)) f2 N2 p2 a2 b2))
                    | _ => none
                  | none => none
                | _ => none
              | _ => none
            | false => none
          | none => none
        | none => none
      | _ => none
    | _ => none

section
variable {P : Program} {tab : Fns} {memo : Memo}
theorem runM_sound (ht : ∀ p ∈ tab, compF P p.1 = some p.2) (hm : MemoOK P memo) {fuel : Nat} : ∀ n, CallOK P (runM P tab memo fuel n)
  | 0 => fun x args st r st' h => by simp [runM] at h
  | n + 1 => fun x args st r st' h K hK => by
    have ih := runM_sound ht hm (fuel := fuel) n
    have hx := fun {N} (c : CC) {fr st x fr' st'} => xc_sound (N := N) (fuel := fuel) ih c fr st x fr' st'
    simp only [runM] at h
    split at h
    · rename_i f first cap
      split at h
      · rename_i x hf
        cases h
        exact ⟨_, _, hK, Memo.find_ok hm hf st⟩
      split at h
      · rename_i N rs cc hf
        have hcf : compF P f = some (N, rs, cc) := Fns.find_ok (Q := fun f x => compF P f = some x) ht hf
        split at h
        · rename_i hn
          have hn := Nat.le_of_ble_eq_true hn
          split at h
          · rename_i fr' s1 he
            obtain ⟨h1, rfl⟩ := xres_ok h
            exact wf_of hcf hn (hx cc he _ ⟨.inl rfl, _, h1, hK⟩)
          · rename_i fr' s1 he
            obtain ⟨h1, rfl⟩ := xres_ok h
            exact wf_of hcf hn (hx cc he _ ⟨.inr rfl, _, h1, hK⟩)
          · cases h
        · cases h
      · cases h
    · rename_i l
      split at h
      · rename_i pend fr N ps ca cb hl
        split at h
        · rename_i asg ha
          split at h
          · rename_i body hb
            split at h
            · rename_i hlen
              split at h
              · rename_i fr1 st1 h1
                split at h
                · rename_i q1 f1 N1 p1 a1 b1 hl1
                  split at h
                  · rename_i y fr2 st2 h2
                    split at h
                    · rename_i q2 f2 N2 p2 a2 b2 hl2
                      refine wy_intro2 hl ha hb (Nat.eq_of_beq_eq_true hlen) (hx asg h1 _ ⟨rfl, q1, f1, N1, p1, a1, b1, hl1, hx body h2 _ ⟨q2, f2, N2, p2, a2, b2, hl2, ?_⟩⟩)
                      cases y <;> (simp only at h; cases h; exact hK)
                    · cases h
                  · cases h
                · cases h
              · cases h
            · cases h
          · cases h
        · cases h
      · cases h
    · cases h

def thawed (r : Option (AV × St)) (x : AV) : Bool := match r with
  | some (y, st) => match thaw st y with | some z => same z x | none => false
  | none => false

/-- An answer that is reckoned once. -/
theorem known (ht : ∀ p ∈ tab, compF P p.1 = some p.2) (hm : MemoOK P memo) {fuel n f : Nat} {args : List AV} {r : AV} (hf : frees args = true) (h : thawed (runM P tab memo fuel n (.fn f [] []) args ⟨[]⟩) r = true) : ∀ st, CallSound P f args st r st := by
  unfold thawed at h
  split at h
  · rename_i y s he
    split at h
    · rename_i z hz
      rw [← same_eq _ _ h]
      obtain ⟨r1, s1, ⟨e1, e2⟩, hcs⟩ := runM_sound ht hm n _ _ _ _ _ he (fun r1 s1 => r1 = y ∧ s1 = s) ⟨rfl, rfl⟩
      subst e1; subst e2
      intro st
      exact free_call hf (by simpa using hcs) hz
    · cases h
  · cases h

theorem runM_true (ht : ∀ p ∈ tab, compF P p.1 = some p.2) (hm : MemoOK P memo) {fuel n f : Nat} (h : isTrue (runM P tab memo fuel n (.fn f [] []) [] ⟨[]⟩) = true) : WF P f [] ⟨[]⟩ fun r _ => r = .bool true := by
  unfold isTrue at h
  split at h
  · rename_i b s he
    subst h
    have := runM_sound ht hm n _ _ _ _ _ he (fun r _ => r = .bool true) rfl
    simpa [WV] using this
  · cases h
end
end Go.EF
