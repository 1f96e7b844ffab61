/- What a law's walk gives, as the statement wants it: the argument read, the answer true, all as it was. No conditions. -/
import Derived.Test.YtbekogkbdmaobaaEf37
import Derived.Carry
import Derived.ChangeShapes
import Derived.CallsIn
namespace Go.EF
open Go Go.RowKit Go.ChangeShapes Go.WideShapes

section
variable {P : Program} {H : Type} {enc : TypeId × Value → H}

/-- A call whose abstract walk starts with nothing but the frozen argument. -/
theorem calls_of_wf {f : FuncId} {as : List AV} {W : World} {v : Value} (hw : WF P f as ⟨[]⟩ fun r _ => r = .bool true) (hv : VRels (gAll W) as [v]) :
    Calls P f #[v] W fun e W' => e = .returned (.bool true) ∧ Below W.heap.size W W' := by
  obtain ⟨r, st', hr, _, hcs⟩ := hw
  subst hr
  have := hcs (gAll W) W #[v] 0 gAll_rel hv
  refine (callsIn_wide.1 this).mono ?_
  rintro e W' ⟨y, G', rfl, hle, _, hR, hy⟩
  have hbel := hR.below
  rw [show G'.w0 = (gAll W).w0 from hle.w0] at hbel
  refine ⟨by simpa [VRel] using hy, hbel.os, hbel.tape, hbel.output, hbel.size, fun k hk => hbel.block k hk⟩

/-- The statement's 'post', where the argument is one and the answer true. -/
theorem post_law {fn : Func} {s : ChangeSpec} {t tb : TypeId} {W W' : World} {v : Value} {d : DataW H} {before : List MemPlace} (hp : fn.params = #[t]) (hr : fn.resultTypes = #[tb]) (htb : P.underlying tb = some .bool) (hs : s.vars = [])
    (hfn : s.fn H [d] = { results := [.lit (.bool true)], args := [d] }) (hl : laidOutB P = true) (hrd : P.readableRec t = true) (hrow : t < P.types.size) (hb : Below W.heap.size W W')
    (hW : DataW.Whole enc P fn.params.toList s.vars false W [v] [d] [] before) : s.post enc P fn false true false false W #[v] (.bool true) W' := by
  have hW' := hW
  obtain ⟨p, q, hA, hV, rfl, hfz, hnd⟩ := hW
  rw [hs] at hV
  obtain ⟨_, rfl⟩ := trodVars_none hV
  rw [hp] at hA
  obtain ⟨v0, vs0, d0, ds0, p0, q0, e1, e2, rfl, h0, r0⟩ := trodAll_cons hA
  obtain ⟨rfl, rfl, rfl⟩ := trodAll_nil r0
  obtain rfl : v = v0 := by simpa using e1
  obtain rfl : d = d0 := by simpa using e2
  have hlt : ∀ x ∈ p0, x.block < W.heap.size := fun x hx => by simpa using hW'.lt x (by simpa using hx)
  refine ⟨[d], [], _, [], p0 ++ [], [], hW', ?_, ?_, ?_, hb.frame _, fun h => by cases h⟩
  · rw [hr]
    simp only [List.append_nil, hfn]
    exact trodAll_mk1 (shut_bool htb true) |> fun h => by simpa [Value.resultList] using h
  · rw [hp]
    simp only [List.append_nil, hfn]
    have := trodAll_mk1 (Below.trod hl hrd hrow h0 hb hlt)
    simpa using this
  · rw [hs]
    simp only [List.append_nil, hfn]
    exact rfl

/-- What the argument is: its cells by its shape. -/
theorem open_law {fn : Func} {t : TypeId} {fs : Array Field} {W : World} {base : Nat} {args : Array Value} {ds gs : List (DataW H)} {before : List MemPlace} {B : Nat} {sh : Sh} (hp : fn.params = #[t]) (ht : P.underlying t = some (.struct fs)) (hsh : shOK P sh t = true)
    (hval : ∀ (j : Nat) t v, fn.params[j]? = some t → args[j]? = some v → Value.okWide P W .any base t v) (hW : DataW.Whole enc P fn.params.toList [] false W args.toList ds gs before) (hB : bulks ds ≤ B) :
    ∃ v d as, args = #[v] ∧ ds = [d] ∧ gs = [] ∧ ShRel B sh as ∧ VRels (gAll W) [.agg as] [v] := by
  obtain ⟨p, q, hA, hV, rfl, hfz, hnd⟩ := hW
  rw [hp] at hA hval
  obtain ⟨v0, vs0, d0, ds0, p0, q0, e1, e2, rfl, h0, r0⟩ := trodAll_cons hA
  obtain ⟨rfl, rfl, rfl⟩ := trodAll_nil r0
  obtain ⟨rfl, rfl⟩ := trodVars_none hV
  obtain rfl : args = #[v0] := by cases args; simp_all
  subst e2
  have hok := hval 0 t v0 rfl rfl
  unfold Value.okWide at hok
  rw [ht] at hok
  obtain ⟨cs, rfl, _⟩ := hok
  obtain ⟨fuel, hr⟩ := h0
  obtain ⟨as, h1, h2⟩ := read sh t fuel _ _ hsh (B := B) (by simpa [bulks] using hB) hr
  refine ⟨_, _, as, rfl, rfl, rfl, h1, ?_⟩
  simp only [VRels, VRel]
  exact ⟨_, [], rfl, ⟨cs, rfl, by simpa [Value.cells] using h2⟩, rfl⟩

/-! ### shapes as records -/
def IsEnc {τ : Type} (B : Nat) (sh : Sh) (enc : τ → List AV) (Φ : τ → Prop) : Prop := ∀ as, ShRel B sh as → ∃ x, Φ x ∧ as = enc x

theorem isEnc_int {B : Nat} : IsEnc B .int encI fun n => -9223372036854775808 ≤ n ∧ n ≤ 9223372036854775807 := fun as h => by
  simp only [ShRel] at h; obtain ⟨n, h1, h2⟩ := h; exact ⟨n, h1, h2⟩
theorem isEnc_str {B : Nat} : IsEnc B .str encS fun s => s.size ≤ B := fun as h => by
  simp only [ShRel] at h; obtain ⟨n, h1, h2⟩ := h; exact ⟨n, h1, h2⟩
theorem isEnc_sl {τ : Type} {B : Nat} {s : Sh} {enc : τ → List AV} {Φ : τ → Prop} (h : IsEnc B s enc Φ) : IsEnc B (.sl s) (fun l : List τ => [lst .any enc l]) fun l => l.length ≤ B ∧ ∀ x ∈ l, Φ x := fun as ha => by
  simp only [ShRel] at ha
  obtain ⟨els, h1, h2, rfl⟩ := ha
  have key : ∀ els : List (List AV), (∀ e ∈ els, ShRel B s e) → ∃ l : List τ, (∀ x ∈ l, Φ x) ∧ els.flatten = l.flatMap enc ∧ els.length = l.length := by
    intro els
    induction els with
    | nil => exact fun _ => ⟨[], by simp, rfl, rfl⟩
    | cons e els ih =>
      intro h2
      obtain ⟨l, k1, k2, k3⟩ := ih fun e he => h2 e (List.mem_cons_of_mem _ he)
      obtain ⟨x, k4, rfl⟩ := h e (h2 _ (List.mem_cons_self ..))
      exact ⟨x :: l, by simpa using ⟨k4, k1⟩, by simp [k2], by simp [k3]⟩
  obtain ⟨l, k1, k2, k3⟩ := key els h2
  exact ⟨l, ⟨by omega, k1⟩, by rw [k2, k3]⟩
end
end Go.EF
