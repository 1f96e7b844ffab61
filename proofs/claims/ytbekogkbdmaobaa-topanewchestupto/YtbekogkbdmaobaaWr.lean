/- The law TopAnewChest as the given row states it, where what it reads is of bounded bulk. No conditions. -/
import Derived.Test.YtbekogkbdmaobaaPy
import Derived.Test.YtbekogkbdmaobaaAw
import Derived.Test.YtbekogkbdmaobaaEf38
import Derived.Test.YtbekogkbdmaobaaRows
import Derived.WalkKit
import Derived.ProofKit
import Derived.OpenShut
import Derived.JoinedCond
namespace Go.Proofs.Ytbekogkbdmaobaa
open Go Go.EF Go.RowKit Go.ChangeShapes Go.WideShapes Go.ChangeAt
set_option linter.unusedVariables false
abbrev BIG : Nat := 1048576

theorem shRels_cons {s : Sh} {r : List Sh} {ac : List AV} (h : ShRels BIG (s :: r) ac) : ∃ a b, ac = a ++ b ∧ ShRel BIG s a ∧ ShRels BIG r b := h
theorem shRels_nil {ac : List AV} (h : ShRels BIG [] ac) : ac = [] := h

abbrev shChCopy : Sh := .agg [.int, .int, .int, .int]
def okChCopy (x : ChCopy) : Prop := (-9223372036854775808 ≤ x.Number ∧ x.Number ≤ 9223372036854775807) ∧ (-9223372036854775808 ≤ x.Words ∧ x.Words ≤ 9223372036854775807) ∧ (-9223372036854775808 ≤ x.Facts ∧ x.Facts ≤ 9223372036854775807) ∧ (-9223372036854775808 ≤ x.May ∧ x.May ≤ 9223372036854775807)
theorem isEnc_ChCopy : IsEnc BIG shChCopy encCopy okChCopy := fun ac h => by
  have g0 : ShRels BIG _ ac := h
  obtain ⟨a0, b0, rfl, h0, g1⟩ := shRels_cons g0
  obtain ⟨a1, b1, rfl, h1, g2⟩ := shRels_cons g1
  obtain ⟨a2, b2, rfl, h2, g3⟩ := shRels_cons g2
  obtain ⟨a3, b3, rfl, h3, g4⟩ := shRels_cons g3
  obtain rfl := shRels_nil g4
  obtain ⟨x0, p0, rfl⟩ := isEnc_int a0 h0
  obtain ⟨x1, p1, rfl⟩ := isEnc_int a1 h1
  obtain ⟨x2, p2, rfl⟩ := isEnc_int a2 h2
  obtain ⟨x3, p3, rfl⟩ := isEnc_int a3 h3
  exact ⟨⟨x0, x1, x2, x3⟩, ⟨p0, p1, p2, p3⟩, rfl⟩

abbrev shChRule : Sh := .agg [.int, .int]
def okChRule (x : ChRule) : Prop := (-9223372036854775808 ≤ x.If ∧ x.If ≤ 9223372036854775807) ∧ (-9223372036854775808 ≤ x.Then ∧ x.Then ≤ 9223372036854775807)
theorem isEnc_ChRule : IsEnc BIG shChRule encRule okChRule := fun ac h => by
  have g0 : ShRels BIG _ ac := h
  obtain ⟨a0, b0, rfl, h0, g1⟩ := shRels_cons g0
  obtain ⟨a1, b1, rfl, h1, g2⟩ := shRels_cons g1
  obtain rfl := shRels_nil g2
  obtain ⟨x0, p0, rfl⟩ := isEnc_int a0 h0
  obtain ⟨x1, p1, rfl⟩ := isEnc_int a1 h1
  exact ⟨⟨x0, x1⟩, ⟨p0, p1⟩, rfl⟩

abbrev shChChest : Sh := .agg [.int, .int, (.sl .str), .int, (.sl shChCopy), (.sl shChRule)]
def okChChest (x : ChChest) : Prop := (-9223372036854775808 ≤ x.Words ∧ x.Words ≤ 9223372036854775807) ∧ (-9223372036854775808 ≤ x.Facts ∧ x.Facts ≤ 9223372036854775807) ∧ (x.People.length ≤ BIG ∧ ∀ y ∈ x.People, y.size ≤ BIG) ∧ (-9223372036854775808 ≤ x.Last ∧ x.Last ≤ 9223372036854775807) ∧ (x.Copies.length ≤ BIG ∧ ∀ y ∈ x.Copies, okChCopy y) ∧ (x.Rules.length ≤ BIG ∧ ∀ y ∈ x.Rules, okChRule y)
theorem isEnc_ChChest : IsEnc BIG shChChest encChest okChChest := fun ac h => by
  have g0 : ShRels BIG _ ac := h
  obtain ⟨a0, b0, rfl, h0, g1⟩ := shRels_cons g0
  obtain ⟨a1, b1, rfl, h1, g2⟩ := shRels_cons g1
  obtain ⟨a2, b2, rfl, h2, g3⟩ := shRels_cons g2
  obtain ⟨a3, b3, rfl, h3, g4⟩ := shRels_cons g3
  obtain ⟨a4, b4, rfl, h4, g5⟩ := shRels_cons g4
  obtain ⟨a5, b5, rfl, h5, g6⟩ := shRels_cons g5
  obtain rfl := shRels_nil g6
  obtain ⟨x0, p0, rfl⟩ := isEnc_int a0 h0
  obtain ⟨x1, p1, rfl⟩ := isEnc_int a1 h1
  obtain ⟨x2, p2, rfl⟩ := (isEnc_sl isEnc_str) a2 h2
  obtain ⟨x3, p3, rfl⟩ := isEnc_int a3 h3
  obtain ⟨x4, p4, rfl⟩ := (isEnc_sl isEnc_ChCopy) a4 h4
  obtain ⟨x5, p5, rfl⟩ := (isEnc_sl isEnc_ChRule) a5 h5
  exact ⟨⟨x0, x1, x2, x3, x4, x5⟩, ⟨p0, p1, p2, p3, p4, p5⟩, rfl⟩

abbrev shAnewChest : Sh := .agg [shChChest, .int, (.sl .int), (.sl .int), .int, .int]
def okAnewChest (x : AnewChest) : Prop := okChChest x.Chest ∧ (-9223372036854775808 ≤ x.Person ∧ x.Person ≤ 9223372036854775807) ∧ (x.Words.length ≤ BIG ∧ ∀ y ∈ x.Words, (-9223372036854775808 ≤ y ∧ y ≤ 9223372036854775807)) ∧ (x.Copies.length ≤ BIG ∧ ∀ y ∈ x.Copies, (-9223372036854775808 ≤ y ∧ y ≤ 9223372036854775807)) ∧ (-9223372036854775808 ≤ x.Number ∧ x.Number ≤ 9223372036854775807) ∧ (-9223372036854775808 ≤ x.Fact ∧ x.Fact ≤ 9223372036854775807)
theorem isEnc_AnewChest : IsEnc BIG shAnewChest encAnew okAnewChest := fun ac h => by
  have g0 : ShRels BIG _ ac := h
  obtain ⟨a0, b0, rfl, h0, g1⟩ := shRels_cons g0
  obtain ⟨a1, b1, rfl, h1, g2⟩ := shRels_cons g1
  obtain ⟨a2, b2, rfl, h2, g3⟩ := shRels_cons g2
  obtain ⟨a3, b3, rfl, h3, g4⟩ := shRels_cons g3
  obtain ⟨a4, b4, rfl, h4, g5⟩ := shRels_cons g4
  obtain ⟨a5, b5, rfl, h5, g6⟩ := shRels_cons g5
  obtain rfl := shRels_nil g6
  obtain ⟨x0, p0, rfl⟩ := isEnc_ChChest a0 h0
  obtain ⟨x1, p1, rfl⟩ := isEnc_int a1 h1
  obtain ⟨x2, p2, rfl⟩ := (isEnc_sl isEnc_int) a2 h2
  obtain ⟨x3, p3, rfl⟩ := (isEnc_sl isEnc_int) a3 h3
  obtain ⟨x4, p4, rfl⟩ := isEnc_int a4 h4
  obtain ⟨x5, p5, rfl⟩ := isEnc_int a5 h5
  exact ⟨⟨x0, x1, x2, x3, x4, x5⟩, ⟨p0, p1, p2, p3, p4, p5⟩, rfl⟩

mutual
theorem bulk_le {H : Type} : ∀ d : DataW H, EF.bulk d ≤ Rows.uptoBulk d
  | .lit (.string b) => by simp [EF.bulk, Rows.uptoBulk]
  | .lit (.bool b) => by simp [EF.bulk]
  | .lit (.int k n) => by simp [EF.bulk]
  | .lit (.float k b) => by simp [EF.bulk]
  | .lit .nil => by simp [EF.bulk]
  | .nil => by simp [EF.bulk]
  | .ptr d => by simp [EF.bulk]
  | .slice e r => by
    have := bulks_le e; simp only [EF.bulk, Rows.uptoBulk]; omega
  | .agg q => by
    have := (bulks_le q); simp only [EF.bulk, Rows.uptoBulk]; omega
  | .iface t d => by simp [EF.bulk]
  | .map e => by simp [EF.bulk]
  | .held h => by simp [EF.bulk]
theorem bulks_le {H : Type} : ∀ l : List (DataW H), l.length + EF.bulks l ≤ Rows.uptoBulkAll l
  | [] => by simp [EF.bulks, Rows.uptoBulkAll]
  | d :: r => by
    have h1 := bulk_one d; have h2 := bulks_le r
    simp only [EF.bulks, Rows.uptoBulkAll, List.length_cons]; omega
theorem bulk_one {H : Type} : ∀ d : DataW H, 1 + EF.bulk d ≤ Rows.uptoBulk d
  | .lit (.string b) => by simp [EF.bulk, Rows.uptoBulk]; omega
  | .lit (.bool b) => by simp [EF.bulk, Rows.uptoBulk]
  | .lit (.int k n) => by simp [EF.bulk, Rows.uptoBulk]
  | .lit (.float k b) => by simp [EF.bulk, Rows.uptoBulk]
  | .lit .nil => by simp [EF.bulk, Rows.uptoBulk]
  | .nil => by simp [EF.bulk, Rows.uptoBulk]
  | .ptr d => by simp [EF.bulk, Rows.uptoBulk]
  | .slice e r => by
    have := bulks_le e; simp only [EF.bulk, Rows.uptoBulk]; omega
  | .agg q => by
    have := (bulks_le q); simp only [EF.bulk, Rows.uptoBulk]; omega
  | .iface t d => by simp [EF.bulk, Rows.uptoBulk]
  | .map e => by simp [EF.bulk, Rows.uptoBulk]
  | .held h => by simp [EF.bulk, Rows.uptoBulk]
end

theorem own : ownKnob Try.prog.godebug = none := by kernel_rfl
theorem laidOut : laidOutB Try.prog = true := by kernel_rfl
theorem resTypes : Try.f3.resultTypes = #[4] := by kernel_rfl

set_option maxRecDepth 100000 in
theorem contract (H : Type) (enc : TypeId × Value → H) (W : World) (base : Nat) (args : Array Value) (ds gs : List (DataW H)) (before : List MemPlace)
    (hval : ∀ (j : Nat) t v, Try.f3.params[j]? = some t → args[j]? = some v → Value.okWide Try.prog W .any base t v)
    (hW : DataW.Whole enc Try.prog Try.f3.params.toList Rows.topAnewChestSpec.vars false W args.toList ds gs before) (hk : Rows.uptoSmall H (ds ++ gs) = true) :
    Calls Try.prog 3 args W fun e W' => ∃ v, e = .returned v ∧ Rows.topAnewChestSpec.post enc Try.prog Try.f3 false true false false W args v W' := by
  have hgs : gs = [] := by obtain ⟨p, q, _, hV, _⟩ := hW; exact (trodVars_none hV).1
  subst hgs
  have hk' : Rows.uptoBulkAll (ds ++ []) ≤ 1048576 := of_decide_eq_true hk
  rw [List.append_nil] at hk'
  have hB : bulks ds ≤ BIG := by have := bulks_le ds; show _ ≤ 1048576; omega
  obtain ⟨v, d, ac, rfl, rfl, _, h1, h2⟩ := open_law (B := BIG) (sh := shAnewChest) Try.params3 Try.underlying29 (by kernel_rfl) hval hW hB
  obtain ⟨x, hx, rfl⟩ := isEnc_AnewChest ac h1
  have hwf : WF Try.prog 3 [.agg [(.int (x.Chest.Words)), (.int (x.Chest.Facts)), (lst .any encS x.Chest.People), (.int (x.Chest.Last)), (lst .any encCopy x.Chest.Copies), (lst .any encRule x.Chest.Rules), (.int (x.Person)), (lst .any encI x.Words), (lst .any encI x.Copies), (.int (x.Number)), (.int (x.Fact))]] ⟨[]⟩ (fun r _ => r = .bool true) := by
    have hp := hx.1.2.2.1.1
    have hc := hx.1.2.2.2.2.1.1
    have hr := hx.1.2.2.2.2.2.1
    have hw := hx.2.2.1.1
    have hq := hx.2.2.2.1.1
    simp only [BIG] at hp hc hr hw hq
    exact (top_ok x ⟨[]⟩ awake_ok (by omega) (by omega) (by omega) (by omega) (by omega)).mono fun _ _ h => h.1
  refine (calls_of_wf hwf h2).mono ?_
  rintro e W' ⟨rfl, hb⟩
  exact ⟨_, rfl, post_law Try.params3 resTypes Try.underlying4 rfl rfl laidOut (by kernel_rfl) (of_decide_eq_true (by kernel_rfl)) hb hW⟩

set_option maxRecDepth 100000 in
theorem lifted (os : Os) (started : os.Started) (H : Type) (enc : TypeId × Value → H) (F : Stop.Interp) :
    ReturnsInHanded {} Try.checked os 3 .any ((Rows.OpenSpec.upto Rows.topAnewChestSpec).pre6 enc Try.prog Try.f3 Rows.topAnewChestUptoRow.domain false) (((Rows.OpenSpec.upto Rows.topAnewChestSpec).at F).post enc Try.prog Try.f3 false true false false) := by
  refine returnsInHanded_of_cond (C := Try.checked) (s := Rows.OpenSpec.upto Rows.topAnewChestSpec) (k := Rows.uptoSmall) rfl own started (by kernel_rfl) Try.func3
    (OpenSpec.witness (enc := enc) (C := Try.checked) (s := Rows.OpenSpec.upto Rows.topAnewChestSpec) (k := Rows.uptoSmall) rfl false ⟨#[], #[.agg #[.int .i64 0, .int .i64 0, .slice none 0 0, .int .i64 0, .slice none 0 0, .slice none 0 0, .int .i64 0, .slice none 0 0, .slice none 0 0, .int .i64 0, .int .i64 0]], []⟩ 8 (by kernel_rfl) (by kernel_rfl) (by kernel_rfl)
      (x := ([.agg [.agg [.lit (.int .i64 0), .lit (.int .i64 0), .nil, .lit (.int .i64 0), .nil, .nil], .lit (.int .i64 0), .nil, .nil, .lit (.int .i64 0), .lit (.int .i64 0)]], [], [])) (by kernel_rfl) rfl (by kernel_rfl)) ?_
  intro W base args ds gs before hval hW _ hk _
  exact contract H enc W base args ds gs before hval hW hk

theorem proved : Rows.TopAnewChestUptoSaid :=
  OpenClaim.holds_of_cond 3 Try.f3 rfl rfl rfl rfl rfl rfl rfl ⟨rfl, rfl, rfl, rfl, rfl⟩ rfl rfl rfl rfl rfl (by kernel_rfl) Try.func3 (by kernel_rfl)
    (of_decide_eq_true (by kernel_rfl)) (by unfold Func.isWrapper; first | (rw [if_pos (by decide +kernel)]; kernel_rfl) | (rw [if_neg (by decide +kernel)]; exact ⟨rfl, rfl⟩))
    (fun os started H enc _ F => lifted os started H enc F)
end Go.Proofs.Ytbekogkbdmaobaa
