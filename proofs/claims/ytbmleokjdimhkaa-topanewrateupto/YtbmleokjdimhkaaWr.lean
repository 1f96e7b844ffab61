/- The law TopAnewRate as the given row states it, where what it reads is of bounded bulk. No conditions. -/
import Derived.Test.YtbmleokjdimhkaaC1
import Derived.Test.YtbmleokjdimhkaaC2
import Derived.Test.YtbmleokjdimhkaaC3
import Derived.Test.YtbmleokjdimhkaaC4
import Derived.Test.YtbmleokjdimhkaaC5
import Derived.Test.YtbmleokjdimhkaaC6
import Derived.Test.YtbmleokjdimhkaaC7
import Derived.Test.YtbmleokjdimhkaaC8
import Derived.Test.YtbmleokjdimhkaaSw
import Derived.Test.YtbmleokjdimhkaaAw
import Derived.Test.YtbmleokjdimhkaaFf
import Derived.Test.YtbmleokjdimhkaaRows
import Derived.WalkKit
import Derived.ProofKit
import Derived.OpenShut
import Derived.JoinedCond
namespace Go.Proofs.Ytbmleokjdimhkaa
open Go Go.EF Go.EF.Rk Go.RowKit Go.ChangeShapes Go.WideShapes Go.ChangeAt
set_option linter.unusedVariables false
mutual
theorem bulk_le {H : Type} : ∀ d : DataW H, EF.bulk d ≤ Rows.uptoBulk d
  | .lit (.string b) => by simp [EF.bulk, Rows.uptoBulk]
  | .lit (.bool b) => by simp [EF.bulk]
  | .lit (.int k n) => by simp [EF.bulk]
  | .lit (.float k b) => by simp [EF.bulk]
  | .lit .nil => by simp [EF.bulk]
  | .nil => by simp [EF.bulk]
  | .ptr d => by simp [EF.bulk]
  | .slice e r => by
    have := bulks_le e; simp only [EF.bulk, Rows.uptoBulk]; omega
  | .agg q => by
    have := (bulks_le q); simp only [EF.bulk, Rows.uptoBulk]; omega
  | .iface t d => by simp [EF.bulk]
  | .map e => by simp [EF.bulk]
  | .held h => by simp [EF.bulk]
theorem bulks_le {H : Type} : ∀ l : List (DataW H), l.length + EF.bulks l ≤ Rows.uptoBulkAll l
  | [] => by simp [EF.bulks, Rows.uptoBulkAll]
  | d :: r => by
    have h1 := bulk_one d; have h2 := bulks_le r
    simp only [EF.bulks, Rows.uptoBulkAll, List.length_cons]; omega
theorem bulk_one {H : Type} : ∀ d : DataW H, 1 + EF.bulk d ≤ Rows.uptoBulk d
  | .lit (.string b) => by simp [EF.bulk, Rows.uptoBulk]; omega
  | .lit (.bool b) => by simp [EF.bulk, Rows.uptoBulk]
  | .lit (.int k n) => by simp [EF.bulk, Rows.uptoBulk]
  | .lit (.float k b) => by simp [EF.bulk, Rows.uptoBulk]
  | .lit .nil => by simp [EF.bulk, Rows.uptoBulk]
  | .nil => by simp [EF.bulk, Rows.uptoBulk]
  | .ptr d => by simp [EF.bulk, Rows.uptoBulk]
  | .slice e r => by
    have := bulks_le e; simp only [EF.bulk, Rows.uptoBulk]; omega
  | .agg q => by
    have := (bulks_le q); simp only [EF.bulk, Rows.uptoBulk]; omega
  | .iface t d => by simp [EF.bulk, Rows.uptoBulk]
  | .map e => by simp [EF.bulk, Rows.uptoBulk]
  | .held h => by simp [EF.bulk, Rows.uptoBulk]
end

theorem own : ownKnob Try.prog.godebug = none := by kernel_rfl
theorem laidOut : laidOutB Try.prog = true := by kernel_rfl
theorem resTypes : Try.f3.resultTypes = #[4] := by kernel_rfl
theorem clos_ok : ∀ c ∈ clos, ∃ rf drp o, cloB Try.prog tab gs 10 (argQ sh) rf drp c o = true :=
  (List.forall_mem_cons.2 ⟨⟨[], [89, 88, 87, 86, 85, 84, 83, 82, 81, 80, 79, 78, 77, 76, 75, 74, 73, 72, 71, 70, 69, 68, 67, 66, 65, 64, 63, 62, 61, 60, 59, 58, 57, 56, 55, 54, 53, 52, 51, 50, 49, 48, 47, 46, 45, 44, 43, 42, 41, 40, 39, 38, 37, 36, 35, 34, 33, 32, 31, 30, 29, 28, 27, 26, 25, 24, 23, 22, 21, 20, 19, 18, 17, 16, 15, 14, 13, 12, 11, 10, 7, 5, 4, 3, 2], oc1, rc1⟩, (List.forall_mem_cons.2 ⟨⟨[74], [89, 88, 87, 86, 85, 84, 83, 82, 81, 80, 79, 78, 77, 76, 75, 74, 73, 72, 71, 70, 69, 68, 67, 66, 65, 64, 63, 62, 61, 60, 59, 57, 56, 55, 54, 53, 52, 51, 50, 49, 48, 47, 44, 42, 41, 40, 39, 38, 37, 36, 35, 34, 33, 32, 31, 30, 29, 28, 27, 26, 25, 24, 23, 22, 21, 20, 19, 18, 17, 16, 15, 14, 10, 7, 6, 5, 4, 3, 2], oc2, rc2⟩, (List.forall_mem_cons.2 ⟨⟨[74], [89, 88, 87, 86, 85, 84, 83, 82, 81, 80, 79, 78, 77, 76, 75, 74, 73, 72, 71, 70, 69, 68, 67, 66, 65, 64, 63, 62, 61, 60, 59, 57, 56, 55, 54, 53, 52, 51, 50, 48, 47, 46, 44, 42, 41, 40, 39, 38, 37, 36, 35, 34, 33, 32, 31, 30, 29, 28, 27, 26, 25, 24, 23, 22, 21, 20, 19, 17, 15, 14, 13, 12, 11, 10, 7, 6, 5, 4, 3, 2], oc3, rc3⟩, (List.forall_mem_cons.2 ⟨⟨[74], [89, 88, 87, 86, 85, 84, 83, 82, 81, 80, 79, 78, 77, 76, 75, 74, 73, 72, 71, 70, 69, 68, 67, 66, 65, 64, 63, 62, 61, 60, 59, 57, 56, 55, 54, 53, 52, 51, 50, 48, 47, 46, 44, 42, 41, 40, 39, 38, 37, 36, 35, 34, 33, 32, 31, 30, 29, 28, 27, 26, 25, 24, 23, 22, 21, 20, 17, 16, 15, 14, 13, 12, 11, 10, 7, 6, 5, 4, 3, 2], oc4, rc4⟩, (List.forall_mem_cons.2 ⟨⟨[74], [89, 88, 87, 86, 85, 84, 83, 82, 81, 80, 79, 78, 77, 76, 75, 74, 73, 72, 71, 70, 69, 68, 67, 66, 65, 64, 63, 62, 61, 60, 59, 57, 56, 55, 54, 53, 52, 51, 50, 49, 48, 47, 46, 44, 42, 41, 40, 39, 38, 37, 36, 35, 34, 33, 32, 31, 30, 29, 28, 27, 26, 25, 24, 23, 22, 20, 19, 18, 17, 16, 15, 14, 13, 12, 11, 10, 7, 6, 5, 4, 3, 2], oc5, rc5⟩, (List.forall_mem_cons.2 ⟨⟨[74], [89, 88, 87, 86, 85, 84, 83, 82, 81, 80, 79, 78, 77, 76, 75, 74, 73, 72, 71, 70, 69, 68, 67, 66, 65, 64, 63, 62, 61, 60, 59, 57, 55, 54, 53, 52, 51, 50, 49, 48, 47, 44, 43, 42, 41, 40, 39, 38, 37, 36, 35, 34, 33, 32, 31, 30, 29, 28, 27, 26, 25, 22, 21, 20, 19, 18, 17, 16, 15, 14, 12, 11, 10, 7, 6, 5, 4, 3, 2], oc6, rc6⟩, (List.forall_mem_cons.2 ⟨⟨[74], [89, 88, 87, 86, 85, 84, 83, 82, 81, 80, 79, 78, 77, 76, 75, 74, 73, 72, 71, 70, 69, 68, 67, 66, 65, 64, 63, 62, 61, 60, 59, 57, 56, 55, 54, 53, 52, 51, 50, 48, 47, 46, 44, 42, 41, 40, 39, 38, 37, 36, 35, 34, 33, 32, 31, 30, 29, 28, 27, 25, 24, 23, 22, 21, 20, 19, 17, 16, 15, 14, 13, 12, 11, 10, 7, 6, 5, 4, 3, 2], oc7, rc7⟩, (List.forall_mem_cons.2 ⟨⟨[74], [89, 88, 87, 86, 85, 84, 83, 82, 81, 80, 79, 78, 77, 76, 75, 74, 73, 72, 71, 70, 69, 68, 67, 66, 65, 64, 63, 62, 61, 60, 59, 57, 56, 55, 54, 53, 52, 51, 50, 48, 47, 46, 44, 42, 41, 40, 39, 38, 37, 36, 35, 34, 33, 32, 31, 30, 29, 27, 26, 25, 24, 23, 22, 21, 20, 19, 18, 17, 16, 15, 14, 13, 12, 11, 10, 7, 6, 5, 4, 3, 2], oc8, rc8⟩, (fun _ h => nomatch h)⟩)⟩)⟩)⟩)⟩)⟩)⟩)⟩)
theorem wipes_ok : ∀ g ∈ gs, WipeOK Try.prog g :=
  (List.forall_mem_cons.2 ⟨wipeB_ok tab_ok rw2a rw2b rw2c, (List.forall_mem_cons.2 ⟨wipeB_ok tab_ok rw6a rw6b rw6c, (fun _ h => nomatch h)⟩)⟩)
theorem top_wf {ac : List AV} (has : ShRel BB (.agg sh) ac) : WF Try.prog 3 [.agg ac] ⟨[]⟩ fun r _ => r = .bool true :=
  law_wf tab_ok again_ok rsame nil_ok wipes_ok awake_ok clos_ok ⟨[], [88, 87, 86, 80, 79, 78, 77, 76, 75, 74, 73, 72, 71, 70, 69, 65, 64, 63, 62, 61, 60, 59, 58, 57, 56, 55, 54, 53, 52, 51, 50, 49, 48, 47, 46, 45, 44, 43, 42, 41, 40, 39, 38, 37, 36, 35, 34, 33, 31, 30, 29, 28, 27, 26, 25, 24, 23, 22, 21, 20, 19, 17, 16, 15, 14, 13, 12, 11, 10, 9, 7, 6, 5, 3, 2], oall, rall⟩ wf_ok ⟨[], [89, 88, 87, 86, 85, 84, 83, 82, 81, 80, 79, 78, 77, 76, 75, 74, 73, 72, 71, 70, 69, 68, 67, 66, 65, 64, 63, 62, 61, 60, 59, 58, 57, 56, 55, 54, 53, 52, 51, 50, 49, 48, 47, 46, 45, 44, 43, 42, 41, 40, 39, 38, 37, 36, 35, 34, 33, 32, 31, 30, 29, 28, 27, 26, 25, 24, 23, 22, 21, 20, 19, 18, 17, 16, 15, 14, 13, 12, 11, 10, 9, 8, 7, 6, 5, 4, 3, 2], otop, rtop⟩ has

set_option maxRecDepth 100000 in
theorem contract (H : Type) (enc : TypeId × Value → H) (W : World) (base : Nat) (args : Array Value) (ds gs : List (DataW H)) (before : List MemPlace)
    (hval : ∀ (j : Nat) t v, Try.f3.params[j]? = some t → args[j]? = some v → Value.okWide Try.prog W .any base t v)
    (hW : DataW.Whole enc Try.prog Try.f3.params.toList Rows.topAnewRateSpec.vars false W args.toList ds gs before) (hk : Rows.uptoSmall H (ds ++ gs) = true) :
    Calls Try.prog 3 args W fun e W' => ∃ v, e = .returned v ∧ Rows.topAnewRateSpec.post enc Try.prog Try.f3 false true false false W args v W' := by
  have hgs : gs = [] := by obtain ⟨p, q, _, hV, _⟩ := hW; exact (trodVars_none hV).1
  subst hgs
  have hk' : Rows.uptoBulkAll (ds ++ []) ≤ 1048576 := of_decide_eq_true hk
  rw [List.append_nil] at hk'
  have hB : bulks ds ≤ BB := by have := bulks_le ds; show _ ≤ 1048576; omega
  obtain ⟨v, d, ac, rfl, rfl, _, h1, h2⟩ := open_law (B := BB) (sh := .agg sh) Try.params3 Try.underlying28 (by kernel_rfl) hval hW hB
  refine (calls_of_wf (top_wf h1) h2).mono ?_
  rintro e W' ⟨rfl, hb⟩
  exact ⟨_, rfl, post_law Try.params3 resTypes Try.underlying4 rfl rfl laidOut (by kernel_rfl) (of_decide_eq_true (by kernel_rfl)) hb hW⟩

set_option maxRecDepth 100000 in
theorem lifted (os : Os) (started : os.Started) (H : Type) (enc : TypeId × Value → H) (F : Stop.Interp) :
    ReturnsInHanded {} Try.checked os 3 .any ((Rows.OpenSpec.upto Rows.topAnewRateSpec).pre6 enc Try.prog Try.f3 Rows.topAnewRateUptoRow.domain false) (((Rows.OpenSpec.upto Rows.topAnewRateSpec).at F).post enc Try.prog Try.f3 false true false false) := by
  refine returnsInHanded_of_cond (C := Try.checked) (s := Rows.OpenSpec.upto Rows.topAnewRateSpec) (k := Rows.uptoSmall) rfl own started (by kernel_rfl) Try.func3
    (OpenSpec.witness (enc := enc) (C := Try.checked) (s := Rows.OpenSpec.upto Rows.topAnewRateSpec) (k := Rows.uptoSmall) rfl false ⟨#[], #[.agg #[.int .i64 0, .slice none 0 0, .int .i64 0, .slice none 0 0, .slice none 0 0, .int .i64 0, .int .i64 0, .int .i64 0, .int .i64 0, .int .i64 0]], []⟩ 8 (by kernel_rfl) (by kernel_rfl) (by kernel_rfl)
      (x := ([.agg [.agg [.lit (.int .i64 0), .nil, .lit (.int .i64 0), .nil, .nil], .lit (.int .i64 0), .lit (.int .i64 0), .lit (.int .i64 0), .lit (.int .i64 0), .lit (.int .i64 0)]], [], [])) (by kernel_rfl) rfl (by kernel_rfl)) ?_
  intro W base args ds gs before hval hW _ hk _
  exact contract H enc W base args ds gs before hval hW hk

theorem proved : Rows.TopAnewRateUptoSaid :=
  OpenClaim.holds_of_cond 3 Try.f3 rfl rfl rfl rfl rfl rfl rfl ⟨rfl, rfl, rfl, rfl, rfl⟩ rfl rfl rfl rfl rfl (by kernel_rfl) Try.func3 (by kernel_rfl)
    (of_decide_eq_true (by kernel_rfl)) (by unfold Func.isWrapper; first | (rw [if_pos (by decide +kernel)]; kernel_rfl) | (rw [if_neg (by decide +kernel)]; exact ⟨rfl, rfl⟩))
    (fun os started H enc _ F => lifted os started H enc F)
end Go.Proofs.Ytbmleokjdimhkaa
