import Derived.Test.YtbekogkbdmaobaaCc
import Derived.Test.YtbekogkbdmaobaaTyx
import Derived.Test.YtbekogkbdmaobaaEf32
namespace Go.Proofs.Ytbekogkbdmaobaa
open Go Go.EF Go.Proofs
set_option linter.unusedVariables false
set_option maxRecDepth 100000

set_option maxHeartbeats 4000000 in
theorem idxI_ok (own : EF.Own) (l : List Int) (fv : AV) (φ : Int → Bool → Prop) (st : St) (hl : l.length < 2 ^ 62) (hf : ∀ x ∈ l, ∀ s, Ext st s → WV Try.prog fv [(.int (x))] s fun r s' => ∃ b, r = .bool b ∧ φ x b ∧ Ext s s') : WF Try.prog 81 [(lst own encI l), fv] st fun r st' => ∃ i : Int, r = .int i ∧ ((i = -1 ∧ ∀ x ∈ l, φ x false) ∨ ∃ (n : Nat) (x : Int), i = n ∧ l[n]? = some x ∧ φ x true) ∧ Ext st st' := by
 refine wf_L c81 rfl ?_
 have H := SP.start st
 refine wl_tail ?_
 refine wl_assoc ?_
 refine wl_ops ?_
 refine wr_run 1 [(4, (.int (0)))] (by kernel_rfl) ?_
 refine wr_done ?_
 refine wl_assoc ?_
 refine wl_assoc ?_
 refine wl_ops ?_
 refine wr_run 3 [(6, (lst own encI l)), (7, (.int ((l.length : Nat)))), (8, (.int (0)))] (by kernel_rfl) ?_
 refine wr_done ?_
 refine wl_loop (σ := (Nat)) (fun (zz : (Nat)) (lf : List AV) (st' : St) => match zz with | i => ∃ x4_1 x5_1 x9_1 x10_1 x11_1 x12_1 x13_1 x14_1 x15_1 x16_1 x17_1 x18_1 : AV, lf = [(lst own encI l), fv, .junk, .junk, x4_1, x5_1, (lst own encI l), (.int ((l.length : Nat))), (.int ((i : Int))), x9_1, x10_1, x11_1, x12_1, x13_1, x14_1, x15_1, x16_1, x17_1, x18_1] ∧ SP st [] [] st' ∧ i ≤ l.length ∧ ∀ x ∈ l.take i, φ x false) (fun (zz : (Nat)) => match zz with | i => l.length - i) 0 ⟨(.int (0)), .junk, .junk, .junk, .junk, .junk, .junk, .junk, .junk, .junk, .junk, .junk, by kernel_rfl, H, Nat.zero_le _, by simp⟩ ?_
 clear H
 intro i lf st1 hI Q1 hN1 hE1 hX1
 dsimp only at hI
 obtain ⟨x4_1, x5_1, x9_1, x10_1, x11_1, x12_1, x13_1, x14_1, x15_1, x16_1, x17_1, x18_1, rfl, H, hi, hφ⟩ := hI
 refine wl_tail ?_
 refine wl_assoc ?_
 refine wl_ops ?_
 refine wr_run 1 [(9, (.bool (decide (((i : Int) : Int) < ((l.length : Nat) : Int)))))] (by kernel_rfl) ?_
 refine wr_done ?_
 refine wl_assoc ?_
 refine wl_cond (decide (((i : Int) : Int) < ((l.length : Nat) : Int))) (by kernel_rfl) (fun c2 => ?_) (fun c2 => ?_)
 ·skip
  have c2' : ((i : Int) : Int) < ((l.length : Nat) : Int) := of_decide_eq_true c2
  refine wl_skip_seq ?_
  refine wl_assoc ?_
  refine wl_block fun Q3 hN3 hE3 hX3 => ?_
  refine wl_tail ?_
  refine wl_assoc ?_
  refine wl_ops ?_
  refine wr_run 2 [(10, (.int ((i : Int)))), (5, (.int ((i : Int))))] (by kernel_rfl) ?_
  refine wr_done ?_
  refine wl_assoc ?_
  refine wl_ops ?_
  refine wr_run 3 [(11, fv), (12, (lst own encI l)), (13, (.int ((i : Int))))] (by kernel_rfl) ?_
  refine wr_iaddre encI_len own l (by kernel_rfl) ((i : Int)) (by kernel_rfl) (by omega) (by kernel_rfl) fun y4 hy4 => ?_
  refine wr_loade encI_len l (((i : Int)).toNat) 0 y4 hy4 (by kernel_rfl) (.int (y4)) (by kernel_rfl) (by decide) (by decide) (by kernel_rfl) ?_
  refine wr_callv fv (by kernel_rfl) [(.int (y4))] (by kernel_rfl) (by kernel_rfl) (WV.mono (hf _ (some_get hy4) _ (H.ext rfl)) ?_)
  rintro r6 st7 ⟨b5, rfl, hb5, E8⟩
  replace H := H.then E8
  refine wr_done ?_
  refine wl_cond (b5) (by kernel_rfl) (fun c9 => ?_) (fun c9 => ?_)
  ·skip
   refine wl_assoc ?_
   refine wl_ops ?_
   refine wr_run 2 [(17, (.int ((i : Int)))), (4, (.int ((i : Int))))] (by kernel_rfl) ?_
   refine wr_done ?_
   refine wl_ret ?_
   refine hX3 _ _ _ (by decide) (by decide) ?_
   refine hX1 _ _ _ (by decide) (by decide) ?_
   refine post_i (Or.inr rfl) (.int ((i : Int))) (by kernel_rfl) ?_
   rw [c9] at hb5
   exact ⟨_, rfl, Or.inr ⟨i, _, rfl, hy4, hb5⟩, H.ext rfl⟩
  ·skip
   refine wl_skip_seq ?_
   refine wl_skip ?_
   refine hN3 _ _ ?_
   refine wl_ops ?_
   refine wr_bin (.int ((i : Int))) (.int (1)) (.int (((i : Int)) + (1))) (by kernel_rfl) (by kernel_rfl) (add64 (by omega)) (by kernel_rfl) ?_
   refine wr_run 1 [(8, (.int (((i : Int)) + (1))))] (by kernel_rfl) ?_
   refine wr_done ?_
   refine wl_skip ?_
   rw [c9] at hb5
   have hnx := take_step hφ hy4 hb5
   refine hN1 _ _ (i + 1) ⟨x4_1, (.int ((i : Int))), (.bool (decide (((i : Int) : Int) < ((l.length : Nat) : Int)))), (.int ((i : Int))), fv, (lst own encI l), (.int ((i : Int))), (.lptr (l.flatMap encI) (((i : Int)).toNat * 1)), (.int (y4)), (.bool (b5)), x17_1, (.int (((i : Int)) + (1))), by kernel_rfl, H, by omega, hnx⟩ (by simp only; omega)
 ·skip
  have c2' : ¬ (((i : Int) : Int) < ((l.length : Nat) : Int)) := of_decide_eq_false c2
  refine wl_exit ?_
  refine hE1 _ _ ?_
  refine wl_assoc ?_
  refine wl_ops ?_
  refine wr_run 1 [(4, (.int (-1)))] (by kernel_rfl) ?_
  refine wr_done ?_
  refine wl_ret ?_
  refine post_i (Or.inr rfl) (.int (-1)) (by kernel_rfl) ?_
  exact ⟨_, rfl, Or.inl ⟨rfl, by rwa [show i = l.length by omega, List.take_length] at hφ⟩, H.ext rfl⟩

set_option maxHeartbeats 4000000 in
theorem conI_ok (own : EF.Own) (l : List Int) (fv : AV) (φ : Int → Bool → Prop) (st : St) (hl : l.length < 2 ^ 62) (hf : ∀ x ∈ l, ∀ s, Ext st s → WV Try.prog fv [(.int (x))] s fun r s' => ∃ b, r = .bool b ∧ φ x b ∧ Ext s s') : WF Try.prog 67 [(lst own encI l), fv] st fun r st' => ∃ c, r = .bool c ∧ (c = false → ∀ x ∈ l, φ x false) ∧ (c = true → ∃ x ∈ l, φ x true) ∧ Ext st st' := by
 refine wf_L c67 rfl ?_
 have H := SP.start st
 refine wl_tail ?_
 refine wl_assoc ?_
 refine wl_ops ?_
 refine wr_run 1 [(4, (.bool (false)))] (by kernel_rfl) ?_
 refine wr_done ?_
 refine wl_assoc ?_
 refine wl_ops ?_
 refine wr_run 2 [(5, (lst own encI l)), (6, fv)] (by kernel_rfl) ?_
 refine wr_call [(lst own encI l), fv] (by kernel_rfl) (by kernel_rfl) (WF.mono (idxI_ok own l fv φ _ hl (fun x hx s' E => hf x hx s' ((H.ext rfl).trans E))) ?_)
 rintro r2 st3 ⟨i1, rfl, hi1, E4⟩
 replace H := H.then E4
 refine wr_run 2 [(8, (.bool (decide ((i1 : Int) ≥ (0 : Int))))), (4, (.bool (decide ((i1 : Int) ≥ (0 : Int)))))] (by kernel_rfl) ?_
 refine wr_done ?_
 refine wl_ret ?_
 refine post_i (Or.inr rfl) (.bool (decide ((i1 : Int) ≥ (0 : Int)))) (by kernel_rfl) ?_
 exact ⟨_, rfl, fun e => hi1.elim (fun h => h.2) (fun ⟨n, x, h, _⟩ => by simp at e; omega), fun e => hi1.elim (fun h => by have := h.1; simp at e; omega) (fun ⟨n, x, _, h1, h2⟩ => ⟨x, some_get h1, h2⟩), H.ext rfl⟩

set_option maxHeartbeats 4000000 in
theorem off1_ok (n lo hi : Int) (a b : Nat) (st : St) (h1 : st.get a = some (.cells [.int lo])) (h2 : st.get b = some (.cells [.int hi])) (hab : a ≠ b) : WF Try.prog 68 [(.int (n)), (.ptr a 0), (.ptr b 0)] st fun r st' => ∃ c, r = .bool c ∧ (c = false → lo ≤ n ∧ n ≤ hi) ∧ Ext st st' := by
 refine wf_L c68 rfl ?_
 have H : SP st [⟨a, .cells [(.int (lo))], false⟩, ⟨b, .cells [(.int (hi))], false⟩] [] st := SP.startm _ (by simp [h1, h2]) (by simp [hab])
 refine wl_tail ?_
 refine wl_assoc ?_
 refine wl_ops ?_
 refine wr_run 1 [(4, (.bool (false)))] (by kernel_rfl) ?_
 refine wr_done ?_
 refine wl_assoc ?_
 refine wl_ops ?_
 refine wr_run 1 [(5, (.int (n)))] (by kernel_rfl) ?_
 refine wr_load H 0 a 0 _ false rfl (by kernel_rfl) (.int (lo)) (by kernel_rfl) (by kernel_rfl) ?_
 refine wr_run 2 [(7, (.bool (decide ((n : Int) < (lo : Int))))), (8, (.bool (decide ((n : Int) < (lo : Int)))))] (by kernel_rfl) ?_
 refine wr_case 8 (decide ((n : Int) < (lo : Int))) (by kernel_rfl) (fun c1 => ?_) (fun c1 => ?_) (by kernel_rfl)
 ·skip
  have c1' : (n : Int) < (lo : Int) := of_decide_eq_true c1
  refine wr_run 5 [(9, (.tup [])), (10, (.tup [])), (11, (.tup [])), (12, (.bool (true))), (4, (.bool (true)))] (by kernel_rfl) ?_
  refine wr_done ?_
  refine wl_ret ?_
  refine post_i (Or.inr rfl) (.bool (true)) (by kernel_rfl) ?_
  refine ⟨_, rfl, ?_, H.ext' (by simp [h1, h2])⟩
  intro hc
  simp at hc
  <;> omega
 ·skip
  have c1' : ¬ ((n : Int) < (lo : Int)) := of_decide_eq_false c1
  refine wr_run 1 [(9, (.int (n)))] (by kernel_rfl) ?_
  refine wr_guard (by kernel_rfl) ?_
  refine wr_load H 1 b 0 _ false rfl (by kernel_rfl) (.int (hi)) (by kernel_rfl) (by kernel_rfl) ?_
  refine wr_run 3 [(11, (.bool (decide ((n : Int) > (hi : Int))))), (12, (.bool (decide ((n : Int) > (hi : Int))))), (4, (.bool (decide ((n : Int) > (hi : Int)))))] (by kernel_rfl) ?_
  refine wr_done ?_
  refine wl_ret ?_
  refine post_i (Or.inr rfl) (.bool (decide ((n : Int) > (hi : Int)))) (by kernel_rfl) ?_
  refine ⟨_, rfl, ?_, H.ext' (by simp [h1, h2])⟩
  intro hc
  simp at hc
  <;> omega

set_option maxHeartbeats 4000000 in
theorem off_ok (lo hi : Int) (own : EF.Own) (l : List Int) (st : St) (hl : l.length < 2 ^ 62) : WF Try.prog 37 [(.int (lo)), (.int (hi)), (lst own encI l)] st fun r st' => ∃ c, r = .bool c ∧ (c = false → ∀ n ∈ l, lo ≤ n ∧ n ≤ hi) ∧ Ext st st' := by
 refine wf_L c37 rfl ?_
 have H := SP.start st
 refine wl_tail ?_
 refine wl_assoc ?_
 refine wl_ops ?_
 refine wr_box (.int (lo)) (by kernel_rfl) [(.int (lo))] (by kernel_rfl) (by kernel_rfl) H (by kernel_rfl) fun a1 st2 H => ?_
 refine wr_box (.int (hi)) (by kernel_rfl) [(.int (hi))] (by kernel_rfl) (by kernel_rfl) H (by kernel_rfl) fun a3 st4 H => ?_
 refine wr_run 1 [(6, (.bool (false)))] (by kernel_rfl) ?_
 refine wr_done ?_
 refine wl_assoc ?_
 refine wl_ops ?_
 refine wr_run 2 [(7, (lst own encI l)), (8, (.fn 68 [] [(.ptr a1 0), (.ptr a3 0)]))] (by kernel_rfl) ?_
 have hA := H.fact 1 rfl
 have hB := H.fact 0 rfl
 have hne := H.ne 1 0 rfl rfl (by decide)
 refine wr_call [(lst own encI l), (.fn 68 [] [(.ptr a1 0), (.ptr a3 0)])] (by kernel_rfl) (by kernel_rfl) (WF.mono (conI_ok own l _ (fun n b => b = false → lo ≤ n ∧ n ≤ hi) _ hl (fun x hx s' E => off1_ok x lo hi a1 a3 s' (E.here hA) (E.here hB) hne)) ?_)
 rintro r6 st7 ⟨b5, rfl, hb5, _, E8⟩
 replace H := H.then E8
 refine wr_run 1 [(6, (.bool (b5)))] (by kernel_rfl) ?_
 refine wr_done ?_
 refine wl_ret ?_
 refine post_i (Or.inr rfl) (.bool (b5)) (by kernel_rfl) ?_
 exact ⟨_, rfl, fun e n hn => hb5 e n hn rfl, H.ext rfl⟩

set_option maxHeartbeats 4000000 in
theorem bey1_ok (n lo hi : Int) (a b : Nat) (st : St) (h1 : st.get a = some (.cells [.int lo])) (h2 : st.get b = some (.cells [.int hi])) (hab : a ≠ b) : WF Try.prog 82 [(.int (n)), (.ptr a 0), (.ptr b 0)] st fun r st' => ∃ c, r = .bool c ∧ (c = false → lo ≤ n ∧ n ≤ hi) ∧ Ext st st' := by
 refine wf_L c82 rfl ?_
 have H : SP st [⟨a, .cells [(.int (lo))], false⟩, ⟨b, .cells [(.int (hi))], false⟩] [] st := SP.startm _ (by simp [h1, h2]) (by simp [hab])
 refine wl_tail ?_
 refine wl_assoc ?_
 refine wl_ops ?_
 refine wr_run 1 [(4, (.bool (false)))] (by kernel_rfl) ?_
 refine wr_done ?_
 refine wl_assoc ?_
 refine wl_ops ?_
 refine wr_run 1 [(5, (.int (n)))] (by kernel_rfl) ?_
 refine wr_load H 0 a 0 _ false rfl (by kernel_rfl) (.int (lo)) (by kernel_rfl) (by kernel_rfl) ?_
 refine wr_run 2 [(7, (.bool (decide ((n : Int) < (lo : Int))))), (8, (.bool (decide ((n : Int) < (lo : Int)))))] (by kernel_rfl) ?_
 refine wr_case 8 (decide ((n : Int) < (lo : Int))) (by kernel_rfl) (fun c1 => ?_) (fun c1 => ?_) (by kernel_rfl)
 ·skip
  have c1' : (n : Int) < (lo : Int) := of_decide_eq_true c1
  refine wr_run 5 [(9, (.tup [])), (10, (.tup [])), (11, (.tup [])), (12, (.bool (true))), (4, (.bool (true)))] (by kernel_rfl) ?_
  refine wr_done ?_
  refine wl_ret ?_
  refine post_i (Or.inr rfl) (.bool (true)) (by kernel_rfl) ?_
  refine ⟨_, rfl, ?_, H.ext' (by simp [h1, h2])⟩
  intro hc
  simp at hc
  <;> omega
 ·skip
  have c1' : ¬ ((n : Int) < (lo : Int)) := of_decide_eq_false c1
  refine wr_run 1 [(9, (.int (n)))] (by kernel_rfl) ?_
  refine wr_guard (by kernel_rfl) ?_
  refine wr_load H 1 b 0 _ false rfl (by kernel_rfl) (.int (hi)) (by kernel_rfl) (by kernel_rfl) ?_
  refine wr_run 3 [(11, (.bool (decide ((n : Int) > (hi : Int))))), (12, (.bool (decide ((n : Int) > (hi : Int))))), (4, (.bool (decide ((n : Int) > (hi : Int)))))] (by kernel_rfl) ?_
  refine wr_done ?_
  refine wl_ret ?_
  refine post_i (Or.inr rfl) (.bool (decide ((n : Int) > (hi : Int)))) (by kernel_rfl) ?_
  refine ⟨_, rfl, ?_, H.ext' (by simp [h1, h2])⟩
  intro hc
  simp at hc
  <;> omega

set_option maxHeartbeats 4000000 in
theorem bey_ok (lo hi : Int) (own : EF.Own) (l : List Int) (st : St) (hl : l.length < 2 ^ 62) : WF Try.prog 69 [(.int (lo)), (.int (hi)), (lst own encI l)] st fun r st' => ∃ c, r = .bool c ∧ (c = false → ∀ n ∈ l, lo ≤ n ∧ n ≤ hi) ∧ Ext st st' := by
 refine wf_L c69 rfl ?_
 have H := SP.start st
 refine wl_tail ?_
 refine wl_assoc ?_
 refine wl_ops ?_
 refine wr_box (.int (lo)) (by kernel_rfl) [(.int (lo))] (by kernel_rfl) (by kernel_rfl) H (by kernel_rfl) fun a1 st2 H => ?_
 refine wr_box (.int (hi)) (by kernel_rfl) [(.int (hi))] (by kernel_rfl) (by kernel_rfl) H (by kernel_rfl) fun a3 st4 H => ?_
 refine wr_run 1 [(6, (.bool (false)))] (by kernel_rfl) ?_
 refine wr_done ?_
 refine wl_assoc ?_
 refine wl_ops ?_
 refine wr_run 2 [(7, (lst own encI l)), (8, (.fn 82 [] [(.ptr a1 0), (.ptr a3 0)]))] (by kernel_rfl) ?_
 have hA := H.fact 1 rfl
 have hB := H.fact 0 rfl
 have hne := H.ne 1 0 rfl rfl (by decide)
 refine wr_call [(lst own encI l), (.fn 82 [] [(.ptr a1 0), (.ptr a3 0)])] (by kernel_rfl) (by kernel_rfl) (WF.mono (conI_ok own l _ (fun n b => b = false → lo ≤ n ∧ n ≤ hi) _ hl (fun x hx s' E => bey1_ok x lo hi a1 a3 s' (E.here hA) (E.here hB) hne)) ?_)
 rintro r6 st7 ⟨b5, rfl, hb5, _, E8⟩
 replace H := H.then E8
 refine wr_run 1 [(6, (.bool (b5)))] (by kernel_rfl) ?_
 refine wr_done ?_
 refine wl_ret ?_
 refine post_i (Or.inr rfl) (.bool (b5)) (by kernel_rfl) ?_
 exact ⟨_, rfl, fun e n hn => hb5 e n hn rfl, H.ext rfl⟩

set_option maxHeartbeats 4000000 in
theorem name_ok (s : ByteArray) (st : St)  : WF Try.prog 40 [(.str s)] st fun r st' => ∃ (b1 : Bool), r = (.bool (b1)) ∧ Ext st st' := by
 refine wf_L c40 rfl ?_
 have H := SP.start st
 refine wl_tail ?_
 refine wl_assoc ?_
 refine wl_ops ?_
 refine wr_run 1 [(2, (.bool (false)))] (by kernel_rfl) ?_
 refine wr_done ?_
 refine wl_assoc ?_
 refine wl_assoc ?_
 refine wl_ops ?_
 refine wr_run 1 [(6, (.str s))] (by kernel_rfl) ?_
 refine wr_srange s (by kernel_rfl) H (by kernel_rfl) fun a2 st3 H => ?_
 refine wr_done ?_
 refine wl_loop (σ := Nat) (fun (zz : Nat) (lf : List AV) (st' : St) => ∃ (xs4 : Nat → AV) (p48 : Nat), lf = [(.str s), .junk, (.bool (false)), (xs4 3), (xs4 4), (xs4 5), (.str s), (.ptr a2 0), (xs4 8), (xs4 9), (xs4 10), (xs4 11), (xs4 12), (xs4 13), (xs4 14), (xs4 15), (xs4 16), (xs4 17), (xs4 18), (xs4 19), (xs4 20), (xs4 21), (xs4 22), (xs4 23), (xs4 24), (xs4 25), (xs4 26), (xs4 27), (xs4 28), (xs4 29), (xs4 30), (xs4 31), (xs4 32), (xs4 33), (xs4 34), (xs4 35), .junk, .junk, .junk, .junk, .junk] ∧ SP st [⟨a2, .sit s (p48), true⟩] [] st' ∧ zz = ((s.size : Int) - (p48 : Int)).toNat) (fun z => z) _ ⟨(LX [(3, .junk), (4, .junk), (5, .junk), (8, .junk), (9, .junk), (10, .junk), (11, .junk), (12, .junk), (13, .junk), (14, .junk), (15, .junk), (16, .junk), (17, .junk), (18, .junk), (19, .junk), (20, .junk), (21, .junk), (22, .junk), (23, .junk), (24, .junk), (25, .junk), (26, .junk), (27, .junk), (28, .junk), (29, .junk), (30, .junk), (31, .junk), (32, .junk), (33, .junk), (34, .junk), (35, .junk)]), 0, by kernel_rfl, H, rfl⟩ ?_
 clear H
 intro zz4 lf st4 hI4 Q4 hN4 hE4 hX4
 obtain ⟨xs4, p48, rfl, H, hz4⟩ := hI4
 refine wl_tail ?_
 refine wl_assoc ?_
 refine wl_ops ?_
 refine wr_snext H 0 a2 s (p48) true rfl (by kernel_rfl) (by kernel_rfl) (fun c93 n94 w95 st96 c93w H => ?_) (fun c93 => ?_)
 ·skip
  refine wr_run 1 [(9, (.bool (true)))] (by kernel_rfl) ?_
  refine wr_done ?_
  refine wl_assoc ?_
  refine wl_cond true (by kernel_rfl) (fun c97 => ?_) (fun c97 => by cases c97)
  clear c97
  refine wl_skip_seq ?_
  refine wl_block fun Q98 hN98 hE98 hX98 => ?_
  refine wl_tail ?_
  refine wl_assoc ?_
  refine wl_ops ?_
  refine wr_run 4 [(10, (.int ((p48 : Int)))), (11, (.v (.int .i32 (n94)))), (3, (.int ((p48 : Int)))), (4, (.v (.int .i32 (n94))))] (by kernel_rfl) ?_
  refine wr_done ?_
  refine wl_assoc ?_
  refine wl_ops ?_
  refine wr_run 3 [(12, (.v (.int .i32 (n94)))), (13, (.bool (decide ((n94 : Int) ≥ (97 : Int))))), (14, (.bool (decide ((n94 : Int) ≥ (97 : Int)))))] (by kernel_rfl) ?_
  refine wr_case 14 (decide ((n94 : Int) ≥ (97 : Int))) (by kernel_rfl) (fun c99 => ?_) (fun c99 => ?_) (by kernel_rfl)
  ·skip
   have c99' : (n94 : Int) ≥ 97 := of_decide_eq_true c99
   refine wr_run 4 [(15, (.v (.int .i32 (n94)))), (16, (.bool (decide ((n94 : Int) ≤ (122 : Int))))), (17, (.bool (decide ((n94 : Int) ≤ (122 : Int))))), (5, (.bool (decide ((n94 : Int) ≤ (122 : Int)))))] (by kernel_rfl) ?_
   refine wr_done ?_
   refine wl_assoc ?_
   refine wl_ops ?_
   refine wr_run 3 [(18, (.bool (decide ((n94 : Int) ≤ (122 : Int))))), (19, (.bool (!(decide ((n94 : Int) ≤ (122 : Int)))))), (20, (.bool (!(decide ((n94 : Int) ≤ (122 : Int))))))] (by kernel_rfl) ?_
   refine wr_case 20 (!(decide ((n94 : Int) ≤ (122 : Int)))) (by kernel_rfl) (fun c100 => ?_) (fun c100 => ?_) (by kernel_rfl)
   ·skip
    have c100' : (decide ((n94 : Int) ≤ (122 : Int))) = false := by simpa using c100
    have c100'' : ¬ ((n94 : Int) ≤ 122) := of_decide_eq_false c100'
    refine wr_run 3 [(21, (.int ((p48 : Int)))), (22, (.bool (((p48 : Int) : Int) == (0 : Int)))), (23, (.bool (((p48 : Int) : Int) == (0 : Int))))] (by kernel_rfl) ?_
    refine wr_case 23 (((p48 : Int) : Int) == (0 : Int)) (by kernel_rfl) (fun c101 => ?_) (fun c101 => ?_) (by kernel_rfl)
    ·skip
     have c101' : ((p48 : Int) : Int) = 0 := by simpa using c101
     refine wr_run 12 [(24, (.tup [])), (25, (.tup [])), (26, (.tup [])), (27, (.tup [])), (28, (.tup [])), (29, (.tup [])), (30, (.tup [])), (31, (.tup [])), (32, (.tup [])), (33, (.tup [])), (34, (.bool (true))), (35, (.bool (true)))] (by kernel_rfl) ?_
     refine wr_done ?_
     refine wl_cond true (by kernel_rfl) (fun c102 => ?_) (fun c102 => by cases c102)
     clear c102
     refine wl_assoc ?_
     refine wl_ops ?_
     refine wr_run 1 [(2, (.bool (false)))] (by kernel_rfl) ?_
     refine wr_done ?_
     refine wl_ret ?_
     refine hX98 _ _ _ (by decide) (by decide) ?_
     refine hX4 _ _ _ (by decide) (by decide) ?_
     refine post_i (Or.inr rfl) (.bool (false)) (by kernel_rfl) ?_
     exact ⟨false, rfl, H.ext rfl⟩
    ·skip
     have c101' : ¬ (((p48 : Int) : Int) = 0) := by simpa using c101
     refine wr_run 3 [(24, (.v (.int .i32 (n94)))), (25, (.bool ((n94 : Int) != (46 : Int)))), (26, (.bool ((n94 : Int) != (46 : Int))))] (by kernel_rfl) ?_
     refine wr_case 26 ((n94 : Int) != (46 : Int)) (by kernel_rfl) (fun c103 => ?_) (fun c103 => ?_) (by kernel_rfl)
     ·skip
      have c103' : ¬ ((n94 : Int) = 46) := by simpa using c103
      refine wr_run 3 [(27, (.v (.int .i32 (n94)))), (28, (.bool (decide ((n94 : Int) < (48 : Int))))), (29, (.bool (decide ((n94 : Int) < (48 : Int)))))] (by kernel_rfl) ?_
      refine wr_case 29 (decide ((n94 : Int) < (48 : Int))) (by kernel_rfl) (fun c104 => ?_) (fun c104 => ?_) (by kernel_rfl)
      ·skip
       have c104' : (n94 : Int) < 48 := of_decide_eq_true c104
       exfalso; omega
      ·skip
       have c104' : ¬ ((n94 : Int) < 48) := of_decide_eq_false c104
       refine wr_run 6 [(30, (.v (.int .i32 (n94)))), (31, (.bool (decide ((n94 : Int) > (57 : Int))))), (32, (.bool (decide ((n94 : Int) > (57 : Int))))), (33, (.bool (decide ((n94 : Int) > (57 : Int))))), (34, (.bool (decide ((n94 : Int) > (57 : Int))))), (35, (.bool (decide ((n94 : Int) > (57 : Int)))))] (by kernel_rfl) ?_
       refine wr_done ?_
       refine wl_cond (decide ((n94 : Int) > (57 : Int))) (by kernel_rfl) (fun c105 => ?_) (fun c105 => ?_)
       ·skip
        have c105' : (n94 : Int) > 57 := of_decide_eq_true c105
        refine wl_assoc ?_
        refine wl_ops ?_
        refine wr_run 1 [(2, (.bool (false)))] (by kernel_rfl) ?_
        refine wr_done ?_
        refine wl_ret ?_
        refine hX98 _ _ _ (by decide) (by decide) ?_
        refine hX4 _ _ _ (by decide) (by decide) ?_
        refine post_i (Or.inr rfl) (.bool (false)) (by kernel_rfl) ?_
        exact ⟨false, rfl, H.ext rfl⟩
       ·skip
        have c105' : ¬ ((n94 : Int) > 57) := of_decide_eq_false c105
        exfalso; omega
     ·skip
      have c103' : (n94 : Int) = 46 := by simpa using c103
      exfalso; omega
   ·skip
    have c100' : (decide ((n94 : Int) ≤ (122 : Int))) = true := by simpa using c100
    have c100'' : (n94 : Int) ≤ 122 := of_decide_eq_true c100'
    refine wr_run 15 [(21, (.tup [])), (22, (.tup [])), (23, (.tup [])), (24, (.tup [])), (25, (.tup [])), (26, (.tup [])), (27, (.tup [])), (28, (.tup [])), (29, (.tup [])), (30, (.tup [])), (31, (.tup [])), (32, (.tup [])), (33, (.tup [])), (34, (.tup [])), (35, (.bool (false)))] (by kernel_rfl) ?_
    refine wr_done ?_
    refine wl_cond false (by kernel_rfl) (fun c106 => by cases c106) (fun c106 => ?_)
    clear c106
    refine wl_skip_seq ?_
    refine wl_skip ?_
    refine hN98 _ _ ?_
    refine wl_skip ?_
    refine hN4 _ _ _ ⟨(LX [(3, (.int ((p48 : Int)))), (4, (.v (.int .i32 (n94)))), (5, (.bool (decide ((n94 : Int) ≤ (122 : Int))))), (8, (.tup [(.bool (true)), (.int ((p48 : Int))), (.v (.int .i32 (n94)))])), (9, (.bool (true))), (10, (.int ((p48 : Int)))), (11, (.v (.int .i32 (n94)))), (12, (.v (.int .i32 (n94)))), (13, (.bool (decide ((n94 : Int) ≥ (97 : Int))))), (14, (.bool (true))), (15, (.v (.int .i32 (n94)))), (16, (.bool (decide ((n94 : Int) ≤ (122 : Int))))), (17, (.bool (decide ((n94 : Int) ≤ (122 : Int))))), (18, (.bool (decide ((n94 : Int) ≤ (122 : Int))))), (19, (.bool (!(decide ((n94 : Int) ≤ (122 : Int)))))), (20, (.bool (false))), (21, (.tup [])), (22, (.tup [])), (23, (.tup [])), (24, (.tup [])), (25, (.tup [])), (26, (.tup [])), (27, (.tup [])), (28, (.tup [])), (29, (.tup [])), (30, (.tup [])), (31, (.tup [])), (32, (.tup [])), (33, (.tup [])), (34, (.tup [])), (35, (.bool (false)))]), p48 + w95, by kernel_rfl, H, rfl⟩ (by first | omega | (simp only; omega))
  ·skip
   have c99' : ¬ ((n94 : Int) ≥ 97) := of_decide_eq_false c99
   refine wr_run 4 [(15, (.tup [])), (16, (.tup [])), (17, (.bool (false))), (5, (.bool (false)))] (by kernel_rfl) ?_
   refine wr_done ?_
   refine wl_assoc ?_
   refine wl_ops ?_
   refine wr_run 6 [(18, (.bool (false))), (19, (.bool (true))), (20, (.bool (true))), (21, (.int ((p48 : Int)))), (22, (.bool (((p48 : Int) : Int) == (0 : Int)))), (23, (.bool (((p48 : Int) : Int) == (0 : Int))))] (by kernel_rfl) ?_
   refine wr_case 23 (((p48 : Int) : Int) == (0 : Int)) (by kernel_rfl) (fun c107 => ?_) (fun c107 => ?_) (by kernel_rfl)
   ·skip
    have c107' : ((p48 : Int) : Int) = 0 := by simpa using c107
    refine wr_run 12 [(24, (.tup [])), (25, (.tup [])), (26, (.tup [])), (27, (.tup [])), (28, (.tup [])), (29, (.tup [])), (30, (.tup [])), (31, (.tup [])), (32, (.tup [])), (33, (.tup [])), (34, (.bool (true))), (35, (.bool (true)))] (by kernel_rfl) ?_
    refine wr_done ?_
    refine wl_cond true (by kernel_rfl) (fun c108 => ?_) (fun c108 => by cases c108)
    clear c108
    refine wl_assoc ?_
    refine wl_ops ?_
    refine wr_run 1 [(2, (.bool (false)))] (by kernel_rfl) ?_
    refine wr_done ?_
    refine wl_ret ?_
    refine hX98 _ _ _ (by decide) (by decide) ?_
    refine hX4 _ _ _ (by decide) (by decide) ?_
    refine post_i (Or.inr rfl) (.bool (false)) (by kernel_rfl) ?_
    exact ⟨false, rfl, H.ext rfl⟩
   ·skip
    have c107' : ¬ (((p48 : Int) : Int) = 0) := by simpa using c107
    refine wr_run 3 [(24, (.v (.int .i32 (n94)))), (25, (.bool ((n94 : Int) != (46 : Int)))), (26, (.bool ((n94 : Int) != (46 : Int))))] (by kernel_rfl) ?_
    refine wr_case 26 ((n94 : Int) != (46 : Int)) (by kernel_rfl) (fun c109 => ?_) (fun c109 => ?_) (by kernel_rfl)
    ·skip
     have c109' : ¬ ((n94 : Int) = 46) := by simpa using c109
     refine wr_run 3 [(27, (.v (.int .i32 (n94)))), (28, (.bool (decide ((n94 : Int) < (48 : Int))))), (29, (.bool (decide ((n94 : Int) < (48 : Int)))))] (by kernel_rfl) ?_
     refine wr_case 29 (decide ((n94 : Int) < (48 : Int))) (by kernel_rfl) (fun c110 => ?_) (fun c110 => ?_) (by kernel_rfl)
     ·skip
      have c110' : (n94 : Int) < 48 := of_decide_eq_true c110
      refine wr_run 6 [(30, (.tup [])), (31, (.tup [])), (32, (.bool (true))), (33, (.bool (true))), (34, (.bool (true))), (35, (.bool (true)))] (by kernel_rfl) ?_
      refine wr_done ?_
      refine wl_cond true (by kernel_rfl) (fun c111 => ?_) (fun c111 => by cases c111)
      clear c111
      refine wl_assoc ?_
      refine wl_ops ?_
      refine wr_run 1 [(2, (.bool (false)))] (by kernel_rfl) ?_
      refine wr_done ?_
      refine wl_ret ?_
      refine hX98 _ _ _ (by decide) (by decide) ?_
      refine hX4 _ _ _ (by decide) (by decide) ?_
      refine post_i (Or.inr rfl) (.bool (false)) (by kernel_rfl) ?_
      exact ⟨false, rfl, H.ext rfl⟩
     ·skip
      have c110' : ¬ ((n94 : Int) < 48) := of_decide_eq_false c110
      refine wr_run 6 [(30, (.v (.int .i32 (n94)))), (31, (.bool (decide ((n94 : Int) > (57 : Int))))), (32, (.bool (decide ((n94 : Int) > (57 : Int))))), (33, (.bool (decide ((n94 : Int) > (57 : Int))))), (34, (.bool (decide ((n94 : Int) > (57 : Int))))), (35, (.bool (decide ((n94 : Int) > (57 : Int)))))] (by kernel_rfl) ?_
      refine wr_done ?_
      refine wl_cond (decide ((n94 : Int) > (57 : Int))) (by kernel_rfl) (fun c112 => ?_) (fun c112 => ?_)
      ·skip
       have c112' : (n94 : Int) > 57 := of_decide_eq_true c112
       refine wl_assoc ?_
       refine wl_ops ?_
       refine wr_run 1 [(2, (.bool (false)))] (by kernel_rfl) ?_
       refine wr_done ?_
       refine wl_ret ?_
       refine hX98 _ _ _ (by decide) (by decide) ?_
       refine hX4 _ _ _ (by decide) (by decide) ?_
       refine post_i (Or.inr rfl) (.bool (false)) (by kernel_rfl) ?_
       exact ⟨false, rfl, H.ext rfl⟩
      ·skip
       have c112' : ¬ ((n94 : Int) > 57) := of_decide_eq_false c112
       refine wl_skip_seq ?_
       refine wl_skip ?_
       refine hN98 _ _ ?_
       refine wl_skip ?_
       refine hN4 _ _ _ ⟨(LX [(3, (.int ((p48 : Int)))), (4, (.v (.int .i32 (n94)))), (5, (.bool (false))), (8, (.tup [(.bool (true)), (.int ((p48 : Int))), (.v (.int .i32 (n94)))])), (9, (.bool (true))), (10, (.int ((p48 : Int)))), (11, (.v (.int .i32 (n94)))), (12, (.v (.int .i32 (n94)))), (13, (.bool (decide ((n94 : Int) ≥ (97 : Int))))), (14, (.bool (false))), (15, (.tup [])), (16, (.tup [])), (17, (.bool (false))), (18, (.bool (false))), (19, (.bool (true))), (20, (.bool (true))), (21, (.int ((p48 : Int)))), (22, (.bool (((p48 : Int) : Int) == (0 : Int)))), (23, (.bool (false))), (24, (.v (.int .i32 (n94)))), (25, (.bool ((n94 : Int) != (46 : Int)))), (26, (.bool (true))), (27, (.v (.int .i32 (n94)))), (28, (.bool (decide ((n94 : Int) < (48 : Int))))), (29, (.bool (false))), (30, (.v (.int .i32 (n94)))), (31, (.bool (decide ((n94 : Int) > (57 : Int))))), (32, (.bool (decide ((n94 : Int) > (57 : Int))))), (33, (.bool (decide ((n94 : Int) > (57 : Int))))), (34, (.bool (decide ((n94 : Int) > (57 : Int))))), (35, (.bool (decide ((n94 : Int) > (57 : Int)))))]), p48 + w95, by kernel_rfl, H, rfl⟩ (by first | omega | (simp only; omega))
    ·skip
     have c109' : (n94 : Int) = 46 := by simpa using c109
     refine wr_run 9 [(27, (.tup [])), (28, (.tup [])), (29, (.tup [])), (30, (.tup [])), (31, (.tup [])), (32, (.tup [])), (33, (.bool (false))), (34, (.bool (false))), (35, (.bool (false)))] (by kernel_rfl) ?_
     refine wr_done ?_
     refine wl_cond false (by kernel_rfl) (fun c113 => by cases c113) (fun c113 => ?_)
     clear c113
     refine wl_skip_seq ?_
     refine wl_skip ?_
     refine hN98 _ _ ?_
     refine wl_skip ?_
     refine hN4 _ _ _ ⟨(LX [(3, (.int ((p48 : Int)))), (4, (.v (.int .i32 (n94)))), (5, (.bool (false))), (8, (.tup [(.bool (true)), (.int ((p48 : Int))), (.v (.int .i32 (n94)))])), (9, (.bool (true))), (10, (.int ((p48 : Int)))), (11, (.v (.int .i32 (n94)))), (12, (.v (.int .i32 (n94)))), (13, (.bool (decide ((n94 : Int) ≥ (97 : Int))))), (14, (.bool (false))), (15, (.tup [])), (16, (.tup [])), (17, (.bool (false))), (18, (.bool (false))), (19, (.bool (true))), (20, (.bool (true))), (21, (.int ((p48 : Int)))), (22, (.bool (((p48 : Int) : Int) == (0 : Int)))), (23, (.bool (false))), (24, (.v (.int .i32 (n94)))), (25, (.bool ((n94 : Int) != (46 : Int)))), (26, (.bool (false))), (27, (.tup [])), (28, (.tup [])), (29, (.tup [])), (30, (.tup [])), (31, (.tup [])), (32, (.tup [])), (33, (.bool (false))), (34, (.bool (false))), (35, (.bool (false)))]), p48 + w95, by kernel_rfl, H, rfl⟩ (by first | omega | (simp only; omega))
 ·skip
  refine wr_run 1 [(9, (.bool (false)))] (by kernel_rfl) ?_
  refine wr_done ?_
  refine wl_assoc ?_
  refine wl_cond false (by kernel_rfl) (fun c114 => by cases c114) (fun c114 => ?_)
  clear c114
  refine wl_exit ?_
  refine hE4 _ _ ?_
  refine wl_assoc ?_
  refine wl_ops ?_
  refine wr_run 3 [(36, (.str s)), (37, (.int ((s.size : Int)))), (38, (lst .exact encI [(s.size : Int)]))] (by kernel_rfl) ?_
  refine wr_call [(.int (1)), (.int (16)), (lst .exact encI [(s.size : Int)])] (by kernel_rfl) (by kernel_rfl) (WF.mono (bey_ok 1 16 .exact ([(s.size : Int)]) _ (by simp)) ?_)
  rintro r115 st116 ⟨b117, rfl, hf120, E118⟩
  replace H := H.then E118
  refine wr_run 2 [(40, (.bool (!(b117)))), (2, (.bool (!(b117))))] (by kernel_rfl) ?_
  refine wr_done ?_
  refine wl_ret ?_
  refine post_i (Or.inr rfl) (.bool (!(b117))) (by kernel_rfl) ?_
  exact ⟨!(b117), rfl, H.ext rfl⟩

set_option maxHeartbeats 4000000 in
theorem indexS_ok (own : EF.Own) (l : List ByteArray) (v : ByteArray) (st : St) (hl : (l.length : Int) ≤ 1048576) : WF Try.prog 70 [(lst own encS l), (.str v)] st fun r st' => ∃ (n121 : Int), r = (.int (n121)) ∧ (-1 ≤ n121) ∧ (n121 < (l.length : Int)) ∧ Ext st st' := by
 refine wf_L c70 rfl ?_
 have H := SP.start st
 refine wl_tail ?_
 refine wl_assoc ?_
 refine wl_ops ?_
 refine wr_run 1 [(4, (.int (0)))] (by kernel_rfl) ?_
 refine wr_done ?_
 refine wl_assoc ?_
 refine wl_assoc ?_
 refine wl_ops ?_
 refine wr_run 3 [(6, (lst own encS l)), (7, (.int ((l.length : Int)))), (8, (.int (0)))] (by kernel_rfl) ?_
 refine wr_done ?_
 refine wl_loop (σ := Nat) (fun (zz : Nat) (lf : List AV) (st' : St) => ∃ (xs122 : Nat → AV) (v128 : Int), lf = [(lst own encS l), (.str v), .junk, .junk, (.int (0)), (xs122 5), (lst own encS l), (.int ((l.length : Int))), (.int (v128)), (xs122 9), (xs122 10), (xs122 11), (xs122 12), (xs122 13), (xs122 14), (xs122 15), (xs122 16), .junk, (xs122 18)] ∧ SP st [] [] st' ∧ (0 ≤ v128) ∧ (0 ≤ v128) ∧ (-1 ≤ v128) ∧ (-9223372036854775808 ≤ v128 ∧ v128 ≤ 9223372036854775807) ∧ (v128 ≤ (l.length : Int)) ∧ (v128 ≤ 1048576) ∧ zz = (-v128 + 9223372036854775808).toNat) (fun z => z) _ ⟨(LX [(5, .junk), (9, .junk), (10, .junk), (11, .junk), (12, .junk), (13, .junk), (14, .junk), (15, .junk), (16, .junk), (18, .junk)]), 0, by kernel_rfl, H, by first | omega | (simp; omega) | simp, by first | omega | (simp; omega) | simp, by first | omega | (simp; omega) | simp, by first | omega | (simp; omega) | simp, by first | omega | (simp; omega) | simp, by first | omega | (simp; omega) | simp, rfl⟩ ?_
 clear H
 intro zz122 lf st122 hI122 Q122 hN122 hE122 hX122
 obtain ⟨xs122, v128, rfl, H, hi122_0, hi122_1, hi122_2, hi122_3, hi122_5, hi122_6, hz122⟩ := hI122
 refine wl_tail ?_
 refine wl_assoc ?_
 refine wl_ops ?_
 refine wr_run 1 [(9, (.bool (decide ((v128 : Int) < ((l.length : Int) : Int)))))] (by kernel_rfl) ?_
 refine wr_done ?_
 refine wl_assoc ?_
 refine wl_cond (decide ((v128 : Int) < ((l.length : Int) : Int))) (by kernel_rfl) (fun c146 => ?_) (fun c146 => ?_)
 ·skip
  have c146' : (v128 : Int) < (l.length : Int) := of_decide_eq_true c146
  refine wl_skip_seq ?_
  refine wl_assoc ?_
  refine wl_block fun Q147 hN147 hE147 hX147 => ?_
  refine wl_tail ?_
  refine wl_assoc ?_
  refine wl_ops ?_
  refine wr_run 2 [(10, (.int (v128))), (5, (.int (v128)))] (by kernel_rfl) ?_
  refine wr_done ?_
  refine wl_assoc ?_
  refine wl_ops ?_
  refine wr_run 3 [(11, (.str v)), (12, (lst own encS l)), (13, (.int (v128)))] (by kernel_rfl) ?_
  refine wr_iaddre encS_len own l (by kernel_rfl) (v128) (by kernel_rfl) (by omega) (by kernel_rfl) fun y148 hy148 => ?_
  refine wr_loade encS_len l ((v128 : Int).toNat) 0 y148 hy148 (by kernel_rfl) (.str y148) (by kernel_rfl) (by decide) (by decide) (by kernel_rfl) ?_
  refine wr_run 1 [(16, (.bool (v.toList == y148.toList)))] (by kernel_rfl) ?_
  refine wr_done ?_
  refine wl_cond (v.toList == y148.toList) (by kernel_rfl) (fun c149 => ?_) (fun c149 => ?_)
  ·skip
   refine wl_assoc ?_
   refine wl_ops ?_
   refine wr_run 2 [(17, (.int (v128))), (4, (.int (v128)))] (by kernel_rfl) ?_
   refine wr_done ?_
   refine wl_ret ?_
   refine hX147 _ _ _ (by decide) (by decide) ?_
   refine hX122 _ _ _ (by decide) (by decide) ?_
   refine post_i (Or.inr rfl) (.int (v128)) (by kernel_rfl) ?_
   exact ⟨v128, rfl, by first | omega | (simp; omega) | simp, by first | omega | (simp; omega) | simp, H.ext rfl⟩
  ·skip
   refine wl_skip_seq ?_
   refine wl_skip ?_
   refine hN147 _ _ ?_
   refine wl_ops ?_
   refine wr_bin (.int (v128)) (.int (1)) (.int (v128 + 1)) (by kernel_rfl) (by kernel_rfl) (add64e _ (by unfold I64; omega)) (by kernel_rfl) ?_
   refine wr_run 1 [(8, (.int (v128 + 1)))] (by kernel_rfl) ?_
   refine wr_done ?_
   refine wl_skip ?_
   refine hN122 _ _ _ ⟨(LX [(5, (.int (v128))), (9, (.bool (decide ((v128 : Int) < ((l.length : Int) : Int))))), (10, (.int (v128))), (11, (.str v)), (12, (lst own encS l)), (13, (.int (v128))), (14, (.lptr (l.flatMap encS) ((v128 : Int).toNat * 1))), (15, (.str y148)), (16, (.bool (v.toList == y148.toList))), (18, (.int (v128 + 1)))]), v128 + 1, by kernel_rfl, H, by first | omega | (simp; omega) | simp, by first | omega | (simp; omega) | simp, by first | omega | (simp; omega) | simp, by first | omega | (simp; omega) | simp, by first | omega | (simp; omega) | simp, by first | omega | (simp; omega) | simp, rfl⟩ (by first | omega | (simp only; omega))
 ·skip
  have c146' : ¬ ((v128 : Int) < (l.length : Int)) := of_decide_eq_false c146
  refine wl_exit ?_
  refine hE122 _ _ ?_
  refine wl_assoc ?_
  refine wl_ops ?_
  refine wr_run 1 [(4, (.int (-1)))] (by kernel_rfl) ?_
  refine wr_done ?_
  refine wl_ret ?_
  refine post_i (Or.inr rfl) (.int (-1)) (by kernel_rfl) ?_
  exact ⟨-1, rfl, by first | omega | (simp; omega) | simp, by first | omega | (simp; omega) | simp, H.ext rfl⟩

set_option maxHeartbeats 4000000 in
theorem containsS_ok (own : EF.Own) (l : List ByteArray) (v : ByteArray) (st : St) (hl : (l.length : Int) ≤ 1048576) : WF Try.prog 41 [(lst own encS l), (.str v)] st fun r st' => ∃ (b150 : Bool), r = (.bool (b150)) ∧ Ext st st' := by
 refine wf_L c41 rfl ?_
 have H := SP.start st
 refine wl_tail ?_
 refine wl_assoc ?_
 refine wl_ops ?_
 refine wr_run 1 [(4, (.bool (false)))] (by kernel_rfl) ?_
 refine wr_done ?_
 refine wl_assoc ?_
 refine wl_ops ?_
 refine wr_run 2 [(5, (lst own encS l)), (6, (.str v))] (by kernel_rfl) ?_
 refine wr_call [(lst own encS l), (.str v)] (by kernel_rfl) (by kernel_rfl) (WF.mono (indexS_ok own l v _ (by omega)) ?_)
 rintro r151 st152 ⟨n153, rfl, hf156, hf157, E154⟩
 replace H := H.then E154
 refine wr_run 2 [(8, (.bool (decide ((n153 : Int) ≥ (0 : Int))))), (4, (.bool (decide ((n153 : Int) ≥ (0 : Int)))))] (by kernel_rfl) ?_
 refine wr_done ?_
 refine wl_ret ?_
 refine post_i (Or.inr rfl) (.bool (decide ((n153 : Int) ≥ (0 : Int)))) (by kernel_rfl) ?_
 exact ⟨decide ((n153 : Int) ≥ (0 : Int)), rfl, H.ext rfl⟩

set_option maxHeartbeats 4000000 in
theorem failS_ok0 (own : EF.Own) (l : List ByteArray) (fv : AV) (φ : Nat → ByteArray → Prop) (st : St) (hl : l.length < 2 ^ 62) (hf : ∀ (i : Nat) x, l[i]? = some x → ∀ s, Ext st s → WV Try.prog fv [.int i, (.str x)] s fun r s' => ∃ e : Int, r = .int e ∧ (e = 0 → φ i x) ∧ Ext s s') : WF Try.prog 38 [(lst own encS l), fv] st fun r st' => (∃ i e : Int, ¬ (e = 0) ∧ r = .tup [.int i, .int e] ∧ Ext st st') ∨ (r = .tup [.int 0, .int 0] ∧ (∀ (i : Nat) x, l[i]? = some x → φ i x) ∧ Ext st st') := by
 refine wf_L c38 rfl ?_
 have H := SP.start st
 refine wl_tail ?_
 refine wl_assoc ?_
 refine wl_ops ?_
 refine wr_run 2 [(4, (.int (0))), (5, (.int (0)))] (by kernel_rfl) ?_
 refine wr_done ?_
 refine wl_assoc ?_
 refine wl_assoc ?_
 refine wl_ops ?_
 refine wr_run 3 [(9, (lst own encS l)), (10, (.int ((l.length : Nat)))), (11, (.int (0)))] (by kernel_rfl) ?_
 refine wr_done ?_
 refine wl_loop (σ := (Nat)) (fun (zz : (Nat)) (lf : List AV) (st' : St) => match zz with | i => ∃ x4_1 x5_1 x6_1 x7_1 x8_1 x12_1 x13_1 x14_1 x15_1 x16_1 x17_1 x18_1 x19_1 x20_1 x21_1 x22_1 x23_1 x24_1 : AV, lf = [(lst own encS l), fv, .junk, .junk, x4_1, x5_1, x6_1, x7_1, x8_1, (lst own encS l), (.int ((l.length : Nat))), (.int ((i : Int))), x12_1, x13_1, x14_1, x15_1, x16_1, x17_1, x18_1, x19_1, x20_1, x21_1, x22_1, x23_1, x24_1] ∧ SP st [] [] st' ∧ i ≤ l.length ∧ ∀ (j : Nat) x, j < i → l[j]? = some x → φ j x) (fun (zz : (Nat)) => match zz with | i => l.length - i) 0 ⟨(.int (0)), (.int (0)), .junk, .junk, .junk, .junk, .junk, .junk, .junk, .junk, .junk, .junk, .junk, .junk, .junk, .junk, .junk, .junk, by kernel_rfl, H, Nat.zero_le _, fun _ _ h => by omega⟩ ?_
 clear H
 intro i lf st1 hI Q1 hN1 hE1 hX1
 dsimp only at hI
 obtain ⟨x4_1, x5_1, x6_1, x7_1, x8_1, x12_1, x13_1, x14_1, x15_1, x16_1, x17_1, x18_1, x19_1, x20_1, x21_1, x22_1, x23_1, x24_1, rfl, H, hi, hφ⟩ := hI
 refine wl_tail ?_
 refine wl_assoc ?_
 refine wl_ops ?_
 refine wr_run 1 [(12, (.bool (decide (((i : Int) : Int) < ((l.length : Nat) : Int)))))] (by kernel_rfl) ?_
 refine wr_done ?_
 refine wl_assoc ?_
 refine wl_cond (decide (((i : Int) : Int) < ((l.length : Nat) : Int))) (by kernel_rfl) (fun c2 => ?_) (fun c2 => ?_)
 ·skip
  have c2' : ((i : Int) : Int) < ((l.length : Nat) : Int) := of_decide_eq_true c2
  refine wl_skip_seq ?_
  refine wl_assoc ?_
  refine wl_block fun Q3 hN3 hE3 hX3 => ?_
  refine wl_tail ?_
  refine wl_assoc ?_
  refine wl_ops ?_
  refine wr_run 1 [(13, (.int ((i : Int))))] (by kernel_rfl) ?_
  refine wr_iaddre encS_len own l (by kernel_rfl) ((i : Int)) (by kernel_rfl) (by omega) (by kernel_rfl) fun y4 hy4 => ?_
  refine wr_loade encS_len l (((i : Int)).toNat) 0 y4 hy4 (by kernel_rfl) (.str y4) (by kernel_rfl) (by decide) (by decide) (by kernel_rfl) ?_
  refine wr_run 2 [(6, (.int ((i : Int)))), (7, (.str y4))] (by kernel_rfl) ?_
  refine wr_done ?_
  refine wl_assoc ?_
  refine wl_ops ?_
  refine wr_run 3 [(16, fv), (17, (.int ((i : Int)))), (18, (.str y4))] (by kernel_rfl) ?_
  refine wr_callv fv (by kernel_rfl) [(.int ((i : Int))), (.str y4)] (by kernel_rfl) (by kernel_rfl) (WV.mono (hf i _ hy4 _ (H.ext rfl)) ?_)
  rintro r6 st7 ⟨e5, rfl, he5, E8⟩
  replace H := H.then E8
  refine wr_run 1 [(8, (.int (e5)))] (by kernel_rfl) ?_
  refine wr_done ?_
  refine wl_assoc ?_
  refine wl_ops ?_
  refine wr_run 2 [(20, (.int (e5))), (21, (.bool ((e5 : Int) != (0 : Int))))] (by kernel_rfl) ?_
  refine wr_done ?_
  refine wl_cond ((e5 : Int) != (0 : Int)) (by kernel_rfl) (fun c9 => ?_) (fun c9 => ?_)
  ·skip
   have c9' : ¬ ((e5 : Int) = (0 : Int)) := by simpa using c9
   refine wl_assoc ?_
   refine wl_ops ?_
   refine wr_run 4 [(22, (.int ((i : Int)))), (23, (.int (e5))), (4, (.int ((i : Int)))), (5, (.int (e5)))] (by kernel_rfl) ?_
   refine wr_done ?_
   refine wl_ret ?_
   refine hX3 _ _ _ (by decide) (by decide) ?_
   refine hX1 _ _ _ (by decide) (by decide) ?_
   refine post_i (Or.inr rfl) (.tup [(.int ((i : Int))), (.int (e5))]) (by kernel_rfl) ?_
   exact Or.inl ⟨_, _, c9', rfl, H.ext rfl⟩
  ·skip
   have c9' : (e5 : Int) = (0 : Int) := by simpa using c9
   refine wl_skip_seq ?_
   refine wl_skip ?_
   refine hN3 _ _ ?_
   refine wl_ops ?_
   refine wr_bin (.int ((i : Int))) (.int (1)) (.int (((i : Int)) + (1))) (by kernel_rfl) (by kernel_rfl) (add64 (by omega)) (by kernel_rfl) ?_
   refine wr_run 1 [(11, (.int (((i : Int)) + (1))))] (by kernel_rfl) ?_
   refine wr_done ?_
   refine wl_skip ?_
   have hnx := nth_step hφ hy4 (he5 c9')
   refine hN1 _ _ (i + 1) ⟨x4_1, x5_1, (.int ((i : Int))), (.str y4), (.int (e5)), (.bool (decide (((i : Int) : Int) < ((l.length : Nat) : Int)))), (.int ((i : Int))), (.lptr (l.flatMap encS) (((i : Int)).toNat * 1)), (.str y4), fv, (.int ((i : Int))), (.str y4), (.int (e5)), (.int (e5)), (.bool ((e5 : Int) != (0 : Int))), x22_1, x23_1, (.int (((i : Int)) + (1))), by kernel_rfl, H, by omega, hnx⟩ (by simp only; omega)
 ·skip
  have c2' : ¬ (((i : Int) : Int) < ((l.length : Nat) : Int)) := of_decide_eq_false c2
  refine wl_exit ?_
  refine hE1 _ _ ?_
  refine wl_assoc ?_
  refine wl_ops ?_
  refine wr_run 2 [(4, (.int (0))), (5, (.int (0)))] (by kernel_rfl) ?_
  refine wr_done ?_
  refine wl_ret ?_
  refine post_i (Or.inr rfl) (.tup [(.int (0)), (.int (0))]) (by kernel_rfl) ?_
  exact Or.inr ⟨rfl, fun j x hj => hφ j x (by have := (List.getElem?_eq_some_iff.1 hj).1; omega) hj, H.ext rfl⟩

theorem failS_ok (own : EF.Own) (l : List ByteArray) (fv : AV) (φ : Nat → ByteArray → Prop) (st : St) (hl : l.length < 2 ^ 62) (hf : ∀ (i : Nat) x, l[i]? = some x → ∀ s, Ext st s → WV Try.prog fv [.int i, (.str x)] s fun r s' => (∃ e : Int, r = .int e ∧ ¬ (e = 0) ∧ Ext s s') ∨ (r = .int 0 ∧ φ i x ∧ Ext s s')) :
  WF Try.prog 38 [lst own encS l, fv] st fun r st' => (∃ i e : Int, ¬ (e = 0) ∧ r = .tup [.int i, .int e] ∧ Ext st st') ∨ (r = .tup [.int 0, .int 0] ∧ (∀ (i : Nat) x, l[i]? = some x → φ i x) ∧ Ext st st') :=
 failS_ok0 own l fv φ st hl fun i x hx s E => (hf i x hx s E).mono fun r s' h => h.elim (fun ⟨e, h1, h2, h3⟩ => ⟨e, h1, fun h => absurd h h2, h3⟩) fun ⟨h1, h2, h3⟩ => ⟨0, h1, fun _ => h2, h3⟩

set_option maxHeartbeats 4000000 in
theorem failC_ok0 (own : EF.Own) (l : List ChCopy) (fv : AV) (φ : Nat → ChCopy → Prop) (st : St) (hl : l.length < 2 ^ 62) (hf : ∀ (i : Nat) x, l[i]? = some x → ∀ s, Ext st s → WV Try.prog fv [.int i, (.agg [(.int (x.Number)), (.int (x.Words)), (.int (x.Facts)), (.int (x.May))])] s fun r s' => ∃ e : Int, r = .int e ∧ (e = 0 → φ i x) ∧ Ext s s') : WF Try.prog 42 [(lst own encCopy l), fv] st fun r st' => (∃ i e : Int, ¬ (e = 0) ∧ r = .tup [.int i, .int e] ∧ Ext st st') ∨ (r = .tup [.int 0, .int 0] ∧ (∀ (i : Nat) x, l[i]? = some x → φ i x) ∧ Ext st st') := by
 refine wf_L c42 rfl ?_
 have H := SP.start st
 refine wl_tail ?_
 refine wl_assoc ?_
 refine wl_ops ?_
 refine wr_run 2 [(4, (.int (0))), (5, (.int (0)))] (by kernel_rfl) ?_
 refine wr_done ?_
 refine wl_assoc ?_
 refine wl_assoc ?_
 refine wl_ops ?_
 refine wr_run 3 [(9, (lst own encCopy l)), (10, (.int ((l.length : Nat)))), (11, (.int (0)))] (by kernel_rfl) ?_
 refine wr_done ?_
 refine wl_loop (σ := (Nat)) (fun (zz : (Nat)) (lf : List AV) (st' : St) => match zz with | i => ∃ x4_1 x5_1 x6_1 x7_1 x8_1 x12_1 x13_1 x14_1 x15_1 x16_1 x17_1 x18_1 x19_1 x20_1 x21_1 x22_1 x23_1 x24_1 : AV, lf = [(lst own encCopy l), fv, .junk, .junk, x4_1, x5_1, x6_1, x7_1, x8_1, (lst own encCopy l), (.int ((l.length : Nat))), (.int ((i : Int))), x12_1, x13_1, x14_1, x15_1, x16_1, x17_1, x18_1, x19_1, x20_1, x21_1, x22_1, x23_1, x24_1] ∧ SP st [] [] st' ∧ i ≤ l.length ∧ ∀ (j : Nat) x, j < i → l[j]? = some x → φ j x) (fun (zz : (Nat)) => match zz with | i => l.length - i) 0 ⟨(.int (0)), (.int (0)), .junk, .junk, .junk, .junk, .junk, .junk, .junk, .junk, .junk, .junk, .junk, .junk, .junk, .junk, .junk, .junk, by kernel_rfl, H, Nat.zero_le _, fun _ _ h => by omega⟩ ?_
 clear H
 intro i lf st1 hI Q1 hN1 hE1 hX1
 dsimp only at hI
 obtain ⟨x4_1, x5_1, x6_1, x7_1, x8_1, x12_1, x13_1, x14_1, x15_1, x16_1, x17_1, x18_1, x19_1, x20_1, x21_1, x22_1, x23_1, x24_1, rfl, H, hi, hφ⟩ := hI
 refine wl_tail ?_
 refine wl_assoc ?_
 refine wl_ops ?_
 refine wr_run 1 [(12, (.bool (decide (((i : Int) : Int) < ((l.length : Nat) : Int)))))] (by kernel_rfl) ?_
 refine wr_done ?_
 refine wl_assoc ?_
 refine wl_cond (decide (((i : Int) : Int) < ((l.length : Nat) : Int))) (by kernel_rfl) (fun c2 => ?_) (fun c2 => ?_)
 ·skip
  have c2' : ((i : Int) : Int) < ((l.length : Nat) : Int) := of_decide_eq_true c2
  refine wl_skip_seq ?_
  refine wl_assoc ?_
  refine wl_block fun Q3 hN3 hE3 hX3 => ?_
  refine wl_tail ?_
  refine wl_assoc ?_
  refine wl_ops ?_
  refine wr_run 1 [(13, (.int ((i : Int))))] (by kernel_rfl) ?_
  refine wr_iaddre encCopy_len own l (by kernel_rfl) ((i : Int)) (by kernel_rfl) (by omega) (by kernel_rfl) fun y4 hy4 => ?_
  refine wr_loade encCopy_len l (((i : Int)).toNat) 0 y4 hy4 (by kernel_rfl) (.agg [(.int (y4.Number)), (.int (y4.Words)), (.int (y4.Facts)), (.int (y4.May))]) (by kernel_rfl) (by decide) (by decide) (by kernel_rfl) ?_
  refine wr_alloc H (by kernel_rfl) fun a5 st6 H => ?_
  refine wr_run 1 [(6, (.int ((i : Int))))] (by kernel_rfl) ?_
  refine wr_store H 0 a5 0 _ true rfl (by kernel_rfl) (.agg [(.int (y4.Number)), (.int (y4.Words)), (.int (y4.Facts)), (.int (y4.May))]) (by kernel_rfl) [(.int (y4.Number)), (.int (y4.Words)), (.int (y4.Facts)), (.int (y4.May))] (by kernel_rfl) (by kernel_rfl) (by kernel_rfl) (by decide) (by kernel_rfl) (by kernel_rfl) fun st7 H => ?_
  refine wr_done ?_
  refine wl_assoc ?_
  refine wl_ops ?_
  refine wr_run 2 [(16, fv), (17, (.int ((i : Int))))] (by kernel_rfl) ?_
  refine wr_load H 0 a5 0 _ true rfl (by kernel_rfl) (.agg [(.int (y4.Number)), (.int (y4.Words)), (.int (y4.Facts)), (.int (y4.May))]) (by kernel_rfl) (by kernel_rfl) ?_
  refine wr_callv fv (by kernel_rfl) [(.int ((i : Int))), (.agg [(.int (y4.Number)), (.int (y4.Words)), (.int (y4.Facts)), (.int (y4.May))])] (by kernel_rfl) (by kernel_rfl) (WV.mono (hf i _ hy4 _ (H.ext rfl)) ?_)
  rintro r9 st10 ⟨e8, rfl, he8, E11⟩
  replace H := H.then E11
  refine wr_run 1 [(8, (.int (e8)))] (by kernel_rfl) ?_
  refine wr_done ?_
  refine wl_assoc ?_
  refine wl_ops ?_
  refine wr_run 2 [(20, (.int (e8))), (21, (.bool ((e8 : Int) != (0 : Int))))] (by kernel_rfl) ?_
  refine wr_done ?_
  refine wl_cond ((e8 : Int) != (0 : Int)) (by kernel_rfl) (fun c12 => ?_) (fun c12 => ?_)
  ·skip
   have c12' : ¬ ((e8 : Int) = (0 : Int)) := by simpa using c12
   refine wl_assoc ?_
   refine wl_ops ?_
   refine wr_run 4 [(22, (.int ((i : Int)))), (23, (.int (e8))), (4, (.int ((i : Int)))), (5, (.int (e8)))] (by kernel_rfl) ?_
   refine wr_done ?_
   refine wl_ret ?_
   refine hX3 _ _ _ (by decide) (by decide) ?_
   refine hX1 _ _ _ (by decide) (by decide) ?_
   refine post_i (Or.inr rfl) (.tup [(.int ((i : Int))), (.int (e8))]) (by kernel_rfl) ?_
   exact Or.inl ⟨_, _, c12', rfl, H.ext rfl⟩
  ·skip
   have c12' : (e8 : Int) = (0 : Int) := by simpa using c12
   refine wl_skip_seq ?_
   refine wl_skip ?_
   refine hN3 _ _ ?_
   refine wl_ops ?_
   refine wr_bin (.int ((i : Int))) (.int (1)) (.int (((i : Int)) + (1))) (by kernel_rfl) (by kernel_rfl) (add64 (by omega)) (by kernel_rfl) ?_
   refine wr_run 1 [(11, (.int (((i : Int)) + (1))))] (by kernel_rfl) ?_
   refine wr_done ?_
   refine wl_skip ?_
   replace H := H.tail rfl
   have hnx := nth_step hφ hy4 (he8 c12')
   refine hN1 _ _ (i + 1) ⟨x4_1, x5_1, (.int ((i : Int))), (.ptr a5 0), (.int (e8)), (.bool (decide (((i : Int) : Int) < ((l.length : Nat) : Int)))), (.int ((i : Int))), (.lptr (l.flatMap encCopy) (((i : Int)).toNat * 4)), (.agg [(.int (y4.Number)), (.int (y4.Words)), (.int (y4.Facts)), (.int (y4.May))]), fv, (.int ((i : Int))), (.agg [(.int (y4.Number)), (.int (y4.Words)), (.int (y4.Facts)), (.int (y4.May))]), (.int (e8)), (.int (e8)), (.bool ((e8 : Int) != (0 : Int))), x22_1, x23_1, (.int (((i : Int)) + (1))), by kernel_rfl, H, by omega, hnx⟩ (by simp only; omega)
 ·skip
  have c2' : ¬ (((i : Int) : Int) < ((l.length : Nat) : Int)) := of_decide_eq_false c2
  refine wl_exit ?_
  refine hE1 _ _ ?_
  refine wl_assoc ?_
  refine wl_ops ?_
  refine wr_run 2 [(4, (.int (0))), (5, (.int (0)))] (by kernel_rfl) ?_
  refine wr_done ?_
  refine wl_ret ?_
  refine post_i (Or.inr rfl) (.tup [(.int (0)), (.int (0))]) (by kernel_rfl) ?_
  exact Or.inr ⟨rfl, fun j x hj => hφ j x (by have := (List.getElem?_eq_some_iff.1 hj).1; omega) hj, H.ext rfl⟩

theorem failC_ok (own : EF.Own) (l : List ChCopy) (fv : AV) (φ : Nat → ChCopy → Prop) (st : St) (hl : l.length < 2 ^ 62) (hf : ∀ (i : Nat) x, l[i]? = some x → ∀ s, Ext st s → WV Try.prog fv [.int i, (.agg [(.int (x.Number)), (.int (x.Words)), (.int (x.Facts)), (.int (x.May))])] s fun r s' => (∃ e : Int, r = .int e ∧ ¬ (e = 0) ∧ Ext s s') ∨ (r = .int 0 ∧ φ i x ∧ Ext s s')) :
  WF Try.prog 42 [lst own encCopy l, fv] st fun r st' => (∃ i e : Int, ¬ (e = 0) ∧ r = .tup [.int i, .int e] ∧ Ext st st') ∨ (r = .tup [.int 0, .int 0] ∧ (∀ (i : Nat) x, l[i]? = some x → φ i x) ∧ Ext st st') :=
 failC_ok0 own l fv φ st hl fun i x hx s E => (hf i x hx s E).mono fun r s' h => h.elim (fun ⟨e, h1, h2, h3⟩ => ⟨e, h1, fun h => absurd h h2, h3⟩) fun ⟨h1, h2, h3⟩ => ⟨0, h1, fun _ => h2, h3⟩

set_option maxHeartbeats 4000000 in
theorem failR_ok0 (own : EF.Own) (l : List ChRule) (fv : AV) (φ : Nat → ChRule → Prop) (st : St) (hl : l.length < 2 ^ 62) (hf : ∀ (i : Nat) x, l[i]? = some x → ∀ s, Ext st s → WV Try.prog fv [.int i, (.agg [(.int (x.If)), (.int (x.Then))])] s fun r s' => ∃ e : Int, r = .int e ∧ (e = 0 → φ i x) ∧ Ext s s') : WF Try.prog 44 [(lst own encRule l), fv] st fun r st' => (∃ i e : Int, ¬ (e = 0) ∧ r = .tup [.int i, .int e] ∧ Ext st st') ∨ (r = .tup [.int 0, .int 0] ∧ (∀ (i : Nat) x, l[i]? = some x → φ i x) ∧ Ext st st') := by
 refine wf_L c44 rfl ?_
 have H := SP.start st
 refine wl_tail ?_
 refine wl_assoc ?_
 refine wl_ops ?_
 refine wr_run 2 [(4, (.int (0))), (5, (.int (0)))] (by kernel_rfl) ?_
 refine wr_done ?_
 refine wl_assoc ?_
 refine wl_assoc ?_
 refine wl_ops ?_
 refine wr_run 3 [(9, (lst own encRule l)), (10, (.int ((l.length : Nat)))), (11, (.int (0)))] (by kernel_rfl) ?_
 refine wr_done ?_
 refine wl_loop (σ := (Nat)) (fun (zz : (Nat)) (lf : List AV) (st' : St) => match zz with | i => ∃ x4_1 x5_1 x6_1 x7_1 x8_1 x12_1 x13_1 x14_1 x15_1 x16_1 x17_1 x18_1 x19_1 x20_1 x21_1 x22_1 x23_1 x24_1 : AV, lf = [(lst own encRule l), fv, .junk, .junk, x4_1, x5_1, x6_1, x7_1, x8_1, (lst own encRule l), (.int ((l.length : Nat))), (.int ((i : Int))), x12_1, x13_1, x14_1, x15_1, x16_1, x17_1, x18_1, x19_1, x20_1, x21_1, x22_1, x23_1, x24_1] ∧ SP st [] [] st' ∧ i ≤ l.length ∧ ∀ (j : Nat) x, j < i → l[j]? = some x → φ j x) (fun (zz : (Nat)) => match zz with | i => l.length - i) 0 ⟨(.int (0)), (.int (0)), .junk, .junk, .junk, .junk, .junk, .junk, .junk, .junk, .junk, .junk, .junk, .junk, .junk, .junk, .junk, .junk, by kernel_rfl, H, Nat.zero_le _, fun _ _ h => by omega⟩ ?_
 clear H
 intro i lf st1 hI Q1 hN1 hE1 hX1
 dsimp only at hI
 obtain ⟨x4_1, x5_1, x6_1, x7_1, x8_1, x12_1, x13_1, x14_1, x15_1, x16_1, x17_1, x18_1, x19_1, x20_1, x21_1, x22_1, x23_1, x24_1, rfl, H, hi, hφ⟩ := hI
 refine wl_tail ?_
 refine wl_assoc ?_
 refine wl_ops ?_
 refine wr_run 1 [(12, (.bool (decide (((i : Int) : Int) < ((l.length : Nat) : Int)))))] (by kernel_rfl) ?_
 refine wr_done ?_
 refine wl_assoc ?_
 refine wl_cond (decide (((i : Int) : Int) < ((l.length : Nat) : Int))) (by kernel_rfl) (fun c2 => ?_) (fun c2 => ?_)
 ·skip
  have c2' : ((i : Int) : Int) < ((l.length : Nat) : Int) := of_decide_eq_true c2
  refine wl_skip_seq ?_
  refine wl_assoc ?_
  refine wl_block fun Q3 hN3 hE3 hX3 => ?_
  refine wl_tail ?_
  refine wl_assoc ?_
  refine wl_ops ?_
  refine wr_run 1 [(13, (.int ((i : Int))))] (by kernel_rfl) ?_
  refine wr_iaddre encRule_len own l (by kernel_rfl) ((i : Int)) (by kernel_rfl) (by omega) (by kernel_rfl) fun y4 hy4 => ?_
  refine wr_loade encRule_len l (((i : Int)).toNat) 0 y4 hy4 (by kernel_rfl) (.agg [(.int (y4.If)), (.int (y4.Then))]) (by kernel_rfl) (by decide) (by decide) (by kernel_rfl) ?_
  refine wr_alloc H (by kernel_rfl) fun a5 st6 H => ?_
  refine wr_run 1 [(6, (.int ((i : Int))))] (by kernel_rfl) ?_
  refine wr_store H 0 a5 0 _ true rfl (by kernel_rfl) (.agg [(.int (y4.If)), (.int (y4.Then))]) (by kernel_rfl) [(.int (y4.If)), (.int (y4.Then))] (by kernel_rfl) (by kernel_rfl) (by kernel_rfl) (by decide) (by kernel_rfl) (by kernel_rfl) fun st7 H => ?_
  refine wr_done ?_
  refine wl_assoc ?_
  refine wl_ops ?_
  refine wr_run 2 [(16, fv), (17, (.int ((i : Int))))] (by kernel_rfl) ?_
  refine wr_load H 0 a5 0 _ true rfl (by kernel_rfl) (.agg [(.int (y4.If)), (.int (y4.Then))]) (by kernel_rfl) (by kernel_rfl) ?_
  refine wr_callv fv (by kernel_rfl) [(.int ((i : Int))), (.agg [(.int (y4.If)), (.int (y4.Then))])] (by kernel_rfl) (by kernel_rfl) (WV.mono (hf i _ hy4 _ (H.ext rfl)) ?_)
  rintro r9 st10 ⟨e8, rfl, he8, E11⟩
  replace H := H.then E11
  refine wr_run 1 [(8, (.int (e8)))] (by kernel_rfl) ?_
  refine wr_done ?_
  refine wl_assoc ?_
  refine wl_ops ?_
  refine wr_run 2 [(20, (.int (e8))), (21, (.bool ((e8 : Int) != (0 : Int))))] (by kernel_rfl) ?_
  refine wr_done ?_
  refine wl_cond ((e8 : Int) != (0 : Int)) (by kernel_rfl) (fun c12 => ?_) (fun c12 => ?_)
  ·skip
   have c12' : ¬ ((e8 : Int) = (0 : Int)) := by simpa using c12
   refine wl_assoc ?_
   refine wl_ops ?_
   refine wr_run 4 [(22, (.int ((i : Int)))), (23, (.int (e8))), (4, (.int ((i : Int)))), (5, (.int (e8)))] (by kernel_rfl) ?_
   refine wr_done ?_
   refine wl_ret ?_
   refine hX3 _ _ _ (by decide) (by decide) ?_
   refine hX1 _ _ _ (by decide) (by decide) ?_
   refine post_i (Or.inr rfl) (.tup [(.int ((i : Int))), (.int (e8))]) (by kernel_rfl) ?_
   exact Or.inl ⟨_, _, c12', rfl, H.ext rfl⟩
  ·skip
   have c12' : (e8 : Int) = (0 : Int) := by simpa using c12
   refine wl_skip_seq ?_
   refine wl_skip ?_
   refine hN3 _ _ ?_
   refine wl_ops ?_
   refine wr_bin (.int ((i : Int))) (.int (1)) (.int (((i : Int)) + (1))) (by kernel_rfl) (by kernel_rfl) (add64 (by omega)) (by kernel_rfl) ?_
   refine wr_run 1 [(11, (.int (((i : Int)) + (1))))] (by kernel_rfl) ?_
   refine wr_done ?_
   refine wl_skip ?_
   replace H := H.tail rfl
   have hnx := nth_step hφ hy4 (he8 c12')
   refine hN1 _ _ (i + 1) ⟨x4_1, x5_1, (.int ((i : Int))), (.ptr a5 0), (.int (e8)), (.bool (decide (((i : Int) : Int) < ((l.length : Nat) : Int)))), (.int ((i : Int))), (.lptr (l.flatMap encRule) (((i : Int)).toNat * 2)), (.agg [(.int (y4.If)), (.int (y4.Then))]), fv, (.int ((i : Int))), (.agg [(.int (y4.If)), (.int (y4.Then))]), (.int (e8)), (.int (e8)), (.bool ((e8 : Int) != (0 : Int))), x22_1, x23_1, (.int (((i : Int)) + (1))), by kernel_rfl, H, by omega, hnx⟩ (by simp only; omega)
 ·skip
  have c2' : ¬ (((i : Int) : Int) < ((l.length : Nat) : Int)) := of_decide_eq_false c2
  refine wl_exit ?_
  refine hE1 _ _ ?_
  refine wl_assoc ?_
  refine wl_ops ?_
  refine wr_run 2 [(4, (.int (0))), (5, (.int (0)))] (by kernel_rfl) ?_
  refine wr_done ?_
  refine wl_ret ?_
  refine post_i (Or.inr rfl) (.tup [(.int (0)), (.int (0))]) (by kernel_rfl) ?_
  exact Or.inr ⟨rfl, fun j x hj => hφ j x (by have := (List.getElem?_eq_some_iff.1 hj).1; omega) hj, H.ext rfl⟩

theorem failR_ok (own : EF.Own) (l : List ChRule) (fv : AV) (φ : Nat → ChRule → Prop) (st : St) (hl : l.length < 2 ^ 62) (hf : ∀ (i : Nat) x, l[i]? = some x → ∀ s, Ext st s → WV Try.prog fv [.int i, (.agg [(.int (x.If)), (.int (x.Then))])] s fun r s' => (∃ e : Int, r = .int e ∧ ¬ (e = 0) ∧ Ext s s') ∨ (r = .int 0 ∧ φ i x ∧ Ext s s')) :
  WF Try.prog 44 [lst own encRule l, fv] st fun r st' => (∃ i e : Int, ¬ (e = 0) ∧ r = .tup [.int i, .int e] ∧ Ext st st') ∨ (r = .tup [.int 0, .int 0] ∧ (∀ (i : Nat) x, l[i]? = some x → φ i x) ∧ Ext st st') :=
 failR_ok0 own l fv φ st hl fun i x hx s E => (hf i x hx s E).mono fun r s' h => h.elim (fun ⟨e, h1, h2, h3⟩ => ⟨e, h1, fun h => absurd h h2, h3⟩) fun ⟨h1, h2, h3⟩ => ⟨0, h1, fun _ => h2, h3⟩

set_option maxHeartbeats 4000000 in
theorem check1_ok (C : ChChest) (c : Nat) (i : Int) (s : ByteArray) (st : St) (hc_c : st.get c = some (.cells [(.int (C.Words)), (.int (C.Facts)), (lst .any encS C.People), (.int (C.Last)), (lst .any encCopy C.Copies), (lst .any encRule C.Rules)])) (hp : (C.People.length : Int) ≤ 1048576) (hc : (C.Copies.length : Int) ≤ 1048576) (hr : (C.Rules.length : Int) ≤ 1048576) (hi : 0 ≤ i ∧ i ≤ (C.People.length : Int)) : WF Try.prog 39 [(.int (i)), (.str s), (.ptr c 0)] st fun r st' => (∃ (e158 : Int), r = (.int (e158)) ∧ (¬ (e158 = 0)) ∧ Ext st st') ∨ (r = (.int (0)) ∧ (True) ∧ Ext st st') := by
 refine wf_L c39 rfl ?_
 have H : SP st [⟨c, .cells [(.int (C.Words)), (.int (C.Facts)), (lst .any encS C.People), (.int (C.Last)), (lst .any encCopy C.Copies), (lst .any encRule C.Rules)], false⟩] [] st := SP.startm _ (List.forall_mem_cons.2 ⟨⟨hc_c, rfl⟩, (by simp)⟩) (by simp)
 refine wl_tail ?_
 refine wl_assoc ?_
 refine wl_ops ?_
 refine wr_run 1 [(5, (.int (0)))] (by kernel_rfl) ?_
 refine wr_done ?_
 refine wl_assoc ?_
 refine wl_block fun Q159 hN159 hE159 hX159 => ?_
 refine wl_tail ?_
 refine wl_assoc ?_
 refine wl_ops ?_
 refine wr_run 1 [(7, (.str s))] (by kernel_rfl) ?_
 refine wr_call [(.str s)] (by kernel_rfl) (by kernel_rfl) (WF.mono (name_ok s _ ) ?_)
 rintro r160 st161 ⟨b162, rfl, E163⟩
 replace H := H.then E163
 refine wr_run 2 [(9, (.bool (!(b162)))), (6, (.bool (!(b162))))] (by kernel_rfl) ?_
 refine wr_done ?_
 refine wl_cond (!(b162)) (by kernel_rfl) (fun c165 => ?_) (fun c165 => ?_)
 ·skip
  have c165' : (b162) = false := by simpa using c165
  refine wl_assoc ?_
  refine wl_ops ?_
  refine wr_run 1 [(5, (.int (6)))] (by kernel_rfl) ?_
  refine wr_done ?_
  refine wl_ret ?_
  refine hX159 _ _ _ (by decide) (by decide) ?_
  refine post_i (Or.inr rfl) (.int (6)) (by kernel_rfl) ?_
  exact (Or.inl ⟨6, rfl, by omega, H.ext' (List.forall_mem_cons.2 ⟨(fun _ => hc_c), (by simp)⟩)⟩)
 ·skip
  have c165' : (b162) = true := by simpa using c165
  refine wl_assoc ?_
  refine wl_ops ?_
  refine wr_run 1 [(11, (.ptr c 2))] (by kernel_rfl) ?_
  refine wr_load H 0 c 2 _ false rfl (by kernel_rfl) (lst .any encS C.People) (by kernel_rfl) (by kernel_rfl) ?_
  refine wr_run 1 [(13, (.int (i)))] (by kernel_rfl) ?_
  refine wr_pureX (fun (y : EF.Own × List ByteArray) => .list y.1 (y.2.flatMap encS) y.2.length) _ (ev_slice encS_len .any C.People (by kernel_rfl) (0) (i) rfl (by show _ = _; kernel_rfl) (by omega)) (by kernel_rfl) (by kernel_rfl) fun ⟨own166, l167⟩ ⟨hl167, hml167⟩ => ?_
  dsimp only at hl167 hml167
  clear hml167
  refine wr_run 1 [(15, (.str s))] (by kernel_rfl) ?_
  refine wr_call [(lst own166 encS l167), (.str s)] (by kernel_rfl) (by kernel_rfl) (WF.mono (containsS_ok own166 l167 s _ (by omega)) ?_)
  rintro r168 st169 ⟨b170, rfl, E171⟩
  replace H := H.then E171
  refine wr_run 1 [(10, (.bool (b170)))] (by kernel_rfl) ?_
  refine wr_done ?_
  refine wl_cond (b170) (by kernel_rfl) (fun c173 => ?_) (fun c173 => ?_)
  ·skip
   refine wl_assoc ?_
   refine wl_ops ?_
   refine wr_run 1 [(5, (.int (5)))] (by kernel_rfl) ?_
   refine wr_done ?_
   refine wl_ret ?_
   refine hX159 _ _ _ (by decide) (by decide) ?_
   refine post_i (Or.inr rfl) (.int (5)) (by kernel_rfl) ?_
   exact (Or.inl ⟨5, rfl, by omega, H.ext' (List.forall_mem_cons.2 ⟨(fun _ => hc_c), (by simp)⟩)⟩)
  ·skip
   refine wl_skip_seq ?_
   refine wl_skip ?_
   refine hN159 _ _ ?_
   refine wl_assoc ?_
   refine wl_ops ?_
   refine wr_run 1 [(5, (.int (0)))] (by kernel_rfl) ?_
   refine wr_done ?_
   refine wl_ret ?_
   refine post_i (Or.inr rfl) (.int (0)) (by kernel_rfl) ?_
   exact (Or.inr ⟨rfl, by first | omega | (simp; omega) | simp, H.ext' (List.forall_mem_cons.2 ⟨(fun _ => hc_c), (by simp)⟩)⟩)

set_option maxHeartbeats 4000000 in
theorem check2_ok (C : ChChest) (c : Nat) (w : Nat) (f : Nat) (p : Nat) (W : Int) (U : Int) (V : Int) (i : Int) (x : ChCopy) (st : St) (hc_c : st.get c = some (.cells [(.int (C.Words)), (.int (C.Facts)), (lst .any encS C.People), (.int (C.Last)), (lst .any encCopy C.Copies), (lst .any encRule C.Rules)])) (hc_w : st.get w = some (.cells [(.int (W))])) (hc_f : st.get f = some (.cells [(.int (U))])) (hc_p : st.get p = some (.cells [(.int (V))])) (hnd : [c, w, f, p].Nodup) (hp : (C.People.length : Int) ≤ 1048576) (hc : (C.Copies.length : Int) ≤ 1048576) (hr : (C.Rules.length : Int) ≤ 1048576) (hi : 0 ≤ i ∧ i < (C.Copies.length : Int)) : WF Try.prog 43 [(.int (i)), (.agg [(.int (x.Number)), (.int (x.Words)), (.int (x.Facts)), (.int (x.May))]), (.ptr c 0), (.ptr w 0), (.ptr f 0), (.ptr p 0)] st fun r st' => (∃ (e174 : Int), r = (.int (e174)) ∧ (¬ (e174 = 0)) ∧ Ext st st') ∨ (r = (.int (0)) ∧ (True) ∧ Ext st st') := by
 refine wf_L c43 rfl ?_
 have H : SP st [⟨c, .cells [(.int (C.Words)), (.int (C.Facts)), (lst .any encS C.People), (.int (C.Last)), (lst .any encCopy C.Copies), (lst .any encRule C.Rules)], false⟩, ⟨w, .cells [(.int (W))], false⟩, ⟨f, .cells [(.int (U))], false⟩, ⟨p, .cells [(.int (V))], false⟩] [] st := SP.startm _ (List.forall_mem_cons.2 ⟨⟨hc_c, rfl⟩, (List.forall_mem_cons.2 ⟨⟨hc_w, rfl⟩, (List.forall_mem_cons.2 ⟨⟨hc_f, rfl⟩, (List.forall_mem_cons.2 ⟨⟨hc_p, rfl⟩, (by simp)⟩)⟩)⟩)⟩) hnd
 refine wl_tail ?_
 refine wl_assoc ?_
 refine wl_ops ?_
 refine wr_box (.agg [(.int (x.Number)), (.int (x.Words)), (.int (x.Facts)), (.int (x.May))]) (by kernel_rfl) [(.int (x.Number)), (.int (x.Words)), (.int (x.Facts)), (.int (x.May))] (by kernel_rfl) (by kernel_rfl) H (by kernel_rfl) fun a175 st176 H => ?_
 refine wr_run 1 [(8, (.int (0)))] (by kernel_rfl) ?_
 refine wr_done ?_
 refine wl_assoc ?_
 refine wl_block fun Q177 hN177 hE177 hX177 => ?_
 refine wl_tail ?_
 refine wl_assoc ?_
 refine wl_ops ?_
 refine wr_run 1 [(10, (.ptr c 3))] (by kernel_rfl) ?_
 refine wr_load H 1 c 3 _ false rfl (by kernel_rfl) (.int (C.Last)) (by kernel_rfl) (by kernel_rfl) ?_
 refine wr_run 1 [(12, (.ptr a175 0))] (by kernel_rfl) ?_
 refine wr_load H 0 a175 0 _ true rfl (by kernel_rfl) (.int (x.Number)) (by kernel_rfl) (by kernel_rfl) ?_
 refine wr_run 1 [(14, (lst .exact encI [x.Number]))] (by kernel_rfl) ?_
 refine wr_call [(.int (1)), (.int (C.Last)), (lst .exact encI [x.Number])] (by kernel_rfl) (by kernel_rfl) (WF.mono (off_ok 1 C.Last .exact ([x.Number]) _ (by simp)) ?_)
 rintro r178 st179 ⟨b180, rfl, hf183, E181⟩
 replace H := H.then E181
 refine wr_run 1 [(9, (.bool (b180)))] (by kernel_rfl) ?_
 refine wr_done ?_
 refine wl_cond (b180) (by kernel_rfl) (fun c184 => ?_) (fun c184 => ?_)
 ·skip
  refine wl_assoc ?_
  refine wl_ops ?_
  refine wr_run 1 [(8, (.int (7)))] (by kernel_rfl) ?_
  refine wr_done ?_
  refine wl_ret ?_
  refine hX177 _ _ _ (by decide) (by decide) ?_
  refine post_i (Or.inr rfl) (.int (7)) (by kernel_rfl) ?_
  exact (Or.inl ⟨7, rfl, by omega, H.ext' (List.forall_mem_cons.2 ⟨(fun e => nomatch e), (List.forall_mem_cons.2 ⟨(fun _ => hc_c), (List.forall_mem_cons.2 ⟨(fun _ => hc_w), (List.forall_mem_cons.2 ⟨(fun _ => hc_f), (List.forall_mem_cons.2 ⟨(fun _ => hc_p), (by simp)⟩)⟩)⟩)⟩)⟩)⟩)
 ·skip
  have hr185 := (hf183 c184) (x.Number) (by simp)
  refine wl_assoc ?_
  refine wl_draw0 (fun n => by kernel_rfl) ?_
  refine wd_run 3 [(17, (.int (i))), (18, (.bool (decide ((i : Int) > (0 : Int))))), (19, (.bool (decide ((i : Int) > (0 : Int)))))] (by kernel_rfl) (by kernel_rfl) ?_
  refine wd_case 19 (decide ((i : Int) > (0 : Int))) (by kernel_rfl) (fun c186 => ?_) (fun c186 => ?_) (by kernel_rfl)
  ·skip
   have c186' : (i : Int) > 0 := of_decide_eq_true c186
   refine wd_run 1 [(20, (.ptr a175 0))] (by kernel_rfl) (by kernel_rfl) ?_
   refine wd_guard (by kernel_rfl) ?_ (by kernel_rfl)
   refine wd_load H 0 a175 0 _ true rfl (by kernel_rfl) (.int (x.Number)) (by kernel_rfl) [] (by kernel_rfl) True.intro (by kernel_rfl) ?_
   refine wd_run 1 [(22, (.ptr c 4))] (by kernel_rfl) (by kernel_rfl) ?_
   refine wd_guard (by kernel_rfl) ?_ (by kernel_rfl)
   refine wd_load H 1 c 4 _ false rfl (by kernel_rfl) (lst .any encCopy C.Copies) (by kernel_rfl) [] (by kernel_rfl) True.intro (by kernel_rfl) ?_
   refine wd_run 1 [(24, (.int (i)))] (by kernel_rfl) (by kernel_rfl) ?_
   refine wd_guard (by kernel_rfl) ?_ (by kernel_rfl)
   refine wd_pure (.int (i - 1)) (ev_bin (.int (i)) (.int (1)) (.int (i - 1)) (by kernel_rfl) (by kernel_rfl) (sub64e _ (by unfold I64; omega)) _) (by kernel_rfl) (by kernel_rfl) ?_
   refine wd_guard (by kernel_rfl) ?_ (by kernel_rfl)
   obtain ⟨y187, hy187⟩ := getx C.Copies (i - 1) (by omega)
   refine wd_pure (.lptr (C.Copies.flatMap encCopy) ((i - 1 : Int).toNat * 4)) (ev_iaddr .any _ _ (by kernel_rfl) (i - 1) (by kernel_rfl) (by omega) (enc_len encCopy_len _) _) (by kernel_rfl) (by kernel_rfl) ?_
   refine wd_run 1 [(27, (.lptr (C.Copies.flatMap encCopy) ((i - 1 : Int).toNat * 4)))] (by kernel_rfl) (by kernel_rfl) ?_
   refine wd_guard (by kernel_rfl) ?_ (by kernel_rfl)
   refine wd_readl (.int (y187.Number)) (ev_loade encCopy_len C.Copies ((i - 1 : Int).toNat) 0 y187 hy187 (by kernel_rfl) (.int (y187.Number)) (by kernel_rfl) (by decide) (by decide)) (by kernel_rfl) (by kernel_rfl) ?_
   refine wd_run 3 [(29, (.bool (decide ((x.Number : Int) ≤ (y187.Number : Int))))), (30, (.bool (decide ((x.Number : Int) ≤ (y187.Number : Int))))), (16, (.bool (decide ((x.Number : Int) ≤ (y187.Number : Int)))))] (by kernel_rfl) (by kernel_rfl) ?_
   refine wd_done ?_
   refine wl_cond (decide ((x.Number : Int) ≤ (y187.Number : Int))) (by kernel_rfl) (fun c188 => ?_) (fun c188 => ?_)
   ·skip
    have c188' : (x.Number : Int) ≤ y187.Number := of_decide_eq_true c188
    refine wl_assoc ?_
    refine wl_ops ?_
    refine wr_run 1 [(8, (.int (2)))] (by kernel_rfl) ?_
    refine wr_done ?_
    refine wl_ret ?_
    refine hX177 _ _ _ (by decide) (by decide) ?_
    refine post_i (Or.inr rfl) (.int (2)) (by kernel_rfl) ?_
    exact (Or.inl ⟨2, rfl, by omega, H.ext' (List.forall_mem_cons.2 ⟨(fun e => nomatch e), (List.forall_mem_cons.2 ⟨(fun _ => hc_c), (List.forall_mem_cons.2 ⟨(fun _ => hc_w), (List.forall_mem_cons.2 ⟨(fun _ => hc_f), (List.forall_mem_cons.2 ⟨(fun _ => hc_p), (by simp)⟩)⟩)⟩)⟩)⟩)⟩)
   ·skip
    have c188' : ¬ ((x.Number : Int) ≤ y187.Number) := of_decide_eq_false c188
    refine wl_assoc ?_
    refine wl_ops ?_
    refine wr_load H 2 w 0 _ false rfl (by kernel_rfl) (.int (W)) (by kernel_rfl) (by kernel_rfl) ?_
    refine wr_pureX (fun y => .int y) _ (ev_int (.int (W)) (.int (1)) (by kernel_rfl) (by kernel_rfl) (bx_sub _ _)) (by kernel_rfl) (by kernel_rfl) fun n189 hn189 => ?_
    replace hn189 := hn189.1
    unfold I64 at hn189
    refine wr_run 1 [(34, (.ptr a175 1))] (by kernel_rfl) ?_
    refine wr_load H 0 a175 1 _ true rfl (by kernel_rfl) (.int (x.Words)) (by kernel_rfl) (by kernel_rfl) ?_
    refine wr_run 1 [(36, (lst .exact encI [x.Words]))] (by kernel_rfl) ?_
    refine wr_call [(.int (0)), (.int (n189)), (lst .exact encI [x.Words])] (by kernel_rfl) (by kernel_rfl) (WF.mono (off_ok 0 n189 .exact ([x.Words]) _ (by simp)) ?_)
    rintro r190 st191 ⟨b192, rfl, hf195, E193⟩
    replace H := H.then E193
    refine wr_run 1 [(38, (.bool (b192)))] (by kernel_rfl) ?_
    refine wr_case 38 (b192) (by kernel_rfl) (fun c196 => ?_) (fun c196 => ?_) (by kernel_rfl)
    ·skip
     refine wr_run 16 [(39, (.tup [])), (40, (.tup [])), (41, (.tup [])), (42, (.tup [])), (43, (.tup [])), (44, (.tup [])), (45, (.bool (true))), (46, (.bool (true))), (47, (.tup [])), (48, (.tup [])), (49, (.tup [])), (50, (.tup [])), (51, (.tup [])), (52, (.tup [])), (53, (.bool (true))), (31, (.bool (true)))] (by kernel_rfl) ?_
     refine wr_done ?_
     refine wl_cond true (by kernel_rfl) (fun c197 => ?_) (fun c197 => by cases c197)
     clear c197
     refine wl_assoc ?_
     refine wl_ops ?_
     refine wr_run 1 [(8, (.int (4)))] (by kernel_rfl) ?_
     refine wr_done ?_
     refine wl_ret ?_
     refine hX177 _ _ _ (by decide) (by decide) ?_
     refine post_i (Or.inr rfl) (.int (4)) (by kernel_rfl) ?_
     exact (Or.inl ⟨4, rfl, by omega, H.ext' (List.forall_mem_cons.2 ⟨(fun e => nomatch e), (List.forall_mem_cons.2 ⟨(fun _ => hc_c), (List.forall_mem_cons.2 ⟨(fun _ => hc_w), (List.forall_mem_cons.2 ⟨(fun _ => hc_f), (List.forall_mem_cons.2 ⟨(fun _ => hc_p), (by simp)⟩)⟩)⟩)⟩)⟩)⟩)
    ·skip
     have hr198 := (hf195 c196) (x.Words) (by simp)
     refine wr_guard (by kernel_rfl) ?_
     refine wr_load H 3 f 0 _ false rfl (by kernel_rfl) (.int (U)) (by kernel_rfl) (by kernel_rfl) ?_
     refine wr_guard (by kernel_rfl) ?_
     refine wr_pureX (fun y => .int y) _ (ev_int (.int (U)) (.int (1)) (by kernel_rfl) (by kernel_rfl) (bx_sub _ _)) (by kernel_rfl) (by kernel_rfl) fun n199 hn199 => ?_
     replace hn199 := hn199.1
     unfold I64 at hn199
     refine wr_run 1 [(41, (.ptr a175 2))] (by kernel_rfl) ?_
     refine wr_guard (by kernel_rfl) ?_
     refine wr_frame [(.int (i)), (.agg [(.int (x.Number)), (.int (x.Words)), (.int (x.Facts)), (.int (x.May))]), (.ptr c 0), (.ptr w 0), (.ptr f 0), (.ptr p 0), .junk, (.ptr a175 0), (.int (0)), (.bool (b180)), (.ptr c 3), (.int (C.Last)), (.ptr a175 0), (.int (x.Number)), (lst .exact encI [x.Number]), (.bool (b180)), (.bool (decide ((x.Number : Int) ≤ (y187.Number : Int)))), (.int (i)), (.bool (decide ((i : Int) > (0 : Int)))), (.bool (true)), (.ptr a175 0), (.int (x.Number)), (.ptr c 4), (lst .any encCopy C.Copies), (.int (i)), (.int (i - 1)), (.lptr (C.Copies.flatMap encCopy) ((i - 1 : Int).toNat * 4)), (.lptr (C.Copies.flatMap encCopy) ((i - 1 : Int).toNat * 4)), (.int (y187.Number)), (.bool (decide ((x.Number : Int) ≤ (y187.Number : Int)))), (.bool (decide ((x.Number : Int) ≤ (y187.Number : Int)))), .junk, (.int (W)), (.int (n189)), (.ptr a175 1), (.int (x.Words)), (lst .exact encI [x.Words]), (.bool (b192)), (.bool (false)), (.int (U)), (.int (n199)), (.ptr a175 2), .junk, .junk, .junk, .junk, .junk, .junk, .junk, .junk, .junk, .junk, .junk, .junk] (by kernel_rfl) ?_
     refine wr_load H 0 a175 2 _ true rfl (by kernel_rfl) (.int (x.Facts)) (by kernel_rfl) (by kernel_rfl) ?_
     refine wr_run 1 [(43, (lst .exact encI [x.Facts]))] (by kernel_rfl) ?_
     refine wr_guard (by kernel_rfl) ?_
     refine wr_call [(.int (0)), (.int (n199)), (lst .exact encI [x.Facts])] (by kernel_rfl) (by kernel_rfl) (WF.mono (off_ok 0 n199 .exact ([x.Facts]) _ (by simp)) ?_)
     rintro r200 st201 ⟨b202, rfl, hf205, E203⟩
     replace H := H.then E203
     refine wr_run 2 [(45, (.bool (b202))), (46, (.bool (b202)))] (by kernel_rfl) ?_
     refine wr_case 46 (b202) (by kernel_rfl) (fun c206 => ?_) (fun c206 => ?_) (by kernel_rfl)
     ·skip
      refine wr_run 8 [(47, (.tup [])), (48, (.tup [])), (49, (.tup [])), (50, (.tup [])), (51, (.tup [])), (52, (.tup [])), (53, (.bool (true))), (31, (.bool (true)))] (by kernel_rfl) ?_
      refine wr_done ?_
      refine wl_cond true (by kernel_rfl) (fun c207 => ?_) (fun c207 => by cases c207)
      clear c207
      refine wl_assoc ?_
      refine wl_ops ?_
      refine wr_run 1 [(8, (.int (4)))] (by kernel_rfl) ?_
      refine wr_done ?_
      refine wl_ret ?_
      refine hX177 _ _ _ (by decide) (by decide) ?_
      refine post_i (Or.inr rfl) (.int (4)) (by kernel_rfl) ?_
      exact (Or.inl ⟨4, rfl, by omega, H.ext' (List.forall_mem_cons.2 ⟨(fun e => nomatch e), (List.forall_mem_cons.2 ⟨(fun _ => hc_c), (List.forall_mem_cons.2 ⟨(fun _ => hc_w), (List.forall_mem_cons.2 ⟨(fun _ => hc_f), (List.forall_mem_cons.2 ⟨(fun _ => hc_p), (by simp)⟩)⟩)⟩)⟩)⟩)⟩)
     ·skip
      have hr208 := (hf205 c206) (x.Facts) (by simp)
      refine wr_guard (by kernel_rfl) ?_
      refine wr_load H 4 p 0 _ false rfl (by kernel_rfl) (.int (V)) (by kernel_rfl) (by kernel_rfl) ?_
      refine wr_guard (by kernel_rfl) ?_
      refine wr_pureX (fun y => .int y) _ (ev_int (.int (V)) (.int (1)) (by kernel_rfl) (by kernel_rfl) (bx_sub _ _)) (by kernel_rfl) (by kernel_rfl) fun n209 hn209 => ?_
      replace hn209 := hn209.1
      unfold I64 at hn209
      refine wr_run 1 [(49, (.ptr a175 3))] (by kernel_rfl) ?_
      refine wr_guard (by kernel_rfl) ?_
      refine wr_load H 0 a175 3 _ true rfl (by kernel_rfl) (.int (x.May)) (by kernel_rfl) (by kernel_rfl) ?_
      refine wr_run 1 [(51, (lst .exact encI [x.May]))] (by kernel_rfl) ?_
      refine wr_guard (by kernel_rfl) ?_
      refine wr_call [(.int (0)), (.int (n209)), (lst .exact encI [x.May])] (by kernel_rfl) (by kernel_rfl) (WF.mono (off_ok 0 n209 .exact ([x.May]) _ (by simp)) ?_)
      rintro r210 st211 ⟨b212, rfl, hf215, E213⟩
      replace H := H.then E213
      refine wr_run 2 [(53, (.bool (b212))), (31, (.bool (b212)))] (by kernel_rfl) ?_
      refine wr_done ?_
      refine wl_cond (b212) (by kernel_rfl) (fun c216 => ?_) (fun c216 => ?_)
      ·skip
       refine wl_assoc ?_
       refine wl_ops ?_
       refine wr_run 1 [(8, (.int (4)))] (by kernel_rfl) ?_
       refine wr_done ?_
       refine wl_ret ?_
       refine hX177 _ _ _ (by decide) (by decide) ?_
       refine post_i (Or.inr rfl) (.int (4)) (by kernel_rfl) ?_
       exact (Or.inl ⟨4, rfl, by omega, H.ext' (List.forall_mem_cons.2 ⟨(fun e => nomatch e), (List.forall_mem_cons.2 ⟨(fun _ => hc_c), (List.forall_mem_cons.2 ⟨(fun _ => hc_w), (List.forall_mem_cons.2 ⟨(fun _ => hc_f), (List.forall_mem_cons.2 ⟨(fun _ => hc_p), (by simp)⟩)⟩)⟩)⟩)⟩)⟩)
      ·skip
       have hr217 := (hf215 c216) (x.May) (by simp)
       refine wl_skip_seq ?_
       refine wl_skip ?_
       refine hN177 _ _ ?_
       refine wl_assoc ?_
       refine wl_ops ?_
       refine wr_run 1 [(8, (.int (0)))] (by kernel_rfl) ?_
       refine wr_done ?_
       refine wl_ret ?_
       refine post_i (Or.inr rfl) (.int (0)) (by kernel_rfl) ?_
       exact (Or.inr ⟨rfl, by first | omega | (simp; omega) | simp, H.ext' (List.forall_mem_cons.2 ⟨(fun e => nomatch e), (List.forall_mem_cons.2 ⟨(fun _ => hc_c), (List.forall_mem_cons.2 ⟨(fun _ => hc_w), (List.forall_mem_cons.2 ⟨(fun _ => hc_f), (List.forall_mem_cons.2 ⟨(fun _ => hc_p), (by simp)⟩)⟩)⟩)⟩)⟩)⟩)
  ·skip
   have c186' : ¬ ((i : Int) > 0) := of_decide_eq_false c186
   refine wd_run 12 [(20, (.tup [])), (21, (.tup [])), (22, (.tup [])), (23, (.tup [])), (24, (.tup [])), (25, (.tup [])), (26, (.tup [])), (27, (.tup [])), (28, (.tup [])), (29, (.tup [])), (30, (.bool (false))), (16, (.bool (false)))] (by kernel_rfl) (by kernel_rfl) ?_
   refine wd_done ?_
   refine wl_cond false (by kernel_rfl) (fun c218 => by cases c218) (fun c218 => ?_)
   clear c218
   refine wl_assoc ?_
   refine wl_ops ?_
   refine wr_load H 2 w 0 _ false rfl (by kernel_rfl) (.int (W)) (by kernel_rfl) (by kernel_rfl) ?_
   refine wr_pureX (fun y => .int y) _ (ev_int (.int (W)) (.int (1)) (by kernel_rfl) (by kernel_rfl) (bx_sub _ _)) (by kernel_rfl) (by kernel_rfl) fun n219 hn219 => ?_
   replace hn219 := hn219.1
   unfold I64 at hn219
   refine wr_run 1 [(34, (.ptr a175 1))] (by kernel_rfl) ?_
   refine wr_load H 0 a175 1 _ true rfl (by kernel_rfl) (.int (x.Words)) (by kernel_rfl) (by kernel_rfl) ?_
   refine wr_run 1 [(36, (lst .exact encI [x.Words]))] (by kernel_rfl) ?_
   refine wr_call [(.int (0)), (.int (n219)), (lst .exact encI [x.Words])] (by kernel_rfl) (by kernel_rfl) (WF.mono (off_ok 0 n219 .exact ([x.Words]) _ (by simp)) ?_)
   rintro r220 st221 ⟨b222, rfl, hf225, E223⟩
   replace H := H.then E223
   refine wr_run 1 [(38, (.bool (b222)))] (by kernel_rfl) ?_
   refine wr_case 38 (b222) (by kernel_rfl) (fun c226 => ?_) (fun c226 => ?_) (by kernel_rfl)
   ·skip
    refine wr_run 16 [(39, (.tup [])), (40, (.tup [])), (41, (.tup [])), (42, (.tup [])), (43, (.tup [])), (44, (.tup [])), (45, (.bool (true))), (46, (.bool (true))), (47, (.tup [])), (48, (.tup [])), (49, (.tup [])), (50, (.tup [])), (51, (.tup [])), (52, (.tup [])), (53, (.bool (true))), (31, (.bool (true)))] (by kernel_rfl) ?_
    refine wr_done ?_
    refine wl_cond true (by kernel_rfl) (fun c227 => ?_) (fun c227 => by cases c227)
    clear c227
    refine wl_assoc ?_
    refine wl_ops ?_
    refine wr_run 1 [(8, (.int (4)))] (by kernel_rfl) ?_
    refine wr_done ?_
    refine wl_ret ?_
    refine hX177 _ _ _ (by decide) (by decide) ?_
    refine post_i (Or.inr rfl) (.int (4)) (by kernel_rfl) ?_
    exact (Or.inl ⟨4, rfl, by omega, H.ext' (List.forall_mem_cons.2 ⟨(fun e => nomatch e), (List.forall_mem_cons.2 ⟨(fun _ => hc_c), (List.forall_mem_cons.2 ⟨(fun _ => hc_w), (List.forall_mem_cons.2 ⟨(fun _ => hc_f), (List.forall_mem_cons.2 ⟨(fun _ => hc_p), (by simp)⟩)⟩)⟩)⟩)⟩)⟩)
   ·skip
    have hr228 := (hf225 c226) (x.Words) (by simp)
    refine wr_guard (by kernel_rfl) ?_
    refine wr_load H 3 f 0 _ false rfl (by kernel_rfl) (.int (U)) (by kernel_rfl) (by kernel_rfl) ?_
    refine wr_guard (by kernel_rfl) ?_
    refine wr_pureX (fun y => .int y) _ (ev_int (.int (U)) (.int (1)) (by kernel_rfl) (by kernel_rfl) (bx_sub _ _)) (by kernel_rfl) (by kernel_rfl) fun n229 hn229 => ?_
    replace hn229 := hn229.1
    unfold I64 at hn229
    refine wr_run 1 [(41, (.ptr a175 2))] (by kernel_rfl) ?_
    refine wr_guard (by kernel_rfl) ?_
    refine wr_load H 0 a175 2 _ true rfl (by kernel_rfl) (.int (x.Facts)) (by kernel_rfl) (by kernel_rfl) ?_
    refine wr_run 1 [(43, (lst .exact encI [x.Facts]))] (by kernel_rfl) ?_
    refine wr_guard (by kernel_rfl) ?_
    refine wr_call [(.int (0)), (.int (n229)), (lst .exact encI [x.Facts])] (by kernel_rfl) (by kernel_rfl) (WF.mono (off_ok 0 n229 .exact ([x.Facts]) _ (by simp)) ?_)
    rintro r230 st231 ⟨b232, rfl, hf235, E233⟩
    replace H := H.then E233
    refine wr_run 2 [(45, (.bool (b232))), (46, (.bool (b232)))] (by kernel_rfl) ?_
    refine wr_case 46 (b232) (by kernel_rfl) (fun c236 => ?_) (fun c236 => ?_) (by kernel_rfl)
    ·skip
     refine wr_run 8 [(47, (.tup [])), (48, (.tup [])), (49, (.tup [])), (50, (.tup [])), (51, (.tup [])), (52, (.tup [])), (53, (.bool (true))), (31, (.bool (true)))] (by kernel_rfl) ?_
     refine wr_done ?_
     refine wl_cond true (by kernel_rfl) (fun c237 => ?_) (fun c237 => by cases c237)
     clear c237
     refine wl_assoc ?_
     refine wl_ops ?_
     refine wr_run 1 [(8, (.int (4)))] (by kernel_rfl) ?_
     refine wr_done ?_
     refine wl_ret ?_
     refine hX177 _ _ _ (by decide) (by decide) ?_
     refine post_i (Or.inr rfl) (.int (4)) (by kernel_rfl) ?_
     exact (Or.inl ⟨4, rfl, by omega, H.ext' (List.forall_mem_cons.2 ⟨(fun e => nomatch e), (List.forall_mem_cons.2 ⟨(fun _ => hc_c), (List.forall_mem_cons.2 ⟨(fun _ => hc_w), (List.forall_mem_cons.2 ⟨(fun _ => hc_f), (List.forall_mem_cons.2 ⟨(fun _ => hc_p), (by simp)⟩)⟩)⟩)⟩)⟩)⟩)
    ·skip
     have hr238 := (hf235 c236) (x.Facts) (by simp)
     refine wr_guard (by kernel_rfl) ?_
     refine wr_load H 4 p 0 _ false rfl (by kernel_rfl) (.int (V)) (by kernel_rfl) (by kernel_rfl) ?_
     refine wr_guard (by kernel_rfl) ?_
     refine wr_pureX (fun y => .int y) _ (ev_int (.int (V)) (.int (1)) (by kernel_rfl) (by kernel_rfl) (bx_sub _ _)) (by kernel_rfl) (by kernel_rfl) fun n239 hn239 => ?_
     replace hn239 := hn239.1
     unfold I64 at hn239
     refine wr_run 1 [(49, (.ptr a175 3))] (by kernel_rfl) ?_
     refine wr_guard (by kernel_rfl) ?_
     refine wr_load H 0 a175 3 _ true rfl (by kernel_rfl) (.int (x.May)) (by kernel_rfl) (by kernel_rfl) ?_
     refine wr_run 1 [(51, (lst .exact encI [x.May]))] (by kernel_rfl) ?_
     refine wr_guard (by kernel_rfl) ?_
     refine wr_frame [(.int (i)), (.agg [(.int (x.Number)), (.int (x.Words)), (.int (x.Facts)), (.int (x.May))]), (.ptr c 0), (.ptr w 0), (.ptr f 0), (.ptr p 0), .junk, (.ptr a175 0), (.int (0)), (.bool (b180)), (.ptr c 3), (.int (C.Last)), (.ptr a175 0), (.int (x.Number)), (lst .exact encI [x.Number]), (.bool (b180)), (.bool (false)), (.int (i)), (.bool (decide ((i : Int) > (0 : Int)))), (.bool (false)), (.tup []), (.tup []), (.tup []), (.tup []), (.tup []), (.tup []), (.tup []), (.tup []), (.tup []), (.tup []), (.bool (false)), .junk, (.int (W)), (.int (n219)), (.ptr a175 1), (.int (x.Words)), (lst .exact encI [x.Words]), (.bool (b222)), (.bool (false)), (.int (U)), (.int (n229)), (.ptr a175 2), (.int (x.Facts)), (lst .exact encI [x.Facts]), (.bool (b232)), (.bool (b232)), (.bool (false)), (.int (V)), (.int (n239)), (.ptr a175 3), (.int (x.May)), (lst .exact encI [x.May]), .junk, .junk] (by kernel_rfl) ?_
     refine wr_call [(.int (0)), (.int (n239)), (lst .exact encI [x.May])] (by kernel_rfl) (by kernel_rfl) (WF.mono (off_ok 0 n239 .exact ([x.May]) _ (by simp)) ?_)
     rintro r240 st241 ⟨b242, rfl, hf245, E243⟩
     replace H := H.then E243
     refine wr_run 2 [(53, (.bool (b242))), (31, (.bool (b242)))] (by kernel_rfl) ?_
     refine wr_done ?_
     refine wl_cond (b242) (by kernel_rfl) (fun c246 => ?_) (fun c246 => ?_)
     ·skip
      refine wl_assoc ?_
      refine wl_ops ?_
      refine wr_run 1 [(8, (.int (4)))] (by kernel_rfl) ?_
      refine wr_done ?_
      refine wl_ret ?_
      refine hX177 _ _ _ (by decide) (by decide) ?_
      refine post_i (Or.inr rfl) (.int (4)) (by kernel_rfl) ?_
      exact (Or.inl ⟨4, rfl, by omega, H.ext' (List.forall_mem_cons.2 ⟨(fun e => nomatch e), (List.forall_mem_cons.2 ⟨(fun _ => hc_c), (List.forall_mem_cons.2 ⟨(fun _ => hc_w), (List.forall_mem_cons.2 ⟨(fun _ => hc_f), (List.forall_mem_cons.2 ⟨(fun _ => hc_p), (by simp)⟩)⟩)⟩)⟩)⟩)⟩)
     ·skip
      have hr247 := (hf245 c246) (x.May) (by simp)
      refine wl_skip_seq ?_
      refine wl_skip ?_
      refine hN177 _ _ ?_
      refine wl_assoc ?_
      refine wl_ops ?_
      refine wr_run 1 [(8, (.int (0)))] (by kernel_rfl) ?_
      refine wr_done ?_
      refine wl_ret ?_
      refine post_i (Or.inr rfl) (.int (0)) (by kernel_rfl) ?_
      exact (Or.inr ⟨rfl, by first | omega | (simp; omega) | simp, H.ext' (List.forall_mem_cons.2 ⟨(fun e => nomatch e), (List.forall_mem_cons.2 ⟨(fun _ => hc_c), (List.forall_mem_cons.2 ⟨(fun _ => hc_w), (List.forall_mem_cons.2 ⟨(fun _ => hc_f), (List.forall_mem_cons.2 ⟨(fun _ => hc_p), (by simp)⟩)⟩)⟩)⟩)⟩)⟩)

set_option maxHeartbeats 4000000 in
theorem check3_ok (C : ChChest) (f : Nat) (c : Nat) (U : Int) (i : Int) (x : ChRule) (st : St) (hc_f : st.get f = some (.cells [(.int (U))])) (hc_c : st.get c = some (.cells [(.int (C.Words)), (.int (C.Facts)), (lst .any encS C.People), (.int (C.Last)), (lst .any encCopy C.Copies), (lst .any encRule C.Rules)])) (hnd : [f, c].Nodup) (hp : (C.People.length : Int) ≤ 1048576) (hc : (C.Copies.length : Int) ≤ 1048576) (hr : (C.Rules.length : Int) ≤ 1048576) (hf : 1 ≤ C.Facts ∧ C.Facts ≤ 6) : WF Try.prog 45 [(.int (i)), (.agg [(.int (x.If)), (.int (x.Then))]), (.ptr f 0), (.ptr c 0)] st fun r st' => (∃ (e248 : Int), r = (.int (e248)) ∧ (¬ (e248 = 0)) ∧ Ext st st') ∨ (r = (.int (0)) ∧ (0 ≤ x.Then ∧ x.Then ≤ C.Facts - 1) ∧ Ext st st') := by
 refine wf_L c45 rfl ?_
 have H : SP st [⟨f, .cells [(.int (U))], false⟩, ⟨c, .cells [(.int (C.Words)), (.int (C.Facts)), (lst .any encS C.People), (.int (C.Last)), (lst .any encCopy C.Copies), (lst .any encRule C.Rules)], false⟩] [] st := SP.startm _ (List.forall_mem_cons.2 ⟨⟨hc_f, rfl⟩, (List.forall_mem_cons.2 ⟨⟨hc_c, rfl⟩, (by simp)⟩)⟩) hnd
 refine wl_tail ?_
 refine wl_assoc ?_
 refine wl_ops ?_
 refine wr_box (.agg [(.int (x.If)), (.int (x.Then))]) (by kernel_rfl) [(.int (x.If)), (.int (x.Then))] (by kernel_rfl) (by kernel_rfl) H (by kernel_rfl) fun a249 st250 H => ?_
 refine wr_run 1 [(6, (.int (0)))] (by kernel_rfl) ?_
 refine wr_done ?_
 refine wl_assoc ?_
 refine wl_block fun Q251 hN251 hE251 hX251 => ?_
 refine wl_tail ?_
 refine wl_assoc ?_
 refine wl_ops ?_
 refine wr_load H 1 f 0 _ false rfl (by kernel_rfl) (.int (U)) (by kernel_rfl) (by kernel_rfl) ?_
 refine wr_pureX (fun y => .int y) _ (ev_int (.int (U)) (.int (1)) (by kernel_rfl) (by kernel_rfl) (bx_sub _ _)) (by kernel_rfl) (by kernel_rfl) fun n252 hn252 => ?_
 replace hn252 := hn252.1
 unfold I64 at hn252
 refine wr_run 1 [(10, (.ptr a249 0))] (by kernel_rfl) ?_
 refine wr_load H 0 a249 0 _ true rfl (by kernel_rfl) (.int (x.If)) (by kernel_rfl) (by kernel_rfl) ?_
 refine wr_run 1 [(12, (lst .exact encI [x.If]))] (by kernel_rfl) ?_
 refine wr_call [(.int (0)), (.int (n252)), (lst .exact encI [x.If])] (by kernel_rfl) (by kernel_rfl) (WF.mono (off_ok 0 n252 .exact ([x.If]) _ (by simp)) ?_)
 rintro r253 st254 ⟨b255, rfl, hf258, E256⟩
 replace H := H.then E256
 refine wr_run 1 [(14, (.bool (b255)))] (by kernel_rfl) ?_
 refine wr_case 14 (b255) (by kernel_rfl) (fun c259 => ?_) (fun c259 => ?_) (by kernel_rfl)
 ·skip
  refine wr_run 9 [(15, (.tup [])), (16, (.tup [])), (17, (.tup [])), (18, (.tup [])), (19, (.tup [])), (20, (.tup [])), (21, (.tup [])), (22, (.bool (true))), (7, (.bool (true)))] (by kernel_rfl) ?_
  refine wr_done ?_
  refine wl_cond true (by kernel_rfl) (fun c260 => ?_) (fun c260 => by cases c260)
  clear c260
  refine wl_assoc ?_
  refine wl_ops ?_
  refine wr_run 1 [(6, (.int (4)))] (by kernel_rfl) ?_
  refine wr_done ?_
  refine wl_ret ?_
  refine hX251 _ _ _ (by decide) (by decide) ?_
  refine post_i (Or.inr rfl) (.int (4)) (by kernel_rfl) ?_
  exact (Or.inl ⟨4, rfl, by omega, H.ext' (List.forall_mem_cons.2 ⟨(fun e => nomatch e), (List.forall_mem_cons.2 ⟨(fun _ => hc_f), (List.forall_mem_cons.2 ⟨(fun _ => hc_c), (by simp)⟩)⟩)⟩)⟩)
 ·skip
  have hr261 := (hf258 c259) (x.If) (by simp)
  refine wr_run 1 [(15, (.ptr c 1))] (by kernel_rfl) ?_
  refine wr_guard (by kernel_rfl) ?_
  refine wr_load H 2 c 1 _ false rfl (by kernel_rfl) (.int (C.Facts)) (by kernel_rfl) (by kernel_rfl) ?_
  refine wr_guard (by kernel_rfl) ?_
  refine wr_bin (.int (C.Facts)) (.int (1)) (.int (C.Facts - 1)) (by kernel_rfl) (by kernel_rfl) (sub64e _ (by unfold I64; omega)) (by kernel_rfl) ?_
  refine wr_run 1 [(18, (.ptr a249 1))] (by kernel_rfl) ?_
  refine wr_guard (by kernel_rfl) ?_
  refine wr_load H 0 a249 1 _ true rfl (by kernel_rfl) (.int (x.Then)) (by kernel_rfl) (by kernel_rfl) ?_
  refine wr_run 1 [(20, (lst .exact encI [x.Then]))] (by kernel_rfl) ?_
  refine wr_guard (by kernel_rfl) ?_
  refine wr_call [(.int (0)), (.int (C.Facts - 1)), (lst .exact encI [x.Then])] (by kernel_rfl) (by kernel_rfl) (WF.mono (off_ok 0 (C.Facts - 1) .exact ([x.Then]) _ (by simp)) ?_)
  rintro r262 st263 ⟨b264, rfl, hf267, E265⟩
  replace H := H.then E265
  refine wr_run 2 [(22, (.bool (b264))), (7, (.bool (b264)))] (by kernel_rfl) ?_
  refine wr_done ?_
  refine wl_cond (b264) (by kernel_rfl) (fun c268 => ?_) (fun c268 => ?_)
  ·skip
   refine wl_assoc ?_
   refine wl_ops ?_
   refine wr_run 1 [(6, (.int (4)))] (by kernel_rfl) ?_
   refine wr_done ?_
   refine wl_ret ?_
   refine hX251 _ _ _ (by decide) (by decide) ?_
   refine post_i (Or.inr rfl) (.int (4)) (by kernel_rfl) ?_
   exact (Or.inl ⟨4, rfl, by omega, H.ext' (List.forall_mem_cons.2 ⟨(fun e => nomatch e), (List.forall_mem_cons.2 ⟨(fun _ => hc_f), (List.forall_mem_cons.2 ⟨(fun _ => hc_c), (by simp)⟩)⟩)⟩)⟩)
  ·skip
   have hr269 := (hf267 c268) (x.Then) (by simp)
   refine wl_assoc ?_
   refine wl_ops ?_
   refine wr_run 1 [(24, (.ptr a249 0))] (by kernel_rfl) ?_
   refine wr_load H 0 a249 0 _ true rfl (by kernel_rfl) (.int (x.If)) (by kernel_rfl) (by kernel_rfl) ?_
   refine wr_run 2 [(26, (.bool ((x.If : Int) == (0 : Int)))), (23, (.bool ((x.If : Int) == (0 : Int))))] (by kernel_rfl) ?_
   refine wr_done ?_
   refine wl_cond ((x.If : Int) == (0 : Int)) (by kernel_rfl) (fun c270 => ?_) (fun c270 => ?_)
   ·skip
    have c270' : (x.If : Int) = 0 := by simpa using c270
    refine wl_assoc ?_
    refine wl_ops ?_
    refine wr_run 1 [(6, (.int (2)))] (by kernel_rfl) ?_
    refine wr_done ?_
    refine wl_ret ?_
    refine hX251 _ _ _ (by decide) (by decide) ?_
    refine post_i (Or.inr rfl) (.int (2)) (by kernel_rfl) ?_
    exact (Or.inl ⟨2, rfl, by omega, H.ext' (List.forall_mem_cons.2 ⟨(fun e => nomatch e), (List.forall_mem_cons.2 ⟨(fun _ => hc_f), (List.forall_mem_cons.2 ⟨(fun _ => hc_c), (by simp)⟩)⟩)⟩)⟩)
   ·skip
    have c270' : ¬ ((x.If : Int) = 0) := by simpa using c270
    refine wl_skip_seq ?_
    refine wl_skip ?_
    refine hN251 _ _ ?_
    refine wl_assoc ?_
    refine wl_ops ?_
    refine wr_run 1 [(6, (.int (0)))] (by kernel_rfl) ?_
    refine wr_done ?_
    refine wl_ret ?_
    refine post_i (Or.inr rfl) (.int (0)) (by kernel_rfl) ?_
    exact (Or.inr ⟨rfl, by first | omega | (simp; omega) | simp, H.ext' (List.forall_mem_cons.2 ⟨(fun e => nomatch e), (List.forall_mem_cons.2 ⟨(fun _ => hc_f), (List.forall_mem_cons.2 ⟨(fun _ => hc_c), (by simp)⟩)⟩)⟩)⟩)

set_option maxHeartbeats 4000000 in
theorem check_ok (C : ChChest) (st : St) (hp : (C.People.length : Int) ≤ 1048576) (hc : (C.Copies.length : Int) ≤ 1048576) (hr : (C.Rules.length : Int) ≤ 1048576) : WF Try.prog 7 [(.agg [(.int (C.Words)), (.int (C.Facts)), (lst .any encS C.People), (.int (C.Last)), (lst .any encCopy C.Copies), (lst .any encRule C.Rules)])] st fun r st' => (∃ (n271 : Int) (n272 : Int) (e273 : Int), r = (.tup [(.int (n271)), (.int (n272)), (.int (e273))]) ∧ (¬ (e273 = 0)) ∧ Ext st st') ∨ (r = (.tup [(.int (0)), (.int (0)), (.int (0))]) ∧ (1 ≤ C.Words ∧ C.Words ≤ 5) ∧ (1 ≤ C.Facts ∧ C.Facts ≤ 6) ∧ (0 ≤ C.Last ∧ C.Last ≤ 30) ∧ ((C.People.length : Int) ≤ 3) ∧ ((C.Copies.length : Int) ≤ 6) ∧ ((C.Rules.length : Int) ≤ 4) ∧ (∀ x ∈ C.Rules, 0 ≤ x.Then ∧ x.Then ≤ C.Facts - 1) ∧ Ext st st') := by
 refine wf_L c7 rfl ?_
 have H := SP.start st
 refine wl_tail ?_
 refine wl_assoc ?_
 refine wl_ops ?_
 refine wr_box (.agg [(.int (C.Words)), (.int (C.Facts)), (lst .any encS C.People), (.int (C.Last)), (lst .any encCopy C.Copies), (lst .any encRule C.Rules)]) (by kernel_rfl) [(.int (C.Words)), (.int (C.Facts)), (lst .any encS C.People), (.int (C.Last)), (lst .any encCopy C.Copies), (lst .any encRule C.Rules)] (by kernel_rfl) (by kernel_rfl) H (by kernel_rfl) fun a274 st275 H => ?_
 refine wr_run 3 [(2, (.int (0))), (3, (.int (0))), (4, (.int (0)))] (by kernel_rfl) ?_
 refine wr_done ?_
 refine wl_assoc ?_
 refine wl_block fun Q276 hN276 hE276 hX276 => ?_
 refine wl_tail ?_
 refine wl_assoc ?_
 refine wl_ops ?_
 refine wr_run 1 [(9, (.ptr a274 0))] (by kernel_rfl) ?_
 refine wr_load H 0 a274 0 _ true rfl (by kernel_rfl) (.int (C.Words)) (by kernel_rfl) (by kernel_rfl) ?_
 refine wr_run 1 [(11, (lst .exact encI [C.Words]))] (by kernel_rfl) ?_
 refine wr_call [(.int (1)), (.int (5)), (lst .exact encI [C.Words])] (by kernel_rfl) (by kernel_rfl) (WF.mono (off_ok 1 5 .exact ([C.Words]) _ (by simp)) ?_)
 rintro r277 st278 ⟨b279, rfl, hf282, E280⟩
 replace H := H.then E280
 refine wr_run 1 [(13, (.bool (b279)))] (by kernel_rfl) ?_
 refine wr_case 13 (b279) (by kernel_rfl) (fun c283 => ?_) (fun c283 => ?_) (by kernel_rfl)
 ·skip
  refine wr_run 12 [(14, (.tup [])), (15, (.tup [])), (16, (.tup [])), (17, (.tup [])), (18, (.bool (true))), (19, (.bool (true))), (20, (.tup [])), (21, (.tup [])), (22, (.tup [])), (23, (.tup [])), (24, (.bool (true))), (8, (.bool (true)))] (by kernel_rfl) ?_
  refine wr_done ?_
  refine wl_cond true (by kernel_rfl) (fun c284 => ?_) (fun c284 => by cases c284)
  clear c284
  refine wl_assoc ?_
  refine wl_ops ?_
  refine wr_run 3 [(2, (.int (1))), (3, (.int (0))), (4, (.int (7)))] (by kernel_rfl) ?_
  refine wr_done ?_
  refine wl_ret ?_
  refine hX276 _ _ _ (by decide) (by decide) ?_
  refine post_i (Or.inr rfl) (.tup [(.int (1)), (.int (0)), (.int (7))]) (by kernel_rfl) ?_
  exact (Or.inl ⟨1, 0, 7, rfl, by omega, H.ext rfl⟩)
 ·skip
  have hr285 := (hf282 c283) (C.Words) (by simp)
  refine wr_run 1 [(14, (.ptr a274 1))] (by kernel_rfl) ?_
  refine wr_guard (by kernel_rfl) ?_
  refine wr_load H 0 a274 1 _ true rfl (by kernel_rfl) (.int (C.Facts)) (by kernel_rfl) (by kernel_rfl) ?_
  refine wr_run 1 [(16, (lst .exact encI [C.Facts]))] (by kernel_rfl) ?_
  refine wr_guard (by kernel_rfl) ?_
  refine wr_call [(.int (1)), (.int (6)), (lst .exact encI [C.Facts])] (by kernel_rfl) (by kernel_rfl) (WF.mono (off_ok 1 6 .exact ([C.Facts]) _ (by simp)) ?_)
  rintro r286 st287 ⟨b288, rfl, hf291, E289⟩
  replace H := H.then E289
  refine wr_run 2 [(18, (.bool (b288))), (19, (.bool (b288)))] (by kernel_rfl) ?_
  refine wr_case 19 (b288) (by kernel_rfl) (fun c292 => ?_) (fun c292 => ?_) (by kernel_rfl)
  ·skip
   refine wr_run 6 [(20, (.tup [])), (21, (.tup [])), (22, (.tup [])), (23, (.tup [])), (24, (.bool (true))), (8, (.bool (true)))] (by kernel_rfl) ?_
   refine wr_done ?_
   refine wl_cond true (by kernel_rfl) (fun c293 => ?_) (fun c293 => by cases c293)
   clear c293
   refine wl_assoc ?_
   refine wl_ops ?_
   refine wr_run 3 [(2, (.int (1))), (3, (.int (0))), (4, (.int (7)))] (by kernel_rfl) ?_
   refine wr_done ?_
   refine wl_ret ?_
   refine hX276 _ _ _ (by decide) (by decide) ?_
   refine post_i (Or.inr rfl) (.tup [(.int (1)), (.int (0)), (.int (7))]) (by kernel_rfl) ?_
   exact (Or.inl ⟨1, 0, 7, rfl, by omega, H.ext rfl⟩)
  ·skip
   have hr294 := (hf291 c292) (C.Facts) (by simp)
   refine wr_run 1 [(20, (.ptr a274 3))] (by kernel_rfl) ?_
   refine wr_guard (by kernel_rfl) ?_
   refine wr_load H 0 a274 3 _ true rfl (by kernel_rfl) (.int (C.Last)) (by kernel_rfl) (by kernel_rfl) ?_
   refine wr_run 1 [(22, (lst .exact encI [C.Last]))] (by kernel_rfl) ?_
   refine wr_guard (by kernel_rfl) ?_
   refine wr_call [(.int (0)), (.int (30)), (lst .exact encI [C.Last])] (by kernel_rfl) (by kernel_rfl) (WF.mono (off_ok 0 30 .exact ([C.Last]) _ (by simp)) ?_)
   rintro r295 st296 ⟨b297, rfl, hf300, E298⟩
   replace H := H.then E298
   refine wr_run 2 [(24, (.bool (b297))), (8, (.bool (b297)))] (by kernel_rfl) ?_
   refine wr_done ?_
   refine wl_cond (b297) (by kernel_rfl) (fun c301 => ?_) (fun c301 => ?_)
   ·skip
    refine wl_assoc ?_
    refine wl_ops ?_
    refine wr_run 3 [(2, (.int (1))), (3, (.int (0))), (4, (.int (7)))] (by kernel_rfl) ?_
    refine wr_done ?_
    refine wl_ret ?_
    refine hX276 _ _ _ (by decide) (by decide) ?_
    refine post_i (Or.inr rfl) (.tup [(.int (1)), (.int (0)), (.int (7))]) (by kernel_rfl) ?_
    exact (Or.inl ⟨1, 0, 7, rfl, by omega, H.ext rfl⟩)
   ·skip
    have hr302 := (hf300 c301) (C.Last) (by simp)
    refine wl_assoc ?_
    refine wl_ops ?_
    refine wr_run 1 [(26, (.ptr a274 2))] (by kernel_rfl) ?_
    refine wr_load H 0 a274 2 _ true rfl (by kernel_rfl) (lst .any encS C.People) (by kernel_rfl) (by kernel_rfl) ?_
    refine wr_run 3 [(28, (.int ((C.People.length : Int)))), (29, (.bool (decide (((C.People.length : Int) : Int) > (3 : Int))))), (25, (.bool (decide (((C.People.length : Int) : Int) > (3 : Int)))))] (by kernel_rfl) ?_
    refine wr_done ?_
    refine wl_cond (decide (((C.People.length : Int) : Int) > (3 : Int))) (by kernel_rfl) (fun c303 => ?_) (fun c303 => ?_)
    ·skip
     have c303' : ((C.People.length : Int) : Int) > 3 := of_decide_eq_true c303
     refine wl_assoc ?_
     refine wl_ops ?_
     refine wr_run 3 [(2, (.int (2))), (3, (.int (0))), (4, (.int (3)))] (by kernel_rfl) ?_
     refine wr_done ?_
     refine wl_ret ?_
     refine hX276 _ _ _ (by decide) (by decide) ?_
     refine post_i (Or.inr rfl) (.tup [(.int (2)), (.int (0)), (.int (3))]) (by kernel_rfl) ?_
     exact (Or.inl ⟨2, 0, 3, rfl, by omega, H.ext rfl⟩)
    ·skip
     have c303' : ¬ (((C.People.length : Int) : Int) > 3) := of_decide_eq_false c303
     refine wl_skip_seq ?_
     refine wl_skip ?_
     refine hN276 _ _ ?_
     refine wl_assoc ?_
     refine wl_ops ?_
     refine wr_run 1 [(31, (.ptr a274 2))] (by kernel_rfl) ?_
     refine wr_load H 0 a274 2 _ true rfl (by kernel_rfl) (lst .any encS C.People) (by kernel_rfl) (by kernel_rfl) ?_
     refine wr_run 1 [(33, (.fn 39 [] [(.ptr a274 0)]))] (by kernel_rfl) ?_
     refine wr_call [(lst .any encS C.People), (.fn 39 [] [(.ptr a274 0)])] (by kernel_rfl) (by kernel_rfl) (WF.mono (failS_ok .any C.People (.fn 39 [] [(.ptr a274 0)]) (fun (i : Nat) (x : ByteArray) => True) _ (by omega) (fun i x hx s' E => check1_ok C a274 ((i : Int)) x s' (E.here (H.fact 0 rfl)) (by have := (List.getElem?_eq_some_iff.1 hx).1; omega) (by have := (List.getElem?_eq_some_iff.1 hx).1; omega) (by have := (List.getElem?_eq_some_iff.1 hx).1; omega) (by have := (List.getElem?_eq_some_iff.1 hx).1; omega))) ?_)
     rintro r305 st306 (⟨i307, e308, hnee308, rfl, E310⟩ | ⟨rfl, ho309, E310⟩)
     ·skip
      replace H := H.then E310
      refine wr_run 5 [(30, (.tup [(.int (i307)), (.int (e308))])), (35, (.int (i307))), (36, (.int (e308))), (3, (.int (i307))), (4, (.int (e308)))] (by kernel_rfl) ?_
      refine wr_done ?_
      refine wl_assoc ?_
      refine wl_block fun Q311 hN311 hE311 hX311 => ?_
      refine wl_tail ?_
      refine wl_assoc ?_
      refine wl_ops ?_
      refine wr_run 3 [(38, (.int (e308))), (39, (.bool ((e308 : Int) != (0 : Int)))), (37, (.bool ((e308 : Int) != (0 : Int))))] (by kernel_rfl) ?_
      refine wr_done ?_
      refine wl_cond ((e308 : Int) != (0 : Int)) (by kernel_rfl) (fun c312 => ?_) (fun c312 => ?_)
      ·skip
       have c312' : ¬ ((e308 : Int) = 0) := by simpa using c312
       refine wl_assoc ?_
       refine wl_ops ?_
       refine wr_run 5 [(40, (.int (i307))), (41, (.int (e308))), (2, (.int (2))), (3, (.int (i307))), (4, (.int (e308)))] (by kernel_rfl) ?_
       refine wr_done ?_
       refine wl_ret ?_
       refine hX311 _ _ _ (by decide) (by decide) ?_
       refine post_i (Or.inr rfl) (.tup [(.int (2)), (.int (i307)), (.int (e308))]) (by kernel_rfl) ?_
       exact (Or.inl ⟨2, i307, e308, rfl, by omega, H.ext rfl⟩)
      ·skip
       have c312' : (e308 : Int) = 0 := by simpa using c312
       exfalso; omega
     ·skip
      replace H := H.then E310
      refine wr_run 5 [(30, (.tup [(.int (0)), (.int (0))])), (35, (.int (0))), (36, (.int (0))), (3, (.int (0))), (4, (.int (0)))] (by kernel_rfl) ?_
      refine wr_done ?_
      refine wl_assoc ?_
      refine wl_block fun Q313 hN313 hE313 hX313 => ?_
      refine wl_tail ?_
      refine wl_assoc ?_
      refine wl_ops ?_
      refine wr_run 3 [(38, (.int (0))), (39, (.bool (false))), (37, (.bool (false)))] (by kernel_rfl) ?_
      refine wr_done ?_
      refine wl_cond false (by kernel_rfl) (fun c314 => by cases c314) (fun c314 => ?_)
      clear c314
      refine wl_assoc ?_
      refine wl_ops ?_
      refine wr_run 1 [(43, (.ptr a274 4))] (by kernel_rfl) ?_
      refine wr_load H 0 a274 4 _ true rfl (by kernel_rfl) (lst .any encCopy C.Copies) (by kernel_rfl) (by kernel_rfl) ?_
      refine wr_run 3 [(45, (.int ((C.Copies.length : Int)))), (46, (.bool (decide (((C.Copies.length : Int) : Int) > (6 : Int))))), (42, (.bool (decide (((C.Copies.length : Int) : Int) > (6 : Int)))))] (by kernel_rfl) ?_
      refine wr_done ?_
      refine wl_cond (decide (((C.Copies.length : Int) : Int) > (6 : Int))) (by kernel_rfl) (fun c315 => ?_) (fun c315 => ?_)
      ·skip
       have c315' : ((C.Copies.length : Int) : Int) > 6 := of_decide_eq_true c315
       refine wl_assoc ?_
       refine wl_ops ?_
       refine wr_run 3 [(2, (.int (3))), (3, (.int (0))), (4, (.int (3)))] (by kernel_rfl) ?_
       refine wr_done ?_
       refine wl_ret ?_
       refine hX313 _ _ _ (by decide) (by decide) ?_
       refine post_i (Or.inr rfl) (.tup [(.int (3)), (.int (0)), (.int (3))]) (by kernel_rfl) ?_
       exact (Or.inl ⟨3, 0, 3, rfl, by omega, H.ext rfl⟩)
      ·skip
       have c315' : ¬ (((C.Copies.length : Int) : Int) > 6) := of_decide_eq_false c315
       refine wl_skip_seq ?_
       refine wl_skip ?_
       refine hN313 _ _ ?_
       refine wl_assoc ?_
       refine wl_draw3 10 11 12 [(.int 0)] [(.int 0)] [(.int 0)] (fun n => by kernel_rfl) H (fun a316 a317 a318 st319 H => ?_)
       refine wd_run 1 [(47, (.ptr a274 0))] (by kernel_rfl) (by kernel_rfl) ?_
       refine wd_frame [(.agg [(.int (C.Words)), (.int (C.Facts)), (lst .any encS C.People), (.int (C.Last)), (lst .any encCopy C.Copies), (lst .any encRule C.Rules)]), (.ptr a274 0), (.int (0)), (.int (0)), (.int (0)), .junk, .junk, .junk, (.bool (b297)), (.ptr a274 0), (.int (C.Words)), (lst .exact encI [C.Words]), (.bool (b279)), (.bool (false)), (.ptr a274 1), (.int (C.Facts)), (lst .exact encI [C.Facts]), (.bool (b288)), (.bool (b288)), (.bool (false)), (.ptr a274 3), (.int (C.Last)), (lst .exact encI [C.Last]), (.bool (b297)), (.bool (b297)), (.bool (decide (((C.People.length : Int) : Int) > (3 : Int)))), (.ptr a274 2), (lst .any encS C.People), (.int ((C.People.length : Int))), (.bool (decide (((C.People.length : Int) : Int) > (3 : Int)))), (.tup [(.int (0)), (.int (0))]), (.ptr a274 2), (lst .any encS C.People), (.fn 39 [] [(.ptr a274 0)]), (.tup [(.int (0)), (.int (0))]), (.int (0)), (.int (0)), (.bool (false)), (.int (0)), (.bool (false)), .junk, .junk, (.bool (decide (((C.Copies.length : Int) : Int) > (6 : Int)))), (.ptr a274 4), (lst .any encCopy C.Copies), (.int ((C.Copies.length : Int))), (.bool (decide (((C.Copies.length : Int) : Int) > (6 : Int)))), (.ptr a274 0), .junk, .junk, .junk, .junk, .junk, .junk, .junk, .junk, .junk, .junk, .junk, .junk, .junk, .junk, .junk, .junk, .junk, .junk, .junk, .junk, .junk, .junk, .junk, .junk, .junk, .junk, .junk, .junk, .junk, .junk, .junk, .junk, .junk, .junk, .junk, .junk, .junk] (by kernel_rfl) ?_
       refine wd_load H 3 a274 0 _ true rfl (by kernel_rfl) (.int (C.Words)) (by kernel_rfl) [] (by kernel_rfl) True.intro (by kernel_rfl) ?_
       refine wd_pureX (fun y => .int y) _ (ev_int (.int (1)) (.int (C.Words)) (by kernel_rfl) (by kernel_rfl) (bx_shl _ _ (by omega))) (by kernel_rfl) (by kernel_rfl) fun n320 hn320 => ?_
       unfold I64 at hn320
       refine wd_run 1 [(50, (.ptr a274 1))] (by kernel_rfl) (by kernel_rfl) ?_
       refine wd_load H 3 a274 1 _ true rfl (by kernel_rfl) (.int (C.Facts)) (by kernel_rfl) [] (by kernel_rfl) True.intro (by kernel_rfl) ?_
       refine wd_pureX (fun y => .int y) _ (ev_int (.int (1)) (.int (C.Facts)) (by kernel_rfl) (by kernel_rfl) (bx_shl _ _ (by omega))) (by kernel_rfl) (by kernel_rfl) fun n321 hn321 => ?_
       unfold I64 at hn321
       refine wd_run 1 [(53, (.ptr a274 2))] (by kernel_rfl) (by kernel_rfl) ?_
       refine wd_load H 3 a274 2 _ true rfl (by kernel_rfl) (lst .any encS C.People) (by kernel_rfl) [] (by kernel_rfl) True.intro (by kernel_rfl) ?_
       refine wd_run 1 [(55, (.int ((C.People.length : Int))))] (by kernel_rfl) (by kernel_rfl) ?_
       refine wd_pureX (fun y => .int y) _ (ev_int (.int (1)) (.int ((C.People.length : Int))) (by kernel_rfl) (by kernel_rfl) (bx_shl _ _ (by omega))) (by kernel_rfl) (by kernel_rfl) fun n322 hn322 => ?_
       unfold I64 at hn322
       refine wd_alloc a316 [(.int 0)] (by kernel_rfl) (by kernel_rfl) ?_
       refine wd_alloc a317 [(.int 0)] (by kernel_rfl) (by kernel_rfl) ?_
       refine wd_alloc a318 [(.int 0)] (by kernel_rfl) (by kernel_rfl) ?_
       have H323 := H
       have H := H323.set 2 (c := ⟨a316, _, true⟩) rfl rfl (.cells [(.int (n320))])
       refine wd_eff .junk (ev_store H323 2 a316 0 _ true rfl (by kernel_rfl) (.int (n320)) (by kernel_rfl) [(.int (n320))] (by kernel_rfl) (by kernel_rfl) (by kernel_rfl) (Nat.le_of_ble_eq_true rfl) (by kernel_rfl)) (by kernel_rfl) (by kernel_rfl) [0, 1] [] (by kernel_rfl) (by kernel_rfl) (by exact ⟨⟨(rd_ok H 3 a274 2 _ true rfl (lst .any encS C.People) (by kernel_rfl)), ⟨(rd_ok H 3 a274 1 _ true rfl (.int (C.Facts)) (by kernel_rfl)), True.intro⟩⟩, True.intro⟩) (by kernel_rfl) ?_
       have H324 := H
       have H := H324.set 1 (c := ⟨a317, _, true⟩) rfl rfl (.cells [(.int (n321))])
       refine wd_eff .junk (ev_store H324 1 a317 0 _ true rfl (by kernel_rfl) (.int (n321)) (by kernel_rfl) [(.int (n321))] (by kernel_rfl) (by kernel_rfl) (by kernel_rfl) (Nat.le_of_ble_eq_true rfl) (by kernel_rfl)) (by kernel_rfl) (by kernel_rfl) [0] [] (by kernel_rfl) (by kernel_rfl) (by exact ⟨⟨(rd_ok H 3 a274 2 _ true rfl (lst .any encS C.People) (by kernel_rfl)), True.intro⟩, True.intro⟩) (by kernel_rfl) ?_
       have H325 := H
       have H := H325.set 0 (c := ⟨a318, _, true⟩) rfl rfl (.cells [(.int (n322))])
       refine wd_eff .junk (ev_store H325 0 a318 0 _ true rfl (by kernel_rfl) (.int (n322)) (by kernel_rfl) [(.int (n322))] (by kernel_rfl) (by kernel_rfl) (by kernel_rfl) (Nat.le_of_ble_eq_true rfl) (by kernel_rfl)) (by kernel_rfl) (by kernel_rfl) [] [] (by kernel_rfl) (by kernel_rfl) (by exact ⟨True.intro, True.intro⟩) (by kernel_rfl) ?_
       refine wd_done ?_
       refine wl_assoc ?_
       refine wl_ops ?_
       refine wr_run 1 [(58, (.ptr a274 4))] (by kernel_rfl) ?_
       refine wr_load H 3 a274 4 _ true rfl (by kernel_rfl) (lst .any encCopy C.Copies) (by kernel_rfl) (by kernel_rfl) ?_
       refine wr_run 1 [(60, (.fn 43 [] [(.ptr a274 0), (.ptr a316 0), (.ptr a317 0), (.ptr a318 0)]))] (by kernel_rfl) ?_
       refine wr_call [(lst .any encCopy C.Copies), (.fn 43 [] [(.ptr a274 0), (.ptr a316 0), (.ptr a317 0), (.ptr a318 0)])] (by kernel_rfl) (by kernel_rfl) (WF.mono (failC_ok .any C.Copies (.fn 43 [] [(.ptr a274 0), (.ptr a316 0), (.ptr a317 0), (.ptr a318 0)]) (fun (i : Nat) (x : ChCopy) => True) _ (by omega) (fun i x hx s' E => check2_ok C a274 a316 a317 a318 n320 n321 n322 ((i : Int)) x s' (E.here (H.fact 3 rfl)) (E.here (H.fact 2 rfl)) (E.here (H.fact 1 rfl)) (E.here (H.fact 0 rfl)) (H.pick [3, 2, 1, 0] (by decide) rfl) (by have := (List.getElem?_eq_some_iff.1 hx).1; omega) (by have := (List.getElem?_eq_some_iff.1 hx).1; omega) (by have := (List.getElem?_eq_some_iff.1 hx).1; omega) (by have := (List.getElem?_eq_some_iff.1 hx).1; omega))) ?_)
       rintro r327 st328 (⟨i329, e330, hnee330, rfl, E332⟩ | ⟨rfl, ho331, E332⟩)
       ·skip
        replace H := H.then E332
        refine wr_run 5 [(57, (.tup [(.int (i329)), (.int (e330))])), (62, (.int (i329))), (63, (.int (e330))), (3, (.int (i329))), (4, (.int (e330)))] (by kernel_rfl) ?_
        refine wr_done ?_
        refine wl_assoc ?_
        refine wl_block fun Q333 hN333 hE333 hX333 => ?_
        refine wl_tail ?_
        refine wl_assoc ?_
        refine wl_ops ?_
        refine wr_run 3 [(65, (.int (e330))), (66, (.bool ((e330 : Int) != (0 : Int)))), (64, (.bool ((e330 : Int) != (0 : Int))))] (by kernel_rfl) ?_
        refine wr_done ?_
        refine wl_cond ((e330 : Int) != (0 : Int)) (by kernel_rfl) (fun c334 => ?_) (fun c334 => ?_)
        ·skip
         have c334' : ¬ ((e330 : Int) = 0) := by simpa using c334
         refine wl_assoc ?_
         refine wl_ops ?_
         refine wr_run 5 [(67, (.int (i329))), (68, (.int (e330))), (2, (.int (3))), (3, (.int (i329))), (4, (.int (e330)))] (by kernel_rfl) ?_
         refine wr_done ?_
         refine wl_ret ?_
         refine hX333 _ _ _ (by decide) (by decide) ?_
         refine post_i (Or.inr rfl) (.tup [(.int (3)), (.int (i329)), (.int (e330))]) (by kernel_rfl) ?_
         exact (Or.inl ⟨3, i329, e330, rfl, by omega, H.ext rfl⟩)
        ·skip
         have c334' : (e330 : Int) = 0 := by simpa using c334
         exfalso; omega
       ·skip
        replace H := H.then E332
        refine wr_run 5 [(57, (.tup [(.int (0)), (.int (0))])), (62, (.int (0))), (63, (.int (0))), (3, (.int (0))), (4, (.int (0)))] (by kernel_rfl) ?_
        refine wr_done ?_
        refine wl_assoc ?_
        refine wl_block fun Q335 hN335 hE335 hX335 => ?_
        refine wl_tail ?_
        refine wl_assoc ?_
        refine wl_ops ?_
        refine wr_run 3 [(65, (.int (0))), (66, (.bool (false))), (64, (.bool (false)))] (by kernel_rfl) ?_
        refine wr_done ?_
        refine wl_cond false (by kernel_rfl) (fun c336 => by cases c336) (fun c336 => ?_)
        clear c336
        refine wl_assoc ?_
        refine wl_ops ?_
        refine wr_run 1 [(70, (.ptr a274 5))] (by kernel_rfl) ?_
        refine wr_load H 3 a274 5 _ true rfl (by kernel_rfl) (lst .any encRule C.Rules) (by kernel_rfl) (by kernel_rfl) ?_
        refine wr_run 3 [(72, (.int ((C.Rules.length : Int)))), (73, (.bool (decide (((C.Rules.length : Int) : Int) > (4 : Int))))), (69, (.bool (decide (((C.Rules.length : Int) : Int) > (4 : Int)))))] (by kernel_rfl) ?_
        refine wr_done ?_
        refine wl_cond (decide (((C.Rules.length : Int) : Int) > (4 : Int))) (by kernel_rfl) (fun c337 => ?_) (fun c337 => ?_)
        ·skip
         have c337' : ((C.Rules.length : Int) : Int) > 4 := of_decide_eq_true c337
         refine wl_assoc ?_
         refine wl_ops ?_
         refine wr_run 3 [(2, (.int (4))), (3, (.int (0))), (4, (.int (3)))] (by kernel_rfl) ?_
         refine wr_done ?_
         refine wl_ret ?_
         refine hX335 _ _ _ (by decide) (by decide) ?_
         refine post_i (Or.inr rfl) (.tup [(.int (4)), (.int (0)), (.int (3))]) (by kernel_rfl) ?_
         exact (Or.inl ⟨4, 0, 3, rfl, by omega, H.ext rfl⟩)
        ·skip
         have c337' : ¬ (((C.Rules.length : Int) : Int) > 4) := of_decide_eq_false c337
         refine wl_skip_seq ?_
         refine wl_skip ?_
         refine hN335 _ _ ?_
         refine wl_assoc ?_
         refine wl_ops ?_
         refine wr_run 1 [(75, (.ptr a274 5))] (by kernel_rfl) ?_
         refine wr_load H 3 a274 5 _ true rfl (by kernel_rfl) (lst .any encRule C.Rules) (by kernel_rfl) (by kernel_rfl) ?_
         refine wr_run 1 [(77, (.fn 45 [] [(.ptr a317 0), (.ptr a274 0)]))] (by kernel_rfl) ?_
         refine wr_call [(lst .any encRule C.Rules), (.fn 45 [] [(.ptr a317 0), (.ptr a274 0)])] (by kernel_rfl) (by kernel_rfl) (WF.mono (failR_ok .any C.Rules (.fn 45 [] [(.ptr a317 0), (.ptr a274 0)]) (fun (i : Nat) (x : ChRule) => 0 ≤ x.Then ∧ x.Then ≤ C.Facts - 1) _ (by omega) (fun i x hx s' E => check3_ok C a317 a274 n321 ((i : Int)) x s' (E.here (H.fact 1 rfl)) (E.here (H.fact 3 rfl)) (H.pick [1, 3] (by decide) rfl) (by have := (List.getElem?_eq_some_iff.1 hx).1; omega) (by have := (List.getElem?_eq_some_iff.1 hx).1; omega) (by have := (List.getElem?_eq_some_iff.1 hx).1; omega) (by have := (List.getElem?_eq_some_iff.1 hx).1; omega))) ?_)
         rintro r339 st340 (⟨i341, e342, hnee342, rfl, E344⟩ | ⟨rfl, ho343, E344⟩)
         ·skip
          replace H := H.then E344
          refine wr_run 5 [(74, (.tup [(.int (i341)), (.int (e342))])), (79, (.int (i341))), (80, (.int (e342))), (3, (.int (i341))), (4, (.int (e342)))] (by kernel_rfl) ?_
          refine wr_done ?_
          refine wl_assoc ?_
          refine wl_assoc ?_
          refine wl_ops ?_
          refine wr_run 2 [(81, (.int (e342))), (82, (.bool ((e342 : Int) != (0 : Int))))] (by kernel_rfl) ?_
          refine wr_done ?_
          refine wl_cond ((e342 : Int) != (0 : Int)) (by kernel_rfl) (fun c345 => ?_) (fun c345 => ?_)
          ·skip
           have c345' : ¬ ((e342 : Int) = 0) := by simpa using c345
           refine wl_assoc ?_
           refine wl_ops ?_
           refine wr_run 5 [(83, (.int (i341))), (84, (.int (e342))), (2, (.int (4))), (3, (.int (i341))), (4, (.int (e342)))] (by kernel_rfl) ?_
           refine wr_done ?_
           refine wl_ret ?_
           refine post_i (Or.inr rfl) (.tup [(.int (4)), (.int (i341)), (.int (e342))]) (by kernel_rfl) ?_
           exact (Or.inl ⟨4, i341, e342, rfl, by omega, H.ext rfl⟩)
          ·skip
           have c345' : (e342 : Int) = 0 := by simpa using c345
           exfalso; omega
         ·skip
          replace H := H.then E344
          have hp346 : ∀ x ∈ C.Rules, 0 ≤ x.Then ∧ x.Then ≤ C.Facts - 1 := fun x hx => by obtain ⟨i, hi⟩ := List.getElem?_of_mem hx; exact ho343 i x hi
          refine wr_run 5 [(74, (.tup [(.int (0)), (.int (0))])), (79, (.int (0))), (80, (.int (0))), (3, (.int (0))), (4, (.int (0)))] (by kernel_rfl) ?_
          refine wr_done ?_
          refine wl_assoc ?_
          refine wl_assoc ?_
          refine wl_ops ?_
          refine wr_run 2 [(81, (.int (0))), (82, (.bool (false)))] (by kernel_rfl) ?_
          refine wr_done ?_
          refine wl_cond false (by kernel_rfl) (fun c347 => by cases c347) (fun c347 => ?_)
          clear c347
          refine wl_skip_seq ?_
          refine wl_assoc ?_
          refine wl_ops ?_
          refine wr_run 3 [(2, (.int (0))), (3, (.int (0))), (4, (.int (0)))] (by kernel_rfl) ?_
          refine wr_done ?_
          refine wl_ret ?_
          refine post_i (Or.inr rfl) (.tup [(.int (0)), (.int (0)), (.int (0))]) (by kernel_rfl) ?_
          exact (Or.inr ⟨rfl, by first | omega | (simp; omega) | simp, by first | omega | (simp; omega) | simp, by first | omega | (simp; omega) | simp, by first | omega | (simp; omega) | simp, by first | omega | (simp; omega) | simp, by first | omega | (simp; omega) | simp, hp346, H.ext rfl⟩)

set_option maxHeartbeats 4000000 in
theorem list_ok (set : Int) (st : St) (hs : -9223372036854775808 ≤ set ∧ set ≤ 9223372036854775807) : WF Try.prog 51 [(.int (set))] st fun r st' => ∃ (own348 : EF.Own) (l349 : List Int), r = (lst own348 encI l349) ∧ (∀ x ∈ l349, 0 ≤ x ∧ x < 64) ∧ ((l349.length : Int) ≤ 64) ∧ (Grown st st' (own348, 1) ∧ (own348 = .exact → l349 = [])) ∧ Ext st st' := by
 refine wf_L c51 rfl ?_
 have H := SP.start st
 refine wl_tail ?_
 refine wl_assoc ?_
 refine wl_ops ?_
 refine wr_run 1 [(2, (.list .exact [] 0))] (by kernel_rfl) ?_
 refine wr_done ?_
 refine wl_assoc ?_
 refine wl_assoc ?_
 refine wl_ops ?_
 refine wr_run 1 [(3, (.int (0)))] (by kernel_rfl) ?_
 refine wr_done ?_
 replace H := H.grow 1
 refine wl_loop (σ := Nat) (fun (zz : Nat) (lf : List AV) (st' : St) => ∃ (xs350 : Nat → AV) (own373 : EF.Own) (l374 : List Int) (v375 : Int), lf = [(.int (set)), .junk, (lst own373 encI l374), (.int (v375)), (xs350 4), (xs350 5), (xs350 6), (xs350 7), (xs350 8), (xs350 9), (xs350 10), (xs350 11), (xs350 12), (xs350 13), (xs350 14), (xs350 15), (xs350 16), (xs350 17), (xs350 18), .junk] ∧ SP st [] [(own373, 1)] st' ∧ (0 ≤ v375) ∧ (0 ≤ v375) ∧ (-1 ≤ v375) ∧ (-9223372036854775808 ≤ v375 ∧ v375 ≤ 9223372036854775807) ∧ (v375 ≤ 64) ∧ ((l374.length : Int) ≤ v375) ∧ (∀ x ∈ l374, 0 ≤ x ∧ x < 64) ∧ (∀ x ∈ l374, 0 ≤ x) ∧ (own373 = .exact → l374 = []) ∧ zz = (-v375 + 9223372036854775808).toNat) (fun z => z) _ ⟨(LX [(4, .junk), (5, .junk), (6, .junk), (7, .junk), (8, .junk), (9, .junk), (10, .junk), (11, .junk), (12, .junk), (13, .junk), (14, .junk), (15, .junk), (16, .junk), (17, .junk), (18, .junk)]), .exact, ([] : List Int), 0, by kernel_rfl, H, by first | omega | (simp; omega) | simp, by first | omega | (simp; omega) | simp, by first | omega | (simp; omega) | simp, by first | omega | (simp; omega) | simp, by first | omega | (simp; omega) | simp, by first | omega | (simp; omega) | simp, (by simp), (by simp), (fun _ => rfl), rfl⟩ ?_
 clear H
 intro zz350 lf st350 hI350 Q350 hN350 hE350 hX350
 obtain ⟨xs350, own373, l374, v375, rfl, H, hi350_0, hi350_1, hi350_2, hi350_3, hi350_5, hi350_6, hp350_7, hp350_8, hx_l374, hz350⟩ := hI350
 refine wl_tail ?_
 refine wl_assoc ?_
 refine wl_assoc ?_
 refine wl_ops ?_
 refine wr_run 2 [(4, (.int (set))), (5, (.int (v375)))] (by kernel_rfl) ?_
 refine wr_pureX (fun y => .int y) _ (ev_int (.int (set)) (.int (v375)) (by kernel_rfl) (by kernel_rfl) (bx_shr _ _ (by omega))) (by kernel_rfl) (by kernel_rfl) fun n421 hn421 => ?_
 replace hn421 := hn421 (by unfold I64; omega)
 unfold I64 at hn421
 refine wr_run 1 [(7, (.bool (decide ((n421 : Int) > (0 : Int)))))] (by kernel_rfl) ?_
 refine wr_done ?_
 refine wl_cond (decide ((n421 : Int) > (0 : Int))) (by kernel_rfl) (fun c422 => ?_) (fun c422 => ?_)
 ·skip
  have c422' : (n421 : Int) > 0 := of_decide_eq_true c422
  have hs423 := hn421.2.1 (by omega)
  refine wl_skip_seq ?_
  refine wl_assoc ?_
  refine wl_block fun Q424 hN424 hE424 hX424 => ?_
  refine wl_tail ?_
  refine wl_assoc ?_
  refine wl_ops ?_
  refine wr_run 2 [(10, (.int (set))), (11, (.int (v375)))] (by kernel_rfl) ?_
  refine wr_pureX (fun y => .int y) _ (ev_int (.int (set)) (.int (v375)) (by kernel_rfl) (by kernel_rfl) (bx_shr _ _ (by omega))) (by kernel_rfl) (by kernel_rfl) fun n425 hn425 => ?_
  replace hn425 := hn425 (by unfold I64; omega)
  unfold I64 at hn425
  refine wr_pureX (fun y => .int y) _ (ev_int (.int (n425)) (.int (1)) (by kernel_rfl) (by kernel_rfl) (bx_and _ _)) (by kernel_rfl) (by kernel_rfl) fun n426 hn426 => ?_
  unfold I64 at hn426
  refine wr_run 1 [(14, (.bool ((n426 : Int) == (1 : Int))))] (by kernel_rfl) ?_
  refine wr_done ?_
  refine wl_cond ((n426 : Int) == (1 : Int)) (by kernel_rfl) (fun c427 => ?_) (fun c427 => ?_)
  ·skip
   have c427' : (n426 : Int) = 1 := by simpa using c427
   refine wl_ops ?_
   refine wr_run 3 [(15, (lst own373 encI l374)), (16, (.int (v375))), (17, (lst .exact encI [v375]))] (by kernel_rfl) ?_
   refine wr_appendX encI_len encI_one H rfl 0 own373 rfl l374 [v375] (by kernel_rfl) .exact (by kernel_rfl) hx_l374 (by first | omega | (simp; done) | (simp; omega)) rfl (by kernel_rfl) fun own428 l430 st429 hl430 el430 hx_l430 H => ?_
   simp only [List.length_cons, List.length_nil] at hl430
   refine wr_run 1 [(2, (lst own428 encI l430))] (by kernel_rfl) ?_
   refine wr_done ?_
   refine wl_skip ?_
   refine hN424 _ _ ?_
   refine wl_ops ?_
   refine wr_run 1 [(8, (.int (v375)))] (by kernel_rfl) ?_
   refine wr_bin (.int (v375)) (.int (1)) (.int (v375 + 1)) (by kernel_rfl) (by kernel_rfl) (add64e _ (by unfold I64; omega)) (by kernel_rfl) ?_
   refine wr_run 1 [(3, (.int (v375 + 1)))] (by kernel_rfl) ?_
   refine wr_done ?_
   refine wl_skip ?_
   refine hN350 _ _ _ ⟨(LX [(4, (.int (set))), (5, (.int (v375))), (6, (.int (n421))), (7, (.bool (decide ((n421 : Int) > (0 : Int))))), (8, (.int (v375))), (9, (.int (v375 + 1))), (10, (.int (set))), (11, (.int (v375))), (12, (.int (n425))), (13, (.int (n426))), (14, (.bool ((n426 : Int) == (1 : Int)))), (15, (lst own373 encI l374)), (16, (.int (v375))), (17, (lst .exact encI [v375])), (18, (lst own428 encI l430))]), own428, l430, v375 + 1, by kernel_rfl, H, by first | omega | (simp; omega) | simp, by first | omega | (simp; omega) | simp, by first | omega | (simp; omega) | simp, by first | omega | (simp; omega) | simp, by first | omega | (simp; omega) | simp, by first | omega | (simp; omega) | simp, (app_all el430 hp350_7 (List.forall_mem_cons.2 ⟨by omega, (by simp)⟩)), (app_all el430 hp350_8 (List.forall_mem_cons.2 ⟨by omega, (by simp)⟩)), hx_l430, rfl⟩ (by first | omega | (simp only; omega))
  ·skip
   have c427' : ¬ ((n426 : Int) = 1) := by simpa using c427
   refine wl_skip_seq ?_
   refine wl_skip ?_
   refine hN424 _ _ ?_
   refine wl_ops ?_
   refine wr_run 1 [(8, (.int (v375)))] (by kernel_rfl) ?_
   refine wr_bin (.int (v375)) (.int (1)) (.int (v375 + 1)) (by kernel_rfl) (by kernel_rfl) (add64e _ (by unfold I64; omega)) (by kernel_rfl) ?_
   refine wr_run 1 [(3, (.int (v375 + 1)))] (by kernel_rfl) ?_
   refine wr_done ?_
   refine wl_skip ?_
   refine hN350 _ _ _ ⟨(LX [(4, (.int (set))), (5, (.int (v375))), (6, (.int (n421))), (7, (.bool (decide ((n421 : Int) > (0 : Int))))), (8, (.int (v375))), (9, (.int (v375 + 1))), (10, (.int (set))), (11, (.int (v375))), (12, (.int (n425))), (13, (.int (n426))), (14, (.bool ((n426 : Int) == (1 : Int)))), (15, (xs350 15)), (16, (xs350 16)), (17, (xs350 17)), (18, (xs350 18))]), own373, l374, v375 + 1, by kernel_rfl, H, by first | omega | (simp; omega) | simp, by first | omega | (simp; omega) | simp, by first | omega | (simp; omega) | simp, by first | omega | (simp; omega) | simp, by first | omega | (simp; omega) | simp, by first | omega | (simp; omega) | simp, hp350_7, hp350_8, hx_l374, rfl⟩ (by first | omega | (simp only; omega))
 ·skip
  have c422' : ¬ ((n421 : Int) > 0) := of_decide_eq_false c422
  refine wl_exit ?_
  refine hE350 _ _ ?_
  refine wl_assoc ?_
  refine wl_ops ?_
  refine wr_run 2 [(19, (lst own373 encI l374)), (2, (lst own373 encI l374))] (by kernel_rfl) ?_
  refine wr_done ?_
  refine wl_ret ?_
  refine post_i (Or.inr rfl) (lst own373 encI l374) (by kernel_rfl) ?_
  exact ⟨own373, l374, rfl, hp350_7, by first | omega | (simp; omega) | simp, ⟨H.tok 0 rfl, hx_l374⟩, H.ext rfl⟩

set_option maxHeartbeats 4000000 in
theorem bits_ok (own : EF.Own) (l : List Int) (b : Int) (st : St) (hl : (l.length : Int) ≤ 1048576) (hb : 0 ≤ b ∧ b ≤ 64) : WF Try.prog 50 [(lst own encI l), (.int (b))] st fun r st' => (∃ (n431 : Int) (e432 : Int), r = (.tup [(.int (n431)), (.int (e432))]) ∧ (¬ (e432 = 0)) ∧ Ext st st') ∨ (∃ (n433 : Int), r = (.tup [(.int (n433)), (.int (0))]) ∧ (-9223372036854775808 ≤ n433 ∧ n433 ≤ 9223372036854775807) ∧ ((l.length : Int) ≤ b) ∧ (∀ x ∈ l, 0 ≤ x ∧ x ≤ b - 1) ∧ Ext st st') := by
 refine wf_L c50 rfl ?_
 have H := SP.start st
 refine wl_tail ?_
 refine wl_assoc ?_
 refine wl_ops ?_
 refine wr_run 2 [(4, (.int (0))), (5, (.int (0)))] (by kernel_rfl) ?_
 refine wr_done ?_
 refine wl_assoc ?_
 refine wl_assoc ?_
 refine wl_ops ?_
 refine wr_run 1 [(8, (.int (b)))] (by kernel_rfl) ?_
 refine wr_bin (.int (b)) (.int (1)) (.int (b - 1)) (by kernel_rfl) (by kernel_rfl) (sub64e _ (by unfold I64; omega)) (by kernel_rfl) ?_
 refine wr_run 1 [(10, (lst own encI l))] (by kernel_rfl) ?_
 refine wr_call [(.int (0)), (.int (b - 1)), (lst own encI l)] (by kernel_rfl) (by kernel_rfl) (WF.mono (off_ok 0 (b - 1) own l _ (by omega)) ?_)
 rintro r434 st435 ⟨b436, rfl, hf439, E437⟩
 replace H := H.then E437
 refine wr_done ?_
 refine wl_cond (b436) (by kernel_rfl) (fun c440 => ?_) (fun c440 => ?_)
 ·skip
  refine wl_assoc ?_
  refine wl_ops ?_
  refine wr_run 2 [(4, (.int (0))), (5, (.int (4)))] (by kernel_rfl) ?_
  refine wr_done ?_
  refine wl_ret ?_
  refine post_i (Or.inr rfl) (.tup [(.int (0)), (.int (4))]) (by kernel_rfl) ?_
  exact (Or.inl ⟨0, 4, rfl, by omega, H.ext rfl⟩)
 ·skip
  have hp441 := (hf439 c440)
  refine wl_skip_seq ?_
  refine wl_assoc ?_
  refine wl_assoc ?_
  refine wl_ops ?_
  refine wr_run 3 [(12, (lst own encI l)), (13, (.int ((l.length : Int)))), (14, (.int (0)))] (by kernel_rfl) ?_
  refine wr_done ?_
  refine wl_loop (σ := Nat) (fun (zz : Nat) (lf : List AV) (st' : St) => ∃ (xs442 : Nat → AV) (v450 : Int) (v453 : Int), lf = [(lst own encI l), (.int (b)), .junk, .junk, (.int (v450)), (.int (0)), (xs442 6), (xs442 7), (.int (b)), (.int (b - 1)), (lst own encI l), (.bool (b436)), (lst own encI l), (.int ((l.length : Int))), (.int (v453)), (xs442 15), (xs442 16), (xs442 17), (xs442 18), (xs442 19), (xs442 20), (xs442 21), (xs442 22), (xs442 23), (xs442 24), (xs442 25), (xs442 26), (xs442 27), (xs442 28), (xs442 29), (xs442 30), (xs442 31), (xs442 32), (xs442 33), (xs442 34), .junk] ∧ SP st [] [] st' ∧ (-9223372036854775808 ≤ v450 ∧ v450 ≤ 9223372036854775807) ∧ (0 ≤ v453) ∧ (0 ≤ v453) ∧ (-1 ≤ v453) ∧ (-9223372036854775808 ≤ v453 ∧ v453 ≤ 9223372036854775807) ∧ (v453 ≤ (l.length : Int)) ∧ (v453 ≤ 1048576) ∧ (0 < v453 → ∀ y, l[(v453 - 1).toNat]? = some y → v453 - 1 ≤ y) ∧ zz = (-v453 + 9223372036854775808).toNat) (fun z => z) _ ⟨(LX [(6, .junk), (7, .junk), (15, .junk), (16, .junk), (17, .junk), (18, .junk), (19, .junk), (20, .junk), (21, .junk), (22, .junk), (23, .junk), (24, .junk), (25, .junk), (26, .junk), (27, .junk), (28, .junk), (29, .junk), (30, .junk), (31, .junk), (32, .junk), (33, .junk), (34, .junk)]), 0, 0, by kernel_rfl, H, by first | omega | (simp; omega) | simp, by first | omega | (simp; omega) | simp, by first | omega | (simp; omega) | simp, by first | omega | (simp; omega) | simp, by first | omega | (simp; omega) | simp, by first | omega | (simp; omega) | simp, by first | omega | (simp; omega) | simp, fun h => absurd h (by decide), rfl⟩ ?_
  clear H
  intro zz442 lf st442 hI442 Q442 hN442 hE442 hX442
  obtain ⟨xs442, v450, v453, rfl, H, hi442_3, hi442_4, hi442_5, hi442_6, hi442_7, hi442_9, hi442_12, hs442_0, hz442⟩ := hI442
  refine wl_tail ?_
  refine wl_assoc ?_
  refine wl_ops ?_
  refine wr_run 1 [(15, (.bool (decide ((v453 : Int) < ((l.length : Int) : Int)))))] (by kernel_rfl) ?_
  refine wr_done ?_
  refine wl_assoc ?_
  refine wl_cond (decide ((v453 : Int) < ((l.length : Int) : Int))) (by kernel_rfl) (fun c521 => ?_) (fun c521 => ?_)
  ·skip
   have c521' : (v453 : Int) < (l.length : Int) := of_decide_eq_true c521
   refine wl_skip_seq ?_
   refine wl_assoc ?_
   refine wl_block fun Q522 hN522 hE522 hX522 => ?_
   refine wl_tail ?_
   refine wl_assoc ?_
   refine wl_ops ?_
   refine wr_run 1 [(16, (.int (v453)))] (by kernel_rfl) ?_
   refine wr_iaddre encI_len own l (by kernel_rfl) (v453) (by kernel_rfl) (by omega) (by kernel_rfl) fun y523 hy523 => ?_
   have hq524 : 0 ≤ y523 ∧ y523 ≤ (b - 1) := hp441 y523 (some_get hy523)
   refine wr_loade encI_len l ((v453 : Int).toNat) 0 y523 hy523 (by kernel_rfl) (.int (y523)) (by kernel_rfl) (by decide) (by decide) (by kernel_rfl) ?_
   refine wr_run 2 [(6, (.int (v453))), (7, (.int (y523)))] (by kernel_rfl) ?_
   refine wr_done ?_
   refine wl_assoc ?_
   refine wl_assoc ?_
   refine wl_ops ?_
   refine wr_run 3 [(19, (.int (v453))), (20, (.bool (decide ((v453 : Int) > (0 : Int))))), (21, (.bool (decide ((v453 : Int) > (0 : Int)))))] (by kernel_rfl) ?_
   refine wr_case 21 (decide ((v453 : Int) > (0 : Int))) (by kernel_rfl) (fun c525 => ?_) (fun c525 => ?_) (by kernel_rfl)
   ·skip
    have c525' : (v453 : Int) > 0 := of_decide_eq_true c525
    refine wr_run 3 [(22, (.int (y523))), (23, (lst own encI l)), (24, (.int (v453)))] (by kernel_rfl) ?_
    refine wr_guard (by kernel_rfl) ?_
    refine wr_bin (.int (v453)) (.int (1)) (.int (v453 - 1)) (by kernel_rfl) (by kernel_rfl) (sub64e _ (by unfold I64; omega)) (by kernel_rfl) ?_
    refine wr_guard (by kernel_rfl) ?_
    refine wr_iaddre encI_len own l (by kernel_rfl) (v453 - 1) (by kernel_rfl) (by omega) (by kernel_rfl) fun y526 hy526 => ?_
    have hq527 : 0 ≤ y526 ∧ y526 ≤ (b - 1) := hp441 y526 (some_get hy526)
    refine wr_guard (by kernel_rfl) ?_
    refine wr_loade encI_len l ((v453 - 1 : Int).toNat) 0 y526 hy526 (by kernel_rfl) (.int (y526)) (by kernel_rfl) (by decide) (by decide) (by kernel_rfl) ?_
    refine wr_run 2 [(28, (.bool (decide ((y523 : Int) ≤ (y526 : Int))))), (29, (.bool (decide ((y523 : Int) ≤ (y526 : Int)))))] (by kernel_rfl) ?_
    refine wr_done ?_
    refine wl_cond (decide ((y523 : Int) ≤ (y526 : Int))) (by kernel_rfl) (fun c528 => ?_) (fun c528 => ?_)
    ·skip
     have c528' : (y523 : Int) ≤ y526 := of_decide_eq_true c528
     refine wl_assoc ?_
     refine wl_ops ?_
     refine wr_run 2 [(4, (.int (0))), (5, (.int (2)))] (by kernel_rfl) ?_
     refine wr_done ?_
     refine wl_ret ?_
     refine hX522 _ _ _ (by decide) (by decide) ?_
     refine hX442 _ _ _ (by decide) (by decide) ?_
     refine post_i (Or.inr rfl) (.tup [(.int (0)), (.int (2))]) (by kernel_rfl) ?_
     exact (Or.inl ⟨0, 2, rfl, by omega, H.ext rfl⟩)
    ·skip
     have c528' : ¬ ((y523 : Int) ≤ y526) := of_decide_eq_false c528
     refine wl_skip_seq ?_
     refine wl_ops ?_
     refine wr_run 2 [(30, (.int (v450))), (31, (.int (y523)))] (by kernel_rfl) ?_
     refine wr_pureX (fun y => .int y) _ (ev_int (.int (1)) (.int (y523)) (by kernel_rfl) (by kernel_rfl) (bx_shl _ _ (by omega))) (by kernel_rfl) (by kernel_rfl) fun n529 hn529 => ?_
     unfold I64 at hn529
     refine wr_pureX (fun y => .int y) _ (ev_int (.int (v450)) (.int (n529)) (by kernel_rfl) (by kernel_rfl) (bx_or _ _)) (by kernel_rfl) (by kernel_rfl) fun n530 hn530 => ?_
     unfold I64 at hn530
     refine wr_run 1 [(4, (.int (n530)))] (by kernel_rfl) ?_
     refine wr_done ?_
     refine wl_skip ?_
     refine hN522 _ _ ?_
     refine wl_ops ?_
     refine wr_bin (.int (v453)) (.int (1)) (.int (v453 + 1)) (by kernel_rfl) (by kernel_rfl) (add64e _ (by unfold I64; omega)) (by kernel_rfl) ?_
     refine wr_run 1 [(14, (.int (v453 + 1)))] (by kernel_rfl) ?_
     refine wr_done ?_
     refine wl_skip ?_
     refine hN442 _ _ _ ⟨(LX [(6, (.int (v453))), (7, (.int (y523))), (15, (.bool (decide ((v453 : Int) < ((l.length : Int) : Int))))), (16, (.int (v453))), (17, (.lptr (l.flatMap encI) ((v453 : Int).toNat * 1))), (18, (.int (y523))), (19, (.int (v453))), (20, (.bool (decide ((v453 : Int) > (0 : Int))))), (21, (.bool (true))), (22, (.int (y523))), (23, (lst own encI l)), (24, (.int (v453))), (25, (.int (v453 - 1))), (26, (.lptr (l.flatMap encI) ((v453 - 1 : Int).toNat * 1))), (27, (.int (y526))), (28, (.bool (decide ((y523 : Int) ≤ (y526 : Int))))), (29, (.bool (decide ((y523 : Int) ≤ (y526 : Int))))), (30, (.int (v450))), (31, (.int (y523))), (32, (.int (n529))), (33, (.int (n530))), (34, (.int (v453 + 1)))]), n530, v453 + 1, by kernel_rfl, H, by first | omega | (simp; omega) | simp, by first | omega | (simp; omega) | simp, by first | omega | (simp; omega) | simp, by first | omega | (simp; omega) | simp, by first | omega | (simp; omega) | simp, by first | omega | (simp; omega) | simp, by first | omega | (simp; omega) | simp, fun _ y hy => by
        rw [show (v453 + 1 - 1).toNat = (v453 : Int).toNat from by omega, hy523] at hy
        cases hy
        have := hs442_0 (by omega) _ hy526; omega, rfl⟩ (by first | omega | (simp only; omega))
   ·skip
    have c525' : ¬ ((v453 : Int) > 0) := of_decide_eq_false c525
    refine wr_run 8 [(22, (.tup [])), (23, (.tup [])), (24, (.tup [])), (25, (.tup [])), (26, (.tup [])), (27, (.tup [])), (28, (.tup [])), (29, (.bool (false)))] (by kernel_rfl) ?_
    refine wr_done ?_
    refine wl_cond false (by kernel_rfl) (fun c531 => by cases c531) (fun c531 => ?_)
    clear c531
    refine wl_skip_seq ?_
    refine wl_ops ?_
    refine wr_run 2 [(30, (.int (v450))), (31, (.int (y523)))] (by kernel_rfl) ?_
    refine wr_pureX (fun y => .int y) _ (ev_int (.int (1)) (.int (y523)) (by kernel_rfl) (by kernel_rfl) (bx_shl _ _ (by omega))) (by kernel_rfl) (by kernel_rfl) fun n532 hn532 => ?_
    unfold I64 at hn532
    refine wr_pureX (fun y => .int y) _ (ev_int (.int (v450)) (.int (n532)) (by kernel_rfl) (by kernel_rfl) (bx_or _ _)) (by kernel_rfl) (by kernel_rfl) fun n533 hn533 => ?_
    unfold I64 at hn533
    refine wr_run 1 [(4, (.int (n533)))] (by kernel_rfl) ?_
    refine wr_done ?_
    refine wl_skip ?_
    refine hN522 _ _ ?_
    refine wl_ops ?_
    refine wr_bin (.int (v453)) (.int (1)) (.int (v453 + 1)) (by kernel_rfl) (by kernel_rfl) (add64e _ (by unfold I64; omega)) (by kernel_rfl) ?_
    refine wr_run 1 [(14, (.int (v453 + 1)))] (by kernel_rfl) ?_
    refine wr_done ?_
    refine wl_skip ?_
    refine hN442 _ _ _ ⟨(LX [(6, (.int (v453))), (7, (.int (y523))), (15, (.bool (decide ((v453 : Int) < ((l.length : Int) : Int))))), (16, (.int (v453))), (17, (.lptr (l.flatMap encI) ((v453 : Int).toNat * 1))), (18, (.int (y523))), (19, (.int (v453))), (20, (.bool (decide ((v453 : Int) > (0 : Int))))), (21, (.bool (false))), (22, (.tup [])), (23, (.tup [])), (24, (.tup [])), (25, (.tup [])), (26, (.tup [])), (27, (.tup [])), (28, (.tup [])), (29, (.bool (false))), (30, (.int (v450))), (31, (.int (y523))), (32, (.int (n532))), (33, (.int (n533))), (34, (.int (v453 + 1)))]), n533, v453 + 1, by kernel_rfl, H, by first | omega | (simp; omega) | simp, by first | omega | (simp; omega) | simp, by first | omega | (simp; omega) | simp, by first | omega | (simp; omega) | simp, by first | omega | (simp; omega) | simp, by first | omega | (simp; omega) | simp, by first | omega | (simp; omega) | simp, fun _ y hy => by
       rw [show (v453 + 1 - 1).toNat = (v453 : Int).toNat from by omega, hy523] at hy
       cases hy
       omega, rfl⟩ (by first | omega | (simp only; omega))
  ·skip
   have c521' : ¬ ((v453 : Int) < (l.length : Int)) := of_decide_eq_false c521
   refine wl_exit ?_
   refine hE442 _ _ ?_
   refine wl_assoc ?_
   refine wl_ops ?_
   refine wr_run 3 [(35, (.int (v450))), (4, (.int (v450))), (5, (.int (0)))] (by kernel_rfl) ?_
   refine wr_done ?_
   refine wl_ret ?_
   refine post_i (Or.inr rfl) (.tup [(.int (v450)), (.int (0))]) (by kernel_rfl) ?_
   exact (Or.inr ⟨v450, rfl, by first | omega | (simp; omega) | simp, by
      rcases Int.lt_or_le 0 v453 with h | h
      ·have hlt : (v453 - 1).toNat < l.length := by omega
       have h1 := hs442_0 h _ (List.getElem?_eq_getElem hlt)
       have h2 := hp441 _ (List.getElem_mem hlt)
       omega
      ·omega, hp441, H.ext rfl⟩)

set_option maxHeartbeats 4000000 in
theorem upTo_ok (b : Int) (st : St) (hb : b ≤ 64) : WF Try.prog 56 [(.int (b))] st fun r st' => ∃ (own534 : EF.Own) (l535 : List Int), r = (lst own534 encI l535) ∧ (∀ x ∈ l535, 0 ≤ x ∧ x ≤ b - 1) ∧ ((l535.length : Int) ≤ 64) ∧ (Grown st st' (own534, 1) ∧ (own534 = .exact → l535 = [])) ∧ Ext st st' := by
 refine wf_L c56 rfl ?_
 have H := SP.start st
 refine wl_tail ?_
 refine wl_assoc ?_
 refine wl_ops ?_
 refine wr_run 1 [(2, (.list .exact [] 0))] (by kernel_rfl) ?_
 refine wr_done ?_
 refine wl_assoc ?_
 refine wl_assoc ?_
 refine wl_ops ?_
 refine wr_run 2 [(4, (.int (b))), (5, (.int (0)))] (by kernel_rfl) ?_
 refine wr_done ?_
 replace H := H.grow 1
 refine wl_loop (σ := Nat) (fun (zz : Nat) (lf : List AV) (st' : St) => ∃ (xs536 : Nat → AV) (own549 : EF.Own) (l550 : List Int) (v552 : Int), lf = [(.int (b)), .junk, (lst own549 encI l550), (xs536 3), (.int (b)), (.int (v552)), (xs536 6), (xs536 7), (xs536 8), (xs536 9), (xs536 10), (xs536 11), (xs536 12), .junk] ∧ SP st [] [(own549, 1)] st' ∧ (0 ≤ v552) ∧ (0 ≤ v552) ∧ (-1 ≤ v552) ∧ (-9223372036854775808 ≤ v552 ∧ v552 ≤ 9223372036854775807) ∧ (v552 ≤ 64) ∧ ((l550.length : Int) ≤ v552) ∧ (∀ x ∈ l550, 0 ≤ x ∧ x ≤ b - 1) ∧ (∀ x ∈ l550, 0 ≤ x) ∧ (own549 = .exact → l550 = []) ∧ zz = (-v552 + 9223372036854775808).toNat) (fun z => z) _ ⟨(LX [(3, .junk), (6, .junk), (7, .junk), (8, .junk), (9, .junk), (10, .junk), (11, .junk), (12, .junk)]), .exact, ([] : List Int), 0, by kernel_rfl, H, by first | omega | (simp; omega) | simp, by first | omega | (simp; omega) | simp, by first | omega | (simp; omega) | simp, by first | omega | (simp; omega) | simp, by first | omega | (simp; omega) | simp, by first | omega | (simp; omega) | simp, (by simp), (by simp), (fun _ => rfl), rfl⟩ ?_
 clear H
 intro zz536 lf st536 hI536 Q536 hN536 hE536 hX536
 obtain ⟨xs536, own549, l550, v552, rfl, H, hi536_0, hi536_1, hi536_2, hi536_3, hi536_6, hi536_7, hp536_8, hp536_9, hx_l550, hz536⟩ := hI536
 refine wl_tail ?_
 refine wl_assoc ?_
 refine wl_ops ?_
 refine wr_run 1 [(6, (.bool (decide ((v552 : Int) < (b : Int)))))] (by kernel_rfl) ?_
 refine wr_done ?_
 refine wl_assoc ?_
 refine wl_cond (decide ((v552 : Int) < (b : Int))) (by kernel_rfl) (fun c570 => ?_) (fun c570 => ?_)
 ·skip
  have c570' : (v552 : Int) < b := of_decide_eq_true c570
  refine wl_skip_seq ?_
  refine wl_assoc ?_
  refine wl_block fun Q571 hN571 hE571 hX571 => ?_
  refine wl_tail ?_
  refine wl_assoc ?_
  refine wl_ops ?_
  refine wr_run 2 [(7, (.int (v552))), (3, (.int (v552)))] (by kernel_rfl) ?_
  refine wr_done ?_
  refine wl_ops ?_
  refine wr_run 3 [(8, (lst own549 encI l550)), (9, (.int (v552))), (10, (lst .exact encI [v552]))] (by kernel_rfl) ?_
  refine wr_appendX encI_len encI_one H rfl 0 own549 rfl l550 [v552] (by kernel_rfl) .exact (by kernel_rfl) hx_l550 (by first | omega | (simp; done) | (simp; omega)) rfl (by kernel_rfl) fun own572 l574 st573 hl574 el574 hx_l574 H => ?_
  simp only [List.length_cons, List.length_nil] at hl574
  refine wr_run 1 [(2, (lst own572 encI l574))] (by kernel_rfl) ?_
  refine wr_done ?_
  refine wl_skip ?_
  refine hN571 _ _ ?_
  refine wl_ops ?_
  refine wr_bin (.int (v552)) (.int (1)) (.int (v552 + 1)) (by kernel_rfl) (by kernel_rfl) (add64e _ (by unfold I64; omega)) (by kernel_rfl) ?_
  refine wr_run 1 [(5, (.int (v552 + 1)))] (by kernel_rfl) ?_
  refine wr_done ?_
  refine wl_skip ?_
  refine hN536 _ _ _ ⟨(LX [(3, (.int (v552))), (6, (.bool (decide ((v552 : Int) < (b : Int))))), (7, (.int (v552))), (8, (lst own549 encI l550)), (9, (.int (v552))), (10, (lst .exact encI [v552])), (11, (lst own572 encI l574)), (12, (.int (v552 + 1)))]), own572, l574, v552 + 1, by kernel_rfl, H, by first | omega | (simp; omega) | simp, by first | omega | (simp; omega) | simp, by first | omega | (simp; omega) | simp, by first | omega | (simp; omega) | simp, by first | omega | (simp; omega) | simp, by first | omega | (simp; omega) | simp, (app_all el574 hp536_8 (List.forall_mem_cons.2 ⟨by omega, (by simp)⟩)), (app_all el574 hp536_9 (List.forall_mem_cons.2 ⟨by omega, (by simp)⟩)), hx_l574, rfl⟩ (by first | omega | (simp only; omega))
 ·skip
  have c570' : ¬ ((v552 : Int) < b) := of_decide_eq_false c570
  refine wl_exit ?_
  refine hE536 _ _ ?_
  refine wl_assoc ?_
  refine wl_ops ?_
  refine wr_run 2 [(13, (lst own549 encI l550)), (2, (lst own549 encI l550))] (by kernel_rfl) ?_
  refine wr_done ?_
  refine wl_ret ?_
  refine post_i (Or.inr rfl) (lst own549 encI l550) (by kernel_rfl) ?_
  exact ⟨own549, l550, rfl, hp536_8, by first | omega | (simp; omega) | simp, ⟨H.tok 0 rfl, hx_l550⟩, H.ext rfl⟩

theorem keyTold : KeyOK Try.prog 3 KInt := keyInt (q := .i64) (by kernel_rfl)

set_option maxHeartbeats 4000000 in
theorem look_ok (C : ChChest) (st : St) (g0 : 1 ≤ C.Words ∧ C.Words ≤ 5) (g1 : 1 ≤ C.Facts ∧ C.Facts ≤ 6) (g2 : 0 ≤ C.Last ∧ C.Last ≤ 30) (g3 : (C.People.length : Int) ≤ 3) (g4 : (C.Copies.length : Int) ≤ 6) (g5 : (C.Rules.length : Int) ≤ 4) (g6 : ∀ x ∈ C.Rules, 0 ≤ x.Then ∧ x.Then ≤ C.Facts - 1) : WF Try.prog 71 [(.agg [(.int (C.Words)), (.int (C.Facts)), (lst .any encS C.People), (.int (C.Last)), (lst .any encCopy C.Copies), (lst .any encRule C.Rules)])] st fun r st' => ∃ (a575 : Nat) (tm576 : Nat) (v577 : Int) (v578 : Int) (v579 : Int) (es580 : List MEnt) (k581 : Nat), r = (.ptr a575 0) ∧ (-9223372036854775808 ≤ v577 ∧ v577 ≤ 9223372036854775807) ∧ (-9223372036854775808 ≤ v578 ∧ v578 ≤ 9223372036854775807) ∧ (-9223372036854775808 ≤ v579 ∧ v579 ≤ 9223372036854775807) ∧ MapOK KInt (fun x => ∃ n : Int, x = .int n ∧ (-9223372036854775808 ≤ n ∧ n ≤ 9223372036854775807)) es580 ∧ New [(a575, .cells [(.int (C.Words)), (.int (C.Facts)), (lst .any encS C.People), (.int (C.Last)), (lst .any encCopy C.Copies), (lst .any encRule C.Rules), (.int (v577)), (.int (v578)), (.int (v579)), (.map tm576)]), (tm576, .map es580 k581)] st st' ∧ Ext st st' := by
 refine wf_L c71 rfl ?_
 have H := SP.start st
 refine wl_tail ?_
 refine wl_assoc ?_
 refine wl_ops ?_
 refine wr_box (.agg [(.int (C.Words)), (.int (C.Facts)), (lst .any encS C.People), (.int (C.Last)), (lst .any encCopy C.Copies), (lst .any encRule C.Rules)]) (by kernel_rfl) [(.int (C.Words)), (.int (C.Facts)), (lst .any encS C.People), (.int (C.Last)), (lst .any encCopy C.Copies), (lst .any encRule C.Rules)] (by kernel_rfl) (by kernel_rfl) H (by kernel_rfl) fun a583 st584 H => ?_
 refine wr_run 1 [(2, (.v (.pointer none)))] (by kernel_rfl) ?_
 refine wr_done ?_
 refine wl_assoc ?_
 refine wl_ops ?_
 refine wr_load H 0 a583 0 _ true rfl (by kernel_rfl) (.agg [(.int (C.Words)), (.int (C.Facts)), (lst .any encS C.People), (.int (C.Last)), (lst .any encCopy C.Copies), (lst .any encRule C.Rules)]) (by kernel_rfl) (by kernel_rfl) ?_
 refine wr_mkmap H (by kernel_rfl) fun a585 st586 H => ?_
 have hm587 : MapOK KInt (fun x => ∃ n : Int, x = .int n ∧ (-9223372036854775808 ≤ n ∧ n ≤ 9223372036854775807)) [] := mapok_nil
 refine wr_run 1 [(9, (.agg [(.int (C.Words)), (.int (C.Facts)), (lst .any encS C.People), (.int (C.Last)), (lst .any encCopy C.Copies), (lst .any encRule C.Rules), (.int (0)), (.int (0)), (.int (0)), (.map a585)]))] (by kernel_rfl) ?_
 refine wr_box (.agg [(.int (C.Words)), (.int (C.Facts)), (lst .any encS C.People), (.int (C.Last)), (lst .any encCopy C.Copies), (lst .any encRule C.Rules), (.int (0)), (.int (0)), (.int (0)), (.map a585)]) (by kernel_rfl) [(.int (C.Words)), (.int (C.Facts)), (lst .any encS C.People), (.int (C.Last)), (lst .any encCopy C.Copies), (lst .any encRule C.Rules), (.int (0)), (.int (0)), (.int (0)), (.map a585)] (by kernel_rfl) (by kernel_rfl) H (by kernel_rfl) fun a588 st589 H => ?_
 refine wr_run 1 [(3, (.ptr a588 0))] (by kernel_rfl) ?_
 refine wr_done ?_
 refine wl_assoc ?_
 refine wl_assoc ?_
 refine wl_ops ?_
 refine wr_run 1 [(11, (.ptr a583 4))] (by kernel_rfl) ?_
 refine wr_load H 2 a583 4 _ true rfl (by kernel_rfl) (lst .any encCopy C.Copies) (by kernel_rfl) (by kernel_rfl) ?_
 refine wr_run 2 [(13, (.int ((C.Copies.length : Int)))), (14, (.int (0)))] (by kernel_rfl) ?_
 refine wr_done ?_
 refine wl_loop (σ := Nat) (fun (zz : Nat) (lf : List AV) (st' : St) => ∃ (xs590 : Nat → AV) (v693 : Int) (v724 : Int) (v725 : Int) (v726 : Int), lf = [(.agg [(.int (C.Words)), (.int (C.Facts)), (lst .any encS C.People), (.int (C.Last)), (lst .any encCopy C.Copies), (lst .any encRule C.Rules)]), (.ptr a583 0), (.v (.pointer none)), (.ptr a588 0), (xs590 4), (xs590 5), (xs590 6), (.agg [(.int (C.Words)), (.int (C.Facts)), (lst .any encS C.People), (.int (C.Last)), (lst .any encCopy C.Copies), (lst .any encRule C.Rules)]), (.map a585), (.agg [(.int (C.Words)), (.int (C.Facts)), (lst .any encS C.People), (.int (C.Last)), (lst .any encCopy C.Copies), (lst .any encRule C.Rules), (.int (0)), (.int (0)), (.int (0)), (.map a585)]), (.ptr a588 0), (.ptr a583 4), (lst .any encCopy C.Copies), (.int ((C.Copies.length : Int))), (.int (v693)), (xs590 15), (xs590 16), (xs590 17), (xs590 18), (xs590 19), (xs590 20), (xs590 21), (xs590 22), (xs590 23), (xs590 24), (xs590 25), (xs590 26), (xs590 27), (xs590 28), (xs590 29), (xs590 30), (xs590 31), (xs590 32), (xs590 33), (xs590 34), (xs590 35), (xs590 36), (xs590 37), (xs590 38), (xs590 39), (xs590 40), (xs590 41), (xs590 42), (xs590 43), (xs590 44), .junk] ∧ SP st [⟨a588, .cells [(.int (C.Words)), (.int (C.Facts)), (lst .any encS C.People), (.int (C.Last)), (lst .any encCopy C.Copies), (lst .any encRule C.Rules), (.int (v724)), (.int (v725)), (.int (v726)), (.map a585)], true⟩, ⟨a585, .map [] 0, true⟩, ⟨a583, .cells [(.int (C.Words)), (.int (C.Facts)), (lst .any encS C.People), (.int (C.Last)), (lst .any encCopy C.Copies), (lst .any encRule C.Rules)], true⟩] [] st' ∧ (0 ≤ v693) ∧ (0 ≤ v693) ∧ (-1 ≤ v693) ∧ (-9223372036854775808 ≤ v693 ∧ v693 ≤ 9223372036854775807) ∧ (v693 ≤ (C.Copies.length : Int)) ∧ (v693 ≤ 6) ∧ (-9223372036854775808 ≤ v724 ∧ v724 ≤ 9223372036854775807) ∧ (-9223372036854775808 ≤ v725 ∧ v725 ≤ 9223372036854775807) ∧ (-9223372036854775808 ≤ v726 ∧ v726 ≤ 9223372036854775807) ∧ MapOK KInt (fun x => ∃ n : Int, x = .int n ∧ (-9223372036854775808 ≤ n ∧ n ≤ 9223372036854775807)) [] ∧ zz = (-v693 + 9223372036854775808).toNat) (fun z => z) _ ⟨(LX [(4, .junk), (5, .junk), (6, .junk), (15, .junk), (16, .junk), (17, .junk), (18, .junk), (19, .junk), (20, .junk), (21, .junk), (22, .junk), (23, .junk), (24, .junk), (25, .junk), (26, .junk), (27, .junk), (28, .junk), (29, .junk), (30, .junk), (31, .junk), (32, .junk), (33, .junk), (34, .junk), (35, .junk), (36, .junk), (37, .junk), (38, .junk), (39, .junk), (40, .junk), (41, .junk), (42, .junk), (43, .junk), (44, .junk)]), 0, 0, 0, 0, by kernel_rfl, H, by first | omega | (simp; omega) | simp, by first | omega | (simp; omega) | simp, by first | omega | (simp; omega) | simp, by first | omega | (simp; omega) | simp, by first | omega | (simp; omega) | simp, by first | omega | (simp; omega) | simp, by first | omega | (simp; omega) | simp, by first | omega | (simp; omega) | simp, by first | omega | (simp; omega) | simp, hm587, rfl⟩ ?_
 clear H
 intro zz590 lf st590 hI590 Q590 hN590 hE590 hX590
 obtain ⟨xs590, v693, v724, v725, v726, rfl, H, hi590_0, hi590_1, hi590_2, hi590_3, hi590_5, hi590_6, hi590_10, hi590_14, hi590_18, hm587, hz590⟩ := hI590
 refine wl_tail ?_
 refine wl_assoc ?_
 refine wl_ops ?_
 refine wr_run 1 [(15, (.bool (decide ((v693 : Int) < ((C.Copies.length : Int) : Int)))))] (by kernel_rfl) ?_
 refine wr_done ?_
 refine wl_assoc ?_
 refine wl_cond (decide ((v693 : Int) < ((C.Copies.length : Int) : Int))) (by kernel_rfl) (fun c1045 => ?_) (fun c1045 => ?_)
 ·skip
  have c1045' : (v693 : Int) < (C.Copies.length : Int) := of_decide_eq_true c1045
  refine wl_skip_seq ?_
  refine wl_assoc ?_
  refine wl_block fun Q1046 hN1046 hE1046 hX1046 => ?_
  refine wl_tail ?_
  refine wl_assoc ?_
  refine wl_ops ?_
  refine wr_run 1 [(16, (.int (v693)))] (by kernel_rfl) ?_
  refine wr_iaddre encCopy_len .any C.Copies (by kernel_rfl) (v693) (by kernel_rfl) (by omega) (by kernel_rfl) fun y1047 hy1047 => ?_
  refine wr_loade encCopy_len C.Copies ((v693 : Int).toNat) 0 y1047 hy1047 (by kernel_rfl) (.agg [(.int (y1047.Number)), (.int (y1047.Words)), (.int (y1047.Facts)), (.int (y1047.May))]) (by kernel_rfl) (by decide) (by decide) (by kernel_rfl) ?_
  refine wr_alloc H (by kernel_rfl) fun a1048 st1049 H => ?_
  refine wr_run 1 [(4, (.int (v693)))] (by kernel_rfl) ?_
  refine wr_store H 0 a1048 0 _ true rfl (by kernel_rfl) (.agg [(.int (y1047.Number)), (.int (y1047.Words)), (.int (y1047.Facts)), (.int (y1047.May))]) (by kernel_rfl) [(.int (y1047.Number)), (.int (y1047.Words)), (.int (y1047.Facts)), (.int (y1047.May))] (by kernel_rfl) (by kernel_rfl) (by kernel_rfl) (Nat.le_of_ble_eq_true rfl) (by kernel_rfl) (by kernel_rfl) fun st1050 H => ?_
  refine wr_done ?_
  refine wl_assoc ?_
  refine wl_ops ?_
  refine wr_run 1 [(19, (.ptr a583 2))] (by kernel_rfl) ?_
  refine wr_load H 3 a583 2 _ true rfl (by kernel_rfl) (lst .any encS C.People) (by kernel_rfl) (by kernel_rfl) ?_
  refine wr_run 2 [(21, (.int ((C.People.length : Int)))), (22, (.int (0)))] (by kernel_rfl) ?_
  refine wr_done ?_
  refine wl_loop (σ := Nat) (fun (zz : Nat) (lf : List AV) (st' : St) => ∃ (xs1051 : Nat → AV) (v1061 : Int) (v1083 : Int) (v1097 : Int) (v1098 : Int), lf = [(.agg [(.int (C.Words)), (.int (C.Facts)), (lst .any encS C.People), (.int (C.Last)), (lst .any encCopy C.Copies), (lst .any encRule C.Rules)]), (.ptr a583 0), (.v (.pointer none)), (.ptr a588 0), (.int (v693)), (.ptr a1048 0), (xs1051 6), (.agg [(.int (C.Words)), (.int (C.Facts)), (lst .any encS C.People), (.int (C.Last)), (lst .any encCopy C.Copies), (lst .any encRule C.Rules)]), (.map a585), (.agg [(.int (C.Words)), (.int (C.Facts)), (lst .any encS C.People), (.int (C.Last)), (lst .any encCopy C.Copies), (lst .any encRule C.Rules), (.int (0)), (.int (0)), (.int (0)), (.map a585)]), (.ptr a588 0), (.ptr a583 4), (lst .any encCopy C.Copies), (.int ((C.Copies.length : Int))), (.int (v693)), (.bool (decide ((v693 : Int) < ((C.Copies.length : Int) : Int)))), (.int (v693)), (.lptr (C.Copies.flatMap encCopy) ((v693 : Int).toNat * 4)), (.agg [(.int (y1047.Number)), (.int (y1047.Words)), (.int (y1047.Facts)), (.int (y1047.May))]), (.ptr a583 2), (lst .any encS C.People), (.int ((C.People.length : Int))), (.int (v1061)), (xs1051 23), (xs1051 24), (xs1051 25), (xs1051 26), (xs1051 27), (xs1051 28), (xs1051 29), (xs1051 30), (xs1051 31), (xs1051 32), (xs1051 33), (xs1051 34), (xs1051 35), (xs1051 36), (xs1051 37), (xs1051 38), (xs1051 39), (xs1051 40), (xs1051 41), (xs1051 42), (xs1051 43), (xs590 44), .junk] ∧ SP st [⟨a1048, .cells [(.int (y1047.Number)), (.int (y1047.Words)), (.int (y1047.Facts)), (.int (y1047.May))], true⟩, ⟨a588, .cells [(.int (C.Words)), (.int (C.Facts)), (lst .any encS C.People), (.int (C.Last)), (lst .any encCopy C.Copies), (lst .any encRule C.Rules), (.int (v1083)), (.int (v1097)), (.int (v1098)), (.map a585)], true⟩, ⟨a585, .map [] 0, true⟩, ⟨a583, .cells [(.int (C.Words)), (.int (C.Facts)), (lst .any encS C.People), (.int (C.Last)), (lst .any encCopy C.Copies), (lst .any encRule C.Rules)], true⟩] [] st' ∧ (0 ≤ v1061) ∧ (0 ≤ v1061) ∧ (-1 ≤ v1061) ∧ (-9223372036854775808 ≤ v1061 ∧ v1061 ≤ 9223372036854775807) ∧ (v1061 ≤ (C.People.length : Int)) ∧ (v1061 ≤ 3) ∧ (-9223372036854775808 ≤ v1083 ∧ v1083 ≤ 9223372036854775807) ∧ (-9223372036854775808 ≤ v1097 ∧ v1097 ≤ 9223372036854775807) ∧ (-9223372036854775808 ≤ v1098 ∧ v1098 ≤ 9223372036854775807) ∧ MapOK KInt (fun x => ∃ n : Int, x = .int n ∧ (-9223372036854775808 ≤ n ∧ n ≤ 9223372036854775807)) [] ∧ zz = (-v1061 + 9223372036854775808).toNat) (fun z => z) _ ⟨(LX [(6, (xs590 6)), (23, (xs590 23)), (24, (xs590 24)), (25, (xs590 25)), (26, (xs590 26)), (27, (xs590 27)), (28, (xs590 28)), (29, (xs590 29)), (30, (xs590 30)), (31, (xs590 31)), (32, (xs590 32)), (33, (xs590 33)), (34, (xs590 34)), (35, (xs590 35)), (36, (xs590 36)), (37, (xs590 37)), (38, (xs590 38)), (39, (xs590 39)), (40, (xs590 40)), (41, (xs590 41)), (42, (xs590 42)), (43, (xs590 43))]), 0, v724, v725, v726, by kernel_rfl, H, by first | omega | (simp; omega) | simp, by first | omega | (simp; omega) | simp, by first | omega | (simp; omega) | simp, by first | omega | (simp; omega) | simp, by first | omega | (simp; omega) | simp, by first | omega | (simp; omega) | simp, by first | omega | (simp; omega) | simp, by first | omega | (simp; omega) | simp, by first | omega | (simp; omega) | simp, hm587, rfl⟩ ?_
  clear H
  intro zz1051 lf st1051 hI1051 Q1051 hN1051 hE1051 hX1051
  obtain ⟨xs1051, v1061, v1083, v1097, v1098, rfl, H, hi1051_0, hi1051_1, hi1051_2, hi1051_3, hi1051_5, hi1051_6, hi1051_10, hi1051_14, hi1051_18, hm587, hz1051⟩ := hI1051
  refine wl_tail ?_
  refine wl_assoc ?_
  refine wl_ops ?_
  refine wr_run 1 [(23, (.bool (decide ((v1061 : Int) < ((C.People.length : Int) : Int)))))] (by kernel_rfl) ?_
  refine wr_done ?_
  refine wl_assoc ?_
  refine wl_cond (decide ((v1061 : Int) < ((C.People.length : Int) : Int))) (by kernel_rfl) (fun c1138 => ?_) (fun c1138 => ?_)
  ·skip
   have c1138' : (v1061 : Int) < (C.People.length : Int) := of_decide_eq_true c1138
   refine wl_skip_seq ?_
   refine wl_assoc ?_
   refine wl_block fun Q1139 hN1139 hE1139 hX1139 => ?_
   refine wl_tail ?_
   refine wl_assoc ?_
   refine wl_ops ?_
   refine wr_run 2 [(24, (.int (v1061))), (6, (.int (v1061)))] (by kernel_rfl) ?_
   refine wr_done ?_
   refine wl_assoc ?_
   refine wl_ops ?_
   refine wr_run 1 [(25, (.ptr a1048 3))] (by kernel_rfl) ?_
   refine wr_load H 0 a1048 3 _ true rfl (by kernel_rfl) (.int (y1047.May)) (by kernel_rfl) (by kernel_rfl) ?_
   refine wr_run 1 [(27, (.int (v1061)))] (by kernel_rfl) ?_
   refine wr_pureX (fun y => .int y) _ (ev_int (.int (y1047.May)) (.int (v1061)) (by kernel_rfl) (by kernel_rfl) (bx_shr _ _ (by omega))) (by kernel_rfl) (by kernel_rfl) fun n1140 hn1140 => ?_
   clear hn1140
   refine wr_pureX (fun y => .int y) _ (ev_int (.int (n1140)) (.int (1)) (by kernel_rfl) (by kernel_rfl) (bx_and _ _)) (by kernel_rfl) (by kernel_rfl) fun n1141 hn1141 => ?_
   unfold I64 at hn1141
   refine wr_run 1 [(30, (.bool ((n1141 : Int) == (1 : Int))))] (by kernel_rfl) ?_
   refine wr_done ?_
   refine wl_cond ((n1141 : Int) == (1 : Int)) (by kernel_rfl) (fun c1142 => ?_) (fun c1142 => ?_)
   ·skip
    have c1142' : (n1141 : Int) = 1 := by simpa using c1142
    refine wl_draw0 (fun n => by kernel_rfl) ?_
    refine wd_run 4 [(31, (.ptr a588 0)), (32, (.int (v1061))), (33, (.ptr a588 0)), (34, (.ptr a588 6))] (by kernel_rfl) (by kernel_rfl) ?_
    refine wd_pure (.ptr a588 (6 + (v1061 : Int).toNat * 1)) (ev_iaddra a588 6 (by kernel_rfl) (v1061) (by kernel_rfl) (by omega) _) (by kernel_rfl) (by kernel_rfl) ?_
    have han1143 : v1061 = 0 ∨ v1061 = 1 ∨ v1061 = 2 := by omega
    obtain ⟨n1143, hn1143, hon1143⟩ : ∃ y : Int, getCells [(.int (C.Words)), (.int (C.Facts)), (lst .any encS C.People), (.int (C.Last)), (lst .any encCopy C.Copies), (lst .any encRule C.Rules), (.int (v1083)), (.int (v1097)), (.int (v1098)), (.map a585)] false 1 (6 + (v1061 : Int).toNat * 1) = some ((fun y : Int => .int y) y) ∧ (y = v1083 ∨ y = v1097 ∨ y = v1098) := by
     rcases han1143 with e | e | e
     ·rw [e]; exact ⟨v1083, by kernel_rfl, by simp⟩
     ·rw [e]; exact ⟨v1097, by kernel_rfl, by simp⟩
     ·rw [e]; exact ⟨v1098, by kernel_rfl, by simp⟩
    have hrn1143 : -9223372036854775808 ≤ n1143 ∧ n1143 ≤ 9223372036854775807 := by omega
    clear hon1143
    clear han1143
    refine wd_load H 1 a588 (6 + (v1061 : Int).toNat * 1) _ true rfl (by kernel_rfl) (.int (n1143)) hn1143 [] (by kernel_rfl) True.intro (by kernel_rfl) ?_
    refine wd_run 1 [(37, (.int (v693)))] (by kernel_rfl) (by kernel_rfl) ?_
    refine wd_pureX (fun y => .int y) _ (ev_int (.int (1)) (.int (v693)) (by kernel_rfl) (by kernel_rfl) (bx_shl _ _ (by omega))) (by kernel_rfl) (by kernel_rfl) fun n1144 hn1144 => ?_
    unfold I64 at hn1144
    refine wd_pureX (fun y => .int y) _ (ev_int (.int (n1143)) (.int (n1144)) (by kernel_rfl) (by kernel_rfl) (bx_or _ _)) (by kernel_rfl) (by kernel_rfl) fun n1145 hn1145 => ?_
    unfold I64 at hn1145
    refine wd_run 2 [(40, (.ptr a588 0)), (41, (.ptr a588 6))] (by kernel_rfl) (by kernel_rfl) ?_
    refine wd_pure (.ptr a588 (6 + (v1061 : Int).toNat * 1)) (ev_iaddra a588 6 (by kernel_rfl) (v1061) (by kernel_rfl) (by omega) _) (by kernel_rfl) (by kernel_rfl) ?_
    have hahx1149 : v1061 = 0 ∨ v1061 = 1 ∨ v1061 = 2 := by omega
    obtain ⟨n1146, n1147, n1148, hx1149, hon1146, hon1147, hon1148⟩ : ∃ n1146 n1147 n1148 : Int, splice [(.int (C.Words)), (.int (C.Facts)), (lst .any encS C.People), (.int (C.Last)), (lst .any encCopy C.Copies), (lst .any encRule C.Rules), (.int (v1083)), (.int (v1097)), (.int (v1098)), (.map a585)] (6 + (v1061 : Int).toNat * 1) [(.int (n1145))] = [(.int (C.Words)), (.int (C.Facts)), (lst .any encS C.People), (.int (C.Last)), (lst .any encCopy C.Copies), (lst .any encRule C.Rules), (.int (n1146)), (.int (n1147)), (.int (n1148)), (.map a585)] ∧ (n1146 = v1083 ∨ n1146 = n1145) ∧ (n1147 = v1097 ∨ n1147 = n1145) ∧ (n1148 = v1098 ∨ n1148 = n1145) := by
     rcases hahx1149 with e | e | e
     ·rw [e]; exact ⟨n1145, v1097, v1098, by kernel_rfl, by simp, by simp, by simp⟩
     ·rw [e]; exact ⟨v1083, n1145, v1098, by kernel_rfl, by simp, by simp, by simp⟩
     ·rw [e]; exact ⟨v1083, v1097, n1145, by kernel_rfl, by simp, by simp, by simp⟩
    have hrn1146 : -9223372036854775808 ≤ n1146 ∧ n1146 ≤ 9223372036854775807 := by omega
    clear hon1146
    have hrn1147 : -9223372036854775808 ≤ n1147 ∧ n1147 ≤ 9223372036854775807 := by omega
    clear hon1147
    have hrn1148 : -9223372036854775808 ≤ n1148 ∧ n1148 ≤ 9223372036854775807 := by omega
    clear hon1148
    clear hahx1149
    have H1150 := H
    have H := H1150.set 1 (c := ⟨a588, _, true⟩) rfl rfl (.cells [(.int (C.Words)), (.int (C.Facts)), (lst .any encS C.People), (.int (C.Last)), (lst .any encCopy C.Copies), (lst .any encRule C.Rules), (.int (n1146)), (.int (n1147)), (.int (n1148)), (.map a585)])
    refine wd_eff .junk (ev_store H1150 1 a588 (6 + (v1061 : Int).toNat * 1) _ true rfl (by kernel_rfl) (.int (n1145)) (by kernel_rfl) [(.int (C.Words)), (.int (C.Facts)), (lst .any encS C.People), (.int (C.Last)), (lst .any encCopy C.Copies), (lst .any encRule C.Rules), (.int (n1146)), (.int (n1147)), (.int (n1148)), (.map a585)] (by kernel_rfl) (by kernel_rfl) (by kernel_rfl) (by show (6 + (v1061 : Int).toNat * 1) + 1 ≤ 10; omega) hx1149) (by kernel_rfl) (by kernel_rfl) [] [] (by kernel_rfl) (by kernel_rfl) (by exact ⟨True.intro, True.intro⟩) (by kernel_rfl) ?_
    refine wd_done ?_
    refine wl_skip ?_
    refine hN1139 _ _ ?_
    refine wl_ops ?_
    refine wr_bin (.int (v1061)) (.int (1)) (.int (v1061 + 1)) (by kernel_rfl) (by kernel_rfl) (add64e _ (by unfold I64; omega)) (by kernel_rfl) ?_
    refine wr_run 1 [(22, (.int (v1061 + 1)))] (by kernel_rfl) ?_
    refine wr_done ?_
    refine wl_skip ?_
    refine hN1051 _ _ _ ⟨(LX [(6, (.int (v1061))), (23, (.bool (decide ((v1061 : Int) < ((C.People.length : Int) : Int))))), (24, (.int (v1061))), (25, (.ptr a1048 3)), (26, (.int (y1047.May))), (27, (.int (v1061))), (28, (.int (n1140))), (29, (.int (n1141))), (30, (.bool ((n1141 : Int) == (1 : Int)))), (31, (.ptr a588 0)), (32, (.int (v1061))), (33, (.ptr a588 0)), (34, (.ptr a588 6)), (35, (.ptr a588 (6 + (v1061 : Int).toNat * 1))), (36, (.int (n1143))), (37, (.int (v693))), (38, (.int (n1144))), (39, (.int (n1145))), (40, (.ptr a588 0)), (41, (.ptr a588 6)), (42, (.ptr a588 (6 + (v1061 : Int).toNat * 1))), (43, (.int (v1061 + 1)))]), v1061 + 1, n1146, n1147, n1148, by kernel_rfl, H, by first | omega | (simp; omega) | simp, by first | omega | (simp; omega) | simp, by first | omega | (simp; omega) | simp, by first | omega | (simp; omega) | simp, by first | omega | (simp; omega) | simp, by first | omega | (simp; omega) | simp, by first | omega | (simp; omega) | simp, by first | omega | (simp; omega) | simp, by first | omega | (simp; omega) | simp, hm587, rfl⟩ (by first | omega | (simp only; omega))
   ·skip
    have c1142' : ¬ ((n1141 : Int) = 1) := by simpa using c1142
    refine wl_skip_seq ?_
    refine wl_skip ?_
    refine hN1139 _ _ ?_
    refine wl_ops ?_
    refine wr_bin (.int (v1061)) (.int (1)) (.int (v1061 + 1)) (by kernel_rfl) (by kernel_rfl) (add64e _ (by unfold I64; omega)) (by kernel_rfl) ?_
    refine wr_run 1 [(22, (.int (v1061 + 1)))] (by kernel_rfl) ?_
    refine wr_done ?_
    refine wl_skip ?_
    refine hN1051 _ _ _ ⟨(LX [(6, (.int (v1061))), (23, (.bool (decide ((v1061 : Int) < ((C.People.length : Int) : Int))))), (24, (.int (v1061))), (25, (.ptr a1048 3)), (26, (.int (y1047.May))), (27, (.int (v1061))), (28, (.int (n1140))), (29, (.int (n1141))), (30, (.bool ((n1141 : Int) == (1 : Int)))), (31, (xs1051 31)), (32, (xs1051 32)), (33, (xs1051 33)), (34, (xs1051 34)), (35, (xs1051 35)), (36, (xs1051 36)), (37, (xs1051 37)), (38, (xs1051 38)), (39, (xs1051 39)), (40, (xs1051 40)), (41, (xs1051 41)), (42, (xs1051 42)), (43, (.int (v1061 + 1)))]), v1061 + 1, v1083, v1097, v1098, by kernel_rfl, H, by first | omega | (simp; omega) | simp, by first | omega | (simp; omega) | simp, by first | omega | (simp; omega) | simp, by first | omega | (simp; omega) | simp, by first | omega | (simp; omega) | simp, by first | omega | (simp; omega) | simp, by first | omega | (simp; omega) | simp, by first | omega | (simp; omega) | simp, by first | omega | (simp; omega) | simp, hm587, rfl⟩ (by first | omega | (simp only; omega))
  ·skip
   have c1138' : ¬ ((v1061 : Int) < (C.People.length : Int)) := of_decide_eq_false c1138
   refine wl_exit ?_
   refine hE1051 _ _ ?_
   refine wl_skip ?_
   refine hN1046 _ _ ?_
   refine wl_ops ?_
   refine wr_bin (.int (v693)) (.int (1)) (.int (v693 + 1)) (by kernel_rfl) (by kernel_rfl) (add64e _ (by unfold I64; omega)) (by kernel_rfl) ?_
   refine wr_run 1 [(14, (.int (v693 + 1)))] (by kernel_rfl) ?_
   refine wr_done ?_
   refine wl_skip ?_
   replace H := H.tail rfl
   refine hN590 _ _ _ ⟨(LX [(4, (.int (v693))), (5, (.ptr a1048 0)), (6, (xs1051 6)), (15, (.bool (decide ((v693 : Int) < ((C.Copies.length : Int) : Int))))), (16, (.int (v693))), (17, (.lptr (C.Copies.flatMap encCopy) ((v693 : Int).toNat * 4))), (18, (.agg [(.int (y1047.Number)), (.int (y1047.Words)), (.int (y1047.Facts)), (.int (y1047.May))])), (19, (.ptr a583 2)), (20, (lst .any encS C.People)), (21, (.int ((C.People.length : Int)))), (22, (.int (v1061))), (23, (.bool (decide ((v1061 : Int) < ((C.People.length : Int) : Int))))), (24, (xs1051 24)), (25, (xs1051 25)), (26, (xs1051 26)), (27, (xs1051 27)), (28, (xs1051 28)), (29, (xs1051 29)), (30, (xs1051 30)), (31, (xs1051 31)), (32, (xs1051 32)), (33, (xs1051 33)), (34, (xs1051 34)), (35, (xs1051 35)), (36, (xs1051 36)), (37, (xs1051 37)), (38, (xs1051 38)), (39, (xs1051 39)), (40, (xs1051 40)), (41, (xs1051 41)), (42, (xs1051 42)), (43, (xs1051 43)), (44, (.int (v693 + 1)))]), v693 + 1, v1083, v1097, v1098, by kernel_rfl, H, by first | omega | (simp; omega) | simp, by first | omega | (simp; omega) | simp, by first | omega | (simp; omega) | simp, by first | omega | (simp; omega) | simp, by first | omega | (simp; omega) | simp, by first | omega | (simp; omega) | simp, by first | omega | (simp; omega) | simp, by first | omega | (simp; omega) | simp, by first | omega | (simp; omega) | simp, hm587, rfl⟩ (by first | omega | (simp only; omega))
 ·skip
  have c1045' : ¬ ((v693 : Int) < (C.Copies.length : Int)) := of_decide_eq_false c1045
  refine wl_exit ?_
  refine hE590 _ _ ?_
  refine wl_assoc ?_
  refine wl_ops ?_
  refine wr_run 2 [(45, (.ptr a588 0)), (2, (.ptr a588 0))] (by kernel_rfl) ?_
  refine wr_done ?_
  refine wl_ret ?_
  refine post_i (Or.inr rfl) (.ptr a588 0) (by kernel_rfl) ?_
  exact ⟨a588, a585, v724, v725, v726, [], 0, rfl, by first | omega | (simp; omega) | simp, by first | omega | (simp; omega) | simp, by first | omega | (simp; omega) | simp, hm587, H.news [0, 1] (by decide) _ rfl, H.ext rfl⟩

set_option maxHeartbeats 4000000 in
theorem enter_ok (C : ChChest) (own : EF.Own) (l : List Int) (st : St) (hp : (C.People.length : Int) ≤ 1048576) (hc : (C.Copies.length : Int) ≤ 1048576) (hr : (C.Rules.length : Int) ≤ 1048576) (hl : (l.length : Int) ≤ 1048576) : WF Try.prog 46 [(.agg [(.int (C.Words)), (.int (C.Facts)), (lst .any encS C.People), (.int (C.Last)), (lst .any encCopy C.Copies), (lst .any encRule C.Rules)]), (lst own encI l)] st fun r st' => (∃ (e1151 : Int), r = (.tup [(.v (.pointer none)), (.int (e1151))]) ∧ (¬ (e1151 = 0)) ∧ Ext st st') ∨ (∃ (a1152 : Nat) (tm1153 : Nat) (v1154 : Int) (v1155 : Int) (v1156 : Int) (es1157 : List MEnt) (k1158 : Nat), r = (.tup [(.ptr a1152 0), (.int (0))]) ∧ (-9223372036854775808 ≤ v1154 ∧ v1154 ≤ 9223372036854775807) ∧ (-9223372036854775808 ≤ v1155 ∧ v1155 ≤ 9223372036854775807) ∧ (-9223372036854775808 ≤ v1156 ∧ v1156 ≤ 9223372036854775807) ∧ (1 ≤ C.Words ∧ C.Words ≤ 5) ∧ (1 ≤ C.Facts ∧ C.Facts ≤ 6) ∧ (0 ≤ C.Last ∧ C.Last ≤ 30) ∧ ((C.People.length : Int) ≤ 3) ∧ ((C.Copies.length : Int) ≤ 6) ∧ ((C.Rules.length : Int) ≤ 4) ∧ (∀ x ∈ C.Rules, 0 ≤ x.Then ∧ x.Then ≤ C.Facts - 1) ∧ (∀ (j : Nat) x y, l[2 * j]? = some x → l[2 * j + 1]? = some y → -9223372036854775807 ≤ y ∧ y ≤ 9223372036854775807 → 0 ≤ x ∧ x ≤ y - 1) ∧ MapOK KInt (fun x => ∃ n : Int, x = .int n ∧ (-9223372036854775808 ≤ n ∧ n ≤ 9223372036854775807)) es1157 ∧ New [(a1152, .cells [(.int (C.Words)), (.int (C.Facts)), (lst .any encS C.People), (.int (C.Last)), (lst .any encCopy C.Copies), (lst .any encRule C.Rules), (.int (v1154)), (.int (v1155)), (.int (v1156)), (.map tm1153)]), (tm1153, .map es1157 k1158)] st st' ∧ Ext st st') := by
 refine wf_L c46 rfl ?_
 have H := SP.start st
 refine wl_tail ?_
 refine wl_assoc ?_
 refine wl_ops ?_
 refine wr_box (.agg [(.int (C.Words)), (.int (C.Facts)), (lst .any encS C.People), (.int (C.Last)), (lst .any encCopy C.Copies), (lst .any encRule C.Rules)]) (by kernel_rfl) [(.int (C.Words)), (.int (C.Facts)), (lst .any encS C.People), (.int (C.Last)), (lst .any encCopy C.Copies), (lst .any encRule C.Rules)] (by kernel_rfl) (by kernel_rfl) H (by kernel_rfl) fun a1160 st1161 H => ?_
 refine wr_run 2 [(4, (.v (.pointer none))), (5, (.int (0)))] (by kernel_rfl) ?_
 refine wr_done ?_
 refine wl_assoc ?_
 refine wl_assoc ?_
 refine wl_ops ?_
 refine wr_load H 0 a1160 0 _ true rfl (by kernel_rfl) (.agg [(.int (C.Words)), (.int (C.Facts)), (lst .any encS C.People), (.int (C.Last)), (lst .any encCopy C.Copies), (lst .any encRule C.Rules)]) (by kernel_rfl) (by kernel_rfl) ?_
 refine wr_call [(.agg [(.int (C.Words)), (.int (C.Facts)), (lst .any encS C.People), (.int (C.Last)), (lst .any encCopy C.Copies), (lst .any encRule C.Rules)])] (by kernel_rfl) (by kernel_rfl) (WF.mono (check_ok C _ (by omega) (by omega) (by omega)) ?_)
 rintro r1162 st1163 (⟨n1164, n1165, e1166, rfl, hf1169, E1167⟩ | ⟨rfl, hf1172, hf1173, hf1174, hf1175, hf1176, hf1177, hf1178, E1170⟩)
 ·skip
  replace H := H.then E1167
  refine wr_run 7 [(10, (.tup [(.int (n1164)), (.int (n1165)), (.int (e1166))])), (13, (.int (n1164))), (14, (.int (n1165))), (15, (.int (e1166))), (6, (.int (n1164))), (7, (.int (n1165))), (8, (.int (e1166)))] (by kernel_rfl) ?_
  refine wr_done ?_
  refine wl_assoc ?_
  refine wl_ops ?_
  refine wr_run 2 [(16, (.int (e1166))), (17, (.bool ((e1166 : Int) != (0 : Int))))] (by kernel_rfl) ?_
  refine wr_done ?_
  refine wl_cond ((e1166 : Int) != (0 : Int)) (by kernel_rfl) (fun c1179 => ?_) (fun c1179 => ?_)
  ·skip
   have c1179' : ¬ ((e1166 : Int) = 0) := by simpa using c1179
   refine wl_assoc ?_
   refine wl_ops ?_
   refine wr_run 3 [(18, (.int (e1166))), (4, (.v (.pointer none))), (5, (.int (e1166)))] (by kernel_rfl) ?_
   refine wr_done ?_
   refine wl_ret ?_
   refine post_i (Or.inr rfl) (.tup [(.v (.pointer none)), (.int (e1166))]) (by kernel_rfl) ?_
   exact (Or.inl ⟨e1166, rfl, by omega, H.ext rfl⟩)
  ·skip
   have c1179' : (e1166 : Int) = 0 := by simpa using c1179
   exfalso; omega
 ·skip
  replace H := H.then E1170
  refine wr_run 7 [(10, (.tup [(.int (0)), (.int (0)), (.int (0))])), (13, (.int (0))), (14, (.int (0))), (15, (.int (0))), (6, (.int (0))), (7, (.int (0))), (8, (.int (0)))] (by kernel_rfl) ?_
  refine wr_done ?_
  refine wl_assoc ?_
  refine wl_ops ?_
  refine wr_run 2 [(16, (.int (0))), (17, (.bool (false)))] (by kernel_rfl) ?_
  refine wr_done ?_
  refine wl_cond false (by kernel_rfl) (fun c1180 => by cases c1180) (fun c1180 => ?_)
  clear c1180
  refine wl_skip_seq ?_
  refine wl_assoc ?_
  refine wl_assoc ?_
  refine wl_ops ?_
  refine wr_run 1 [(9, (.int (0)))] (by kernel_rfl) ?_
  refine wr_done ?_
  refine wl_loop (σ := Nat) (fun (zz : Nat) (lf : List AV) (st' : St) => ∃ (xs1181 : Nat → AV) (v1195 : Int), lf = [(.agg [(.int (C.Words)), (.int (C.Facts)), (lst .any encS C.People), (.int (C.Last)), (lst .any encCopy C.Copies), (lst .any encRule C.Rules)]), (lst own encI l), (.ptr a1160 0), .junk, (.v (.pointer none)), (.int (0)), (.int (0)), (.int (0)), (.int (0)), (.int (v1195)), (.tup [(.int (0)), (.int (0)), (.int (0))]), (.agg [(.int (C.Words)), (.int (C.Facts)), (lst .any encS C.People), (.int (C.Last)), (lst .any encCopy C.Copies), (lst .any encRule C.Rules)]), (.tup [(.int (0)), (.int (0)), (.int (0))]), (.int (0)), (.int (0)), (.int (0)), (.int (0)), (.bool (false)), .junk, (xs1181 19), (xs1181 20), (xs1181 21), (xs1181 22), (xs1181 23), (xs1181 24), (xs1181 25), (xs1181 26), (xs1181 27), (xs1181 28), (xs1181 29), (xs1181 30), (xs1181 31), (xs1181 32), (xs1181 33), (xs1181 34), (xs1181 35), (xs1181 36), (xs1181 37), .junk, .junk] ∧ SP st [⟨a1160, .cells [(.int (C.Words)), (.int (C.Facts)), (lst .any encS C.People), (.int (C.Last)), (lst .any encCopy C.Copies), (lst .any encRule C.Rules)], true⟩] [] st' ∧ (0 ≤ v1195) ∧ (0 ≤ v1195) ∧ (-1 ≤ v1195) ∧ (-9223372036854775808 ≤ v1195 ∧ v1195 ≤ 9223372036854775807) ∧ (v1195 ≤ (l.length : Int)) ∧ (v1195 ≤ 1048576) ∧ (∃ q : Nat, v1195 = 2 * (q : Int) ∧ ∀ (j : Nat) x y, j < q → l[2 * j]? = some x → l[2 * j + 1]? = some y → -9223372036854775807 ≤ y ∧ y ≤ 9223372036854775807 → 0 ≤ x ∧ x ≤ y - 1) ∧ zz = (-v1195 + 9223372036854775808).toNat) (fun z => z) _ ⟨(LX [(19, .junk), (20, .junk), (21, .junk), (22, .junk), (23, .junk), (24, .junk), (25, .junk), (26, .junk), (27, .junk), (28, .junk), (29, .junk), (30, .junk), (31, .junk), (32, .junk), (33, .junk), (34, .junk), (35, .junk), (36, .junk), (37, .junk)]), 0, by kernel_rfl, H, by first | omega | (simp; omega) | simp, by first | omega | (simp; omega) | simp, by first | omega | (simp; omega) | simp, by first | omega | (simp; omega) | simp, by first | omega | (simp; omega) | simp, by first | omega | (simp; omega) | simp, ⟨0, by simp, fun j x y h => by omega⟩, rfl⟩ ?_
  clear H
  intro zz1181 lf st1181 hI1181 Q1181 hN1181 hE1181 hX1181
  obtain ⟨xs1181, v1195, rfl, H, hi1181_0, hi1181_1, hi1181_2, hi1181_3, hi1181_6, hi1181_7, hs1181_0, hz1181⟩ := hI1181
  refine wl_tail ?_
  refine wl_assoc ?_
  refine wl_assoc ?_
  refine wl_ops ?_
  refine wr_run 1 [(19, (.int (v1195)))] (by kernel_rfl) ?_
  refine wr_bin (.int (v1195)) (.int (1)) (.int (v1195 + 1)) (by kernel_rfl) (by kernel_rfl) (add64e _ (by unfold I64; omega)) (by kernel_rfl) ?_
  refine wr_run 3 [(21, (lst own encI l)), (22, (.int ((l.length : Int)))), (23, (.bool (decide ((v1195 + 1 : Int) < ((l.length : Int) : Int)))))] (by kernel_rfl) ?_
  refine wr_done ?_
  refine wl_cond (decide ((v1195 + 1 : Int) < ((l.length : Int) : Int))) (by kernel_rfl) (fun c1242 => ?_) (fun c1242 => ?_)
  ·skip
   have c1242' : (v1195 + 1 : Int) < (l.length : Int) := of_decide_eq_true c1242
   refine wl_skip_seq ?_
   refine wl_assoc ?_
   refine wl_block fun Q1243 hN1243 hE1243 hX1243 => ?_
   refine wl_tail ?_
   refine wl_assoc ?_
   refine wl_draw0 (fun n => by kernel_rfl) ?_
   refine wd_run 2 [(26, (lst own encI l)), (27, (.int (v1195)))] (by kernel_rfl) (by kernel_rfl) ?_
   refine wd_pure (.int (v1195 + 1)) (ev_bin (.int (v1195)) (.int (1)) (.int (v1195 + 1)) (by kernel_rfl) (by kernel_rfl) (add64e _ (by unfold I64; omega)) _) (by kernel_rfl) (by kernel_rfl) ?_
   obtain ⟨y1244, hy1244⟩ := getx l (v1195 + 1) (by omega)
   refine wd_pure (.lptr (l.flatMap encI) ((v1195 + 1 : Int).toNat * 1)) (ev_iaddr own _ _ (by kernel_rfl) (v1195 + 1) (by kernel_rfl) (by omega) (enc_len encI_len _) _) (by kernel_rfl) (by kernel_rfl) ?_
   refine wd_readl (.int (y1244)) (ev_loade encI_len l ((v1195 + 1 : Int).toNat) 0 y1244 hy1244 (by kernel_rfl) (.int (y1244)) (by kernel_rfl) (by decide) (by decide)) (by kernel_rfl) (by kernel_rfl) ?_
   refine wd_pureX (fun y => .int y) _ (ev_int (.int (y1244)) (.int (1)) (by kernel_rfl) (by kernel_rfl) (bx_sub _ _)) (by kernel_rfl) (by kernel_rfl) fun n1245 hn1245 => ?_
   obtain ⟨hn1245, hwn1245⟩ := hn1245
   unfold I64 at hwn1245
   unfold I64 at hn1245
   refine wd_run 2 [(32, (lst own encI l)), (33, (.int (v1195)))] (by kernel_rfl) (by kernel_rfl) ?_
   obtain ⟨y1246, hy1246⟩ := getx l (v1195) (by omega)
   refine wd_pure (.lptr (l.flatMap encI) ((v1195 : Int).toNat * 1)) (ev_iaddr own _ _ (by kernel_rfl) (v1195) (by kernel_rfl) (by omega) (enc_len encI_len _) _) (by kernel_rfl) (by kernel_rfl) ?_
   refine wd_readl (.int (y1246)) (ev_loade encI_len l ((v1195 : Int).toNat) 0 y1246 hy1246 (by kernel_rfl) (.int (y1246)) (by kernel_rfl) (by decide) (by decide)) (by kernel_rfl) (by kernel_rfl) ?_
   refine wd_run 1 [(36, (lst .exact encI [y1246]))] (by kernel_rfl) (by kernel_rfl) ?_
   have H1247 := H
   refine wd_call [(.int (0)), (.int (n1245)), (lst .exact encI [y1246])] (by kernel_rfl) (by kernel_rfl) [] [] (by kernel_rfl) (by kernel_rfl) (WF.mono (off_ok 0 n1245 .exact ([y1246]) _ (by simp)) ?_)
   rintro r1248 st1249 ⟨b1250, rfl, hf1253, E1251⟩
   replace H := H.then E1251
   refine ⟨(by exact ⟨True.intro, True.intro⟩), ?_⟩
   refine wd_done ?_
   refine wl_cond (b1250) (by kernel_rfl) (fun c1254 => ?_) (fun c1254 => ?_)
   ·skip
    refine wl_assoc ?_
    refine wl_ops ?_
    refine wr_run 2 [(4, (.v (.pointer none))), (5, (.int (4)))] (by kernel_rfl) ?_
    refine wr_done ?_
    refine wl_ret ?_
    refine hX1243 _ _ _ (by decide) (by decide) ?_
    refine hX1181 _ _ _ (by decide) (by decide) ?_
    refine post_i (Or.inr rfl) (.tup [(.v (.pointer none)), (.int (4))]) (by kernel_rfl) ?_
    exact (Or.inl ⟨4, rfl, by omega, H.ext rfl⟩)
   ·skip
    have hr1255 := (hf1253 c1254) (y1246) (by simp)
    refine wl_skip_seq ?_
    refine wl_skip ?_
    refine hN1243 _ _ ?_
    refine wl_ops ?_
    refine wr_run 1 [(24, (.int (v1195)))] (by kernel_rfl) ?_
    refine wr_bin (.int (v1195)) (.int (2)) (.int (v1195 + 2)) (by kernel_rfl) (by kernel_rfl) (add64e _ (by unfold I64; omega)) (by kernel_rfl) ?_
    refine wr_run 1 [(9, (.int (v1195 + 2)))] (by kernel_rfl) ?_
    refine wr_done ?_
    refine wl_skip ?_
    refine hN1181 _ _ _ ⟨(LX [(19, (.int (v1195))), (20, (.int (v1195 + 1))), (21, (lst own encI l)), (22, (.int ((l.length : Int)))), (23, (.bool (decide ((v1195 + 1 : Int) < ((l.length : Int) : Int))))), (24, (.int (v1195))), (25, (.int (v1195 + 2))), (26, (lst own encI l)), (27, (.int (v1195))), (28, (.int (v1195 + 1))), (29, (.lptr (l.flatMap encI) ((v1195 + 1 : Int).toNat * 1))), (30, (.int (y1244))), (31, (.int (n1245))), (32, (lst own encI l)), (33, (.int (v1195))), (34, (.lptr (l.flatMap encI) ((v1195 : Int).toNat * 1))), (35, (.int (y1246))), (36, (lst .exact encI [y1246])), (37, (.bool (b1250)))]), v1195 + 2, by kernel_rfl, H, by first | omega | (simp; omega) | simp, by first | omega | (simp; omega) | simp, by first | omega | (simp; omega) | simp, by first | omega | (simp; omega) | simp, by first | omega | (simp; omega) | simp, by first | omega | (simp; omega) | simp, by
       obtain ⟨q, hq, hall⟩ := hs1181_0
       exact ⟨q + 1, by omega, fun j x y hj hx hy hw => by
        rcases Nat.lt_or_ge j q with h | h
        ·exact hall j x y h hx hy hw
        ·have e1 : 2 * j = (v1195 : Int).toNat := by omega
         have e2 : 2 * j + 1 = (v1195 + 1 : Int).toNat := by omega
         rw [e1, hy1246] at hx
         rw [e2, hy1244] at hy
         cases hx; cases hy; omega⟩, rfl⟩ (by first | omega | (simp only; omega))
  ·skip
   have c1242' : ¬ ((v1195 + 1 : Int) < (l.length : Int)) := of_decide_eq_false c1242
   refine wl_exit ?_
   refine hE1181 _ _ ?_
   refine wl_assoc ?_
   refine wl_ops ?_
   refine wr_load H 0 a1160 0 _ true rfl (by kernel_rfl) (.agg [(.int (C.Words)), (.int (C.Facts)), (lst .any encS C.People), (.int (C.Last)), (lst .any encCopy C.Copies), (lst .any encRule C.Rules)]) (by kernel_rfl) (by kernel_rfl) ?_
   refine wr_call [(.agg [(.int (C.Words)), (.int (C.Facts)), (lst .any encS C.People), (.int (C.Last)), (lst .any encCopy C.Copies), (lst .any encRule C.Rules)])] (by kernel_rfl) (by kernel_rfl) (WF.mono (look_ok C _ (by omega) (by omega) (by omega) (by omega) (by omega) (by omega) hf1178) ?_)
   rintro r1256 st1257 ⟨a1258, tm1259, v1260, v1261, v1262, es1263, k1264, rfl, hf1268, hf1269, hf1270, hm1265, W1267, E1266⟩
   replace H : SP st [⟨a1258, .cells [(.int (C.Words)), (.int (C.Facts)), (lst .any encS C.People), (.int (C.Last)), (lst .any encCopy C.Copies), (lst .any encRule C.Rules), (.int (v1260)), (.int (v1261)), (.int (v1262)), (.map tm1259)], true⟩, ⟨tm1259, .map es1263 k1264, true⟩, ⟨a1160, .cells [(.int (C.Words)), (.int (C.Facts)), (lst .any encS C.People), (.int (C.Last)), (lst .any encCopy C.Copies), (lst .any encRule C.Rules)], true⟩] [] st1257 := H.addnew E1266 W1267
   refine wr_run 2 [(4, (.ptr a1258 0)), (5, (.int (0)))] (by kernel_rfl) ?_
   refine wr_done ?_
   refine wl_ret ?_
   refine post_i (Or.inr rfl) (.tup [(.ptr a1258 0), (.int (0))]) (by kernel_rfl) ?_
   exact (Or.inr ⟨a1258, tm1259, v1260, v1261, v1262, es1263, k1264, rfl, by first | omega | (simp; omega) | simp, by first | omega | (simp; omega) | simp, by first | omega | (simp; omega) | simp, by first | omega | (simp; omega) | simp, by first | omega | (simp; omega) | simp, by first | omega | (simp; omega) | simp, by first | omega | (simp; omega) | simp, by first | omega | (simp; omega) | simp, by first | omega | (simp; omega) | simp, hf1178, by
      obtain ⟨q, hq, hall⟩ := hs1181_0
      exact fun j x y hx hy => hall j x y (by have := (List.getElem?_eq_some_iff.1 hy).1; omega) hx hy, hm1265, H.news [0, 1] (by decide) _ rfl, H.ext rfl⟩)

set_option maxHeartbeats 4000000 in
theorem worded_ok (C : ChChest) (c : Nat) (v0 : Int) (v1 : Int) (v2 : Int) (tm : Nat) (i : Int) (w : Int) (st : St) (hc_c : st.get c = some (.cells [(.int (C.Words)), (.int (C.Facts)), (lst .any encS C.People), (.int (C.Last)), (lst .any encCopy C.Copies), (lst .any encRule C.Rules), (.int (v0)), (.int (v1)), (.int (v2)), (.map tm)])) (hp : (C.People.length : Int) ≤ 1048576) (hc : (C.Copies.length : Int) ≤ 1048576) (hr : (C.Rules.length : Int) ≤ 1048576) (hi : 0 ≤ i ∧ i < (C.Copies.length : Int)) : WF Try.prog 72 [(.ptr c 0), (.int (i)), (.int (w))] st fun r st' => ∃ (b1271 : Bool), r = (.bool (b1271)) ∧ Ext st st' := by
 refine wf_L c72 rfl ?_
 have H : SP st [⟨c, .cells [(.int (C.Words)), (.int (C.Facts)), (lst .any encS C.People), (.int (C.Last)), (lst .any encCopy C.Copies), (lst .any encRule C.Rules), (.int (v0)), (.int (v1)), (.int (v2)), (.map tm)], false⟩] [] st := SP.startm _ (List.forall_mem_cons.2 ⟨⟨hc_c, rfl⟩, (by simp)⟩) (by simp)
 refine wl_tail ?_
 refine wl_assoc ?_
 refine wl_ops ?_
 refine wr_run 1 [(6, (.bool (false)))] (by kernel_rfl) ?_
 refine wr_done ?_
 refine wl_assoc ?_
 refine wl_ops ?_
 refine wr_run 5 [(7, (.int (w))), (8, (.ptr c 0)), (9, (.ptr c 0)), (10, (.ptr c 0)), (11, (.ptr c 4))] (by kernel_rfl) ?_
 refine wr_load H 0 c 4 _ false rfl (by kernel_rfl) (lst .any encCopy C.Copies) (by kernel_rfl) (by kernel_rfl) ?_
 refine wr_run 1 [(13, (.int (i)))] (by kernel_rfl) ?_
 refine wr_iaddre encCopy_len .any C.Copies (by kernel_rfl) (i) (by kernel_rfl) (by omega) (by kernel_rfl) fun y1272 hy1272 => ?_
 refine wr_run 1 [(15, (.lptr (C.Copies.flatMap encCopy) ((i : Int).toNat * 4 + 1)))] (by kernel_rfl) ?_
 refine wr_loade encCopy_len C.Copies ((i : Int).toNat) 1 y1272 hy1272 (by kernel_rfl) (.int (y1272.Words)) (by kernel_rfl) (by decide) (by decide) (by kernel_rfl) ?_
 refine wr_pureX (fun y => .int y) _ (ev_int (.int (w)) (.int (y1272.Words)) (by kernel_rfl) (by kernel_rfl) (bx_andNot _ _)) (by kernel_rfl) (by kernel_rfl) fun n1273 hn1273 => ?_
 unfold I64 at hn1273
 refine wr_run 2 [(18, (.bool ((n1273 : Int) == (0 : Int)))), (6, (.bool ((n1273 : Int) == (0 : Int))))] (by kernel_rfl) ?_
 refine wr_done ?_
 refine wl_ret ?_
 refine post_i (Or.inr rfl) (.bool ((n1273 : Int) == (0 : Int))) (by kernel_rfl) ?_
 exact ⟨(n1273 : Int) == (0 : Int), rfl, H.ext' (List.forall_mem_cons.2 ⟨(fun _ => hc_c), (by simp)⟩)⟩

set_option maxHeartbeats 4000000 in
theorem find_ok (C : ChChest) (c : Nat) (v0 : Int) (v1 : Int) (v2 : Int) (tm : Nat) (p : Int) (w : Int) (st : St) (hc_c : st.get c = some (.cells [(.int (C.Words)), (.int (C.Facts)), (lst .any encS C.People), (.int (C.Last)), (lst .any encCopy C.Copies), (lst .any encRule C.Rules), (.int (v0)), (.int (v1)), (.int (v2)), (.map tm)])) (hp : (C.People.length : Int) ≤ 1048576) (hc : (C.Copies.length : Int) ≤ 1048576) (hr : (C.Rules.length : Int) ≤ 1048576) (r0 : -9223372036854775808 ≤ v0 ∧ v0 ≤ 9223372036854775807) (r1 : -9223372036854775808 ≤ v1 ∧ v1 ≤ 9223372036854775807) (r2 : -9223372036854775808 ≤ v2 ∧ v2 ≤ 9223372036854775807) (hi : 0 ≤ p ∧ p < 3) : WF Try.prog 52 [(.ptr c 0), (.int (p)), (.int (w))] st fun r st' => ∃ (n1274 : Int), r = (.int (n1274)) ∧ (-9223372036854775808 ≤ n1274 ∧ n1274 ≤ 9223372036854775807) ∧ Ext st st' := by
 refine wf_L c52 rfl ?_
 have H : SP st [⟨c, .cells [(.int (C.Words)), (.int (C.Facts)), (lst .any encS C.People), (.int (C.Last)), (lst .any encCopy C.Copies), (lst .any encRule C.Rules), (.int (v0)), (.int (v1)), (.int (v2)), (.map tm)], false⟩] [] st := SP.startm _ (List.forall_mem_cons.2 ⟨⟨hc_c, rfl⟩, (by simp)⟩) (by simp)
 refine wl_tail ?_
 refine wl_assoc ?_
 refine wl_ops ?_
 refine wr_run 1 [(6, (.int (0)))] (by kernel_rfl) ?_
 refine wr_done ?_
 refine wl_assoc ?_
 refine wl_ops ?_
 refine wr_run 3 [(9, (.ptr c 0)), (10, (.fn 72 [(.ptr c 0)] [])), (7, (.fn 72 [(.ptr c 0)] []))] (by kernel_rfl) ?_
 refine wr_done ?_
 refine wl_assoc ?_
 refine wl_assoc ?_
 refine wl_ops ?_
 refine wr_run 4 [(11, (.ptr c 0)), (12, (.ptr c 0)), (13, (.ptr c 0)), (14, (.ptr c 4))] (by kernel_rfl) ?_
 refine wr_load H 0 c 4 _ false rfl (by kernel_rfl) (lst .any encCopy C.Copies) (by kernel_rfl) (by kernel_rfl) ?_
 refine wr_run 2 [(16, (.int ((C.Copies.length : Int)))), (17, (.int (0)))] (by kernel_rfl) ?_
 refine wr_done ?_
 refine wl_loop (σ := Nat) (fun (zz : Nat) (lf : List AV) (st' : St) => ∃ (xs1275 : Nat → AV) (v1289 : Int) (v1291 : Int), lf = [(.ptr c 0), (.int (p)), (.int (w)), .junk, .junk, .junk, (.int (v1289)), (.fn 72 [(.ptr c 0)] []), (xs1275 8), (.ptr c 0), (.fn 72 [(.ptr c 0)] []), (.ptr c 0), (.ptr c 0), (.ptr c 0), (.ptr c 4), (lst .any encCopy C.Copies), (.int ((C.Copies.length : Int))), (.int (v1291)), (xs1275 18), (xs1275 19), (xs1275 20), (xs1275 21), (xs1275 22), (xs1275 23), (xs1275 24), (xs1275 25), (xs1275 26), (xs1275 27), (xs1275 28), (xs1275 29), (xs1275 30), (xs1275 31), (xs1275 32), (xs1275 33), (xs1275 34), (xs1275 35), (xs1275 36), (xs1275 37), (xs1275 38), (xs1275 39), (xs1275 40), .junk] ∧ SP st [⟨c, .cells [(.int (C.Words)), (.int (C.Facts)), (lst .any encS C.People), (.int (C.Last)), (lst .any encCopy C.Copies), (lst .any encRule C.Rules), (.int (v0)), (.int (v1)), (.int (v2)), (.map tm)], false⟩] [] st' ∧ (-9223372036854775808 ≤ v1289 ∧ v1289 ≤ 9223372036854775807) ∧ (0 ≤ v1291) ∧ (0 ≤ v1291) ∧ (-1 ≤ v1291) ∧ (-9223372036854775808 ≤ v1291 ∧ v1291 ≤ 9223372036854775807) ∧ (v1291 ≤ (C.Copies.length : Int)) ∧ (v1291 ≤ 1048576) ∧ zz = (-v1291 + 9223372036854775808).toNat) (fun z => z) _ ⟨(LX [(8, .junk), (18, .junk), (19, .junk), (20, .junk), (21, .junk), (22, .junk), (23, .junk), (24, .junk), (25, .junk), (26, .junk), (27, .junk), (28, .junk), (29, .junk), (30, .junk), (31, .junk), (32, .junk), (33, .junk), (34, .junk), (35, .junk), (36, .junk), (37, .junk), (38, .junk), (39, .junk), (40, .junk)]), 0, 0, by kernel_rfl, H, by first | omega | (simp; omega) | simp, by first | omega | (simp; omega) | simp, by first | omega | (simp; omega) | simp, by first | omega | (simp; omega) | simp, by first | omega | (simp; omega) | simp, by first | omega | (simp; omega) | simp, by first | omega | (simp; omega) | simp, rfl⟩ ?_
 clear H
 intro zz1275 lf st1275 hI1275 Q1275 hN1275 hE1275 hX1275
 obtain ⟨xs1275, v1289, v1291, rfl, H, hi1275_3, hi1275_4, hi1275_5, hi1275_6, hi1275_7, hi1275_9, hi1275_10, hz1275⟩ := hI1275
 refine wl_tail ?_
 refine wl_assoc ?_
 refine wl_ops ?_
 refine wr_run 1 [(18, (.bool (decide ((v1291 : Int) < ((C.Copies.length : Int) : Int)))))] (by kernel_rfl) ?_
 refine wr_done ?_
 refine wl_assoc ?_
 refine wl_cond (decide ((v1291 : Int) < ((C.Copies.length : Int) : Int))) (by kernel_rfl) (fun c1360 => ?_) (fun c1360 => ?_)
 ·skip
  have c1360' : (v1291 : Int) < (C.Copies.length : Int) := of_decide_eq_true c1360
  refine wl_skip_seq ?_
  refine wl_assoc ?_
  refine wl_block fun Q1361 hN1361 hE1361 hX1361 => ?_
  refine wl_tail ?_
  refine wl_assoc ?_
  refine wl_ops ?_
  refine wr_run 2 [(19, (.int (v1291))), (8, (.int (v1291)))] (by kernel_rfl) ?_
  refine wr_done ?_
  refine wl_assoc ?_
  refine wl_ops ?_
  refine wr_run 4 [(20, (.ptr c 0)), (21, (.int (p))), (22, (.ptr c 0)), (23, (.ptr c 6))] (by kernel_rfl) ?_
  refine wr_iaddra c 6 (by kernel_rfl) (p) (by kernel_rfl) (by omega) (by kernel_rfl) ?_
  have han1362 : p = 0 ∨ p = 1 ∨ p = 2 := by omega
  obtain ⟨n1362, hn1362, hon1362⟩ : ∃ y : Int, getCells [(.int (C.Words)), (.int (C.Facts)), (lst .any encS C.People), (.int (C.Last)), (lst .any encCopy C.Copies), (lst .any encRule C.Rules), (.int (v0)), (.int (v1)), (.int (v2)), (.map tm)] false 1 (6 + (p : Int).toNat * 1) = some ((fun y : Int => .int y) y) ∧ (y = v0 ∨ y = v1 ∨ y = v2) := by
   rcases han1362 with e | e | e
   ·rw [e]; exact ⟨v0, by kernel_rfl, by simp⟩
   ·rw [e]; exact ⟨v1, by kernel_rfl, by simp⟩
   ·rw [e]; exact ⟨v2, by kernel_rfl, by simp⟩
  have hrn1362 : -9223372036854775808 ≤ n1362 ∧ n1362 ≤ 9223372036854775807 := by omega
  clear hon1362
  clear han1362
  refine wr_load H 0 c (6 + (p : Int).toNat * 1) _ false rfl (by kernel_rfl) (.int (n1362)) hn1362 (by kernel_rfl) ?_
  refine wr_run 1 [(26, (.int (v1291)))] (by kernel_rfl) ?_
  refine wr_pureX (fun y => .int y) _ (ev_int (.int (n1362)) (.int (v1291)) (by kernel_rfl) (by kernel_rfl) (bx_shr _ _ (by omega))) (by kernel_rfl) (by kernel_rfl) fun n1363 hn1363 => ?_
  replace hn1363 := hn1363 (by unfold I64; omega)
  unfold I64 at hn1363
  refine wr_pureX (fun y => .int y) _ (ev_int (.int (n1363)) (.int (1)) (by kernel_rfl) (by kernel_rfl) (bx_and _ _)) (by kernel_rfl) (by kernel_rfl) fun n1364 hn1364 => ?_
  unfold I64 at hn1364
  refine wr_run 2 [(29, (.bool ((n1364 : Int) == (1 : Int)))), (30, (.bool ((n1364 : Int) == (1 : Int))))] (by kernel_rfl) ?_
  refine wr_case 30 ((n1364 : Int) == (1 : Int)) (by kernel_rfl) (fun c1365 => ?_) (fun c1365 => ?_) (by kernel_rfl)
  ·skip
   have c1365' : (n1364 : Int) = 1 := by simpa using c1365
   refine wr_run 3 [(31, (.fn 72 [(.ptr c 0)] [])), (32, (.int (v1291))), (33, (.int (w)))] (by kernel_rfl) ?_
   refine wr_guard (by kernel_rfl) ?_
   refine wr_callv (.fn 72 [(.ptr c 0)] []) (by kernel_rfl) [(.int (v1291)), (.int (w))] (by kernel_rfl) (by kernel_rfl) (WF.mono (worded_ok C c v0 v1 v2 tm v1291 w _ (H.fact 0 rfl) (by omega) (by omega) (by omega) (by omega)) ?_)
   rintro r1366 st1367 ⟨b1368, rfl, E1369⟩
   replace H := H.then E1369
   refine wr_run 1 [(35, (.bool (b1368)))] (by kernel_rfl) ?_
   refine wr_done ?_
   refine wl_cond (b1368) (by kernel_rfl) (fun c1371 => ?_) (fun c1371 => ?_)
   ·skip
    refine wl_ops ?_
    refine wr_run 2 [(36, (.int (v1289))), (37, (.int (v1291)))] (by kernel_rfl) ?_
    refine wr_pureX (fun y => .int y) _ (ev_int (.int (1)) (.int (v1291)) (by kernel_rfl) (by kernel_rfl) (bx_shl _ _ (by omega))) (by kernel_rfl) (by kernel_rfl) fun n1372 hn1372 => ?_
    unfold I64 at hn1372
    refine wr_pureX (fun y => .int y) _ (ev_int (.int (v1289)) (.int (n1372)) (by kernel_rfl) (by kernel_rfl) (bx_or _ _)) (by kernel_rfl) (by kernel_rfl) fun n1373 hn1373 => ?_
    unfold I64 at hn1373
    refine wr_run 1 [(6, (.int (n1373)))] (by kernel_rfl) ?_
    refine wr_done ?_
    refine wl_skip ?_
    refine hN1361 _ _ ?_
    refine wl_ops ?_
    refine wr_bin (.int (v1291)) (.int (1)) (.int (v1291 + 1)) (by kernel_rfl) (by kernel_rfl) (add64e _ (by unfold I64; omega)) (by kernel_rfl) ?_
    refine wr_run 1 [(17, (.int (v1291 + 1)))] (by kernel_rfl) ?_
    refine wr_done ?_
    refine wl_skip ?_
    refine hN1275 _ _ _ ⟨(LX [(8, (.int (v1291))), (18, (.bool (decide ((v1291 : Int) < ((C.Copies.length : Int) : Int))))), (19, (.int (v1291))), (20, (.ptr c 0)), (21, (.int (p))), (22, (.ptr c 0)), (23, (.ptr c 6)), (24, (.ptr c (6 + (p : Int).toNat * 1))), (25, (.int (n1362))), (26, (.int (v1291))), (27, (.int (n1363))), (28, (.int (n1364))), (29, (.bool ((n1364 : Int) == (1 : Int)))), (30, (.bool (true))), (31, (.fn 72 [(.ptr c 0)] [])), (32, (.int (v1291))), (33, (.int (w))), (34, (.bool (b1368))), (35, (.bool (b1368))), (36, (.int (v1289))), (37, (.int (v1291))), (38, (.int (n1372))), (39, (.int (n1373))), (40, (.int (v1291 + 1)))]), n1373, v1291 + 1, by kernel_rfl, H, by first | omega | (simp; omega) | simp, by first | omega | (simp; omega) | simp, by first | omega | (simp; omega) | simp, by first | omega | (simp; omega) | simp, by first | omega | (simp; omega) | simp, by first | omega | (simp; omega) | simp, by first | omega | (simp; omega) | simp, rfl⟩ (by first | omega | (simp only; omega))
   ·skip
    refine wl_skip_seq ?_
    refine wl_skip ?_
    refine hN1361 _ _ ?_
    refine wl_ops ?_
    refine wr_bin (.int (v1291)) (.int (1)) (.int (v1291 + 1)) (by kernel_rfl) (by kernel_rfl) (add64e _ (by unfold I64; omega)) (by kernel_rfl) ?_
    refine wr_run 1 [(17, (.int (v1291 + 1)))] (by kernel_rfl) ?_
    refine wr_done ?_
    refine wl_skip ?_
    refine hN1275 _ _ _ ⟨(LX [(8, (.int (v1291))), (18, (.bool (decide ((v1291 : Int) < ((C.Copies.length : Int) : Int))))), (19, (.int (v1291))), (20, (.ptr c 0)), (21, (.int (p))), (22, (.ptr c 0)), (23, (.ptr c 6)), (24, (.ptr c (6 + (p : Int).toNat * 1))), (25, (.int (n1362))), (26, (.int (v1291))), (27, (.int (n1363))), (28, (.int (n1364))), (29, (.bool ((n1364 : Int) == (1 : Int)))), (30, (.bool (true))), (31, (.fn 72 [(.ptr c 0)] [])), (32, (.int (v1291))), (33, (.int (w))), (34, (.bool (b1368))), (35, (.bool (b1368))), (36, (xs1275 36)), (37, (xs1275 37)), (38, (xs1275 38)), (39, (xs1275 39)), (40, (.int (v1291 + 1)))]), v1289, v1291 + 1, by kernel_rfl, H, by first | omega | (simp; omega) | simp, by first | omega | (simp; omega) | simp, by first | omega | (simp; omega) | simp, by first | omega | (simp; omega) | simp, by first | omega | (simp; omega) | simp, by first | omega | (simp; omega) | simp, by first | omega | (simp; omega) | simp, rfl⟩ (by first | omega | (simp only; omega))
  ·skip
   have c1365' : ¬ ((n1364 : Int) = 1) := by simpa using c1365
   refine wr_run 5 [(31, (.tup [])), (32, (.tup [])), (33, (.tup [])), (34, (.tup [])), (35, (.bool (false)))] (by kernel_rfl) ?_
   refine wr_done ?_
   refine wl_cond false (by kernel_rfl) (fun c1374 => by cases c1374) (fun c1374 => ?_)
   clear c1374
   refine wl_skip_seq ?_
   refine wl_skip ?_
   refine hN1361 _ _ ?_
   refine wl_ops ?_
   refine wr_bin (.int (v1291)) (.int (1)) (.int (v1291 + 1)) (by kernel_rfl) (by kernel_rfl) (add64e _ (by unfold I64; omega)) (by kernel_rfl) ?_
   refine wr_run 1 [(17, (.int (v1291 + 1)))] (by kernel_rfl) ?_
   refine wr_done ?_
   refine wl_skip ?_
   refine hN1275 _ _ _ ⟨(LX [(8, (.int (v1291))), (18, (.bool (decide ((v1291 : Int) < ((C.Copies.length : Int) : Int))))), (19, (.int (v1291))), (20, (.ptr c 0)), (21, (.int (p))), (22, (.ptr c 0)), (23, (.ptr c 6)), (24, (.ptr c (6 + (p : Int).toNat * 1))), (25, (.int (n1362))), (26, (.int (v1291))), (27, (.int (n1363))), (28, (.int (n1364))), (29, (.bool ((n1364 : Int) == (1 : Int)))), (30, (.bool (false))), (31, (.tup [])), (32, (.tup [])), (33, (.tup [])), (34, (.tup [])), (35, (.bool (false))), (36, (xs1275 36)), (37, (xs1275 37)), (38, (xs1275 38)), (39, (xs1275 39)), (40, (.int (v1291 + 1)))]), v1289, v1291 + 1, by kernel_rfl, H, by first | omega | (simp; omega) | simp, by first | omega | (simp; omega) | simp, by first | omega | (simp; omega) | simp, by first | omega | (simp; omega) | simp, by first | omega | (simp; omega) | simp, by first | omega | (simp; omega) | simp, by first | omega | (simp; omega) | simp, rfl⟩ (by first | omega | (simp only; omega))
 ·skip
  have c1360' : ¬ ((v1291 : Int) < (C.Copies.length : Int)) := of_decide_eq_false c1360
  refine wl_exit ?_
  refine hE1275 _ _ ?_
  refine wl_assoc ?_
  refine wl_ops ?_
  refine wr_run 2 [(41, (.int (v1289))), (6, (.int (v1289)))] (by kernel_rfl) ?_
  refine wr_done ?_
  refine wl_ret ?_
  refine post_i (Or.inr rfl) (.int (v1289)) (by kernel_rfl) ?_
  exact ⟨v1289, rfl, by first | omega | (simp; omega) | simp, H.ext' (List.forall_mem_cons.2 ⟨(fun _ => hc_c), (by simp)⟩)⟩

set_option maxHeartbeats 4000000 in
theorem lost_ok (C : ChChest) (st : St) (hp : (C.People.length : Int) ≤ 1048576) (hc : (C.Copies.length : Int) ≤ 1048576) (hr : (C.Rules.length : Int) ≤ 1048576) : WF Try.prog 12 [(.agg [(.int (C.Words)), (.int (C.Facts)), (lst .any encS C.People), (.int (C.Last)), (lst .any encCopy C.Copies), (lst .any encRule C.Rules)])] st fun r st' => ∃ (own1375 : EF.Own) (l1376 : List Int) (e1377 : Int), r = (.tup [(lst own1375 encI l1376), (.int (e1377))]) ∧ ((l1376.length : Int) ≤ 1048576) ∧ (Grown st st' (own1375, 1) ∧ (own1375 = .exact → l1376 = [])) ∧ Ext st st' := by
 refine wf_L c12 rfl ?_
 have H := SP.start st
 refine wl_tail ?_
 refine wl_assoc ?_
 refine wl_ops ?_
 refine wr_box (.agg [(.int (C.Words)), (.int (C.Facts)), (lst .any encS C.People), (.int (C.Last)), (lst .any encCopy C.Copies), (lst .any encRule C.Rules)]) (by kernel_rfl) [(.int (C.Words)), (.int (C.Facts)), (lst .any encS C.People), (.int (C.Last)), (lst .any encCopy C.Copies), (lst .any encRule C.Rules)] (by kernel_rfl) (by kernel_rfl) H (by kernel_rfl) fun a1378 st1379 H => ?_
 refine wr_run 2 [(2, (.list .exact [] 0)), (3, (.int (0)))] (by kernel_rfl) ?_
 refine wr_done ?_
 refine wl_assoc ?_
 refine wl_assoc ?_
 refine wl_ops ?_
 refine wr_load H 0 a1378 0 _ true rfl (by kernel_rfl) (.agg [(.int (C.Words)), (.int (C.Facts)), (lst .any encS C.People), (.int (C.Last)), (lst .any encCopy C.Copies), (lst .any encRule C.Rules)]) (by kernel_rfl) (by kernel_rfl) ?_
 refine wr_call [(.agg [(.int (C.Words)), (.int (C.Facts)), (lst .any encS C.People), (.int (C.Last)), (lst .any encCopy C.Copies), (lst .any encRule C.Rules)]), (.list .exact [] 0)] (by kernel_rfl) (by kernel_rfl) (WF.mono (enter_ok C .exact ([]) _ (by first | omega | simp | (simp; omega)) (by first | omega | simp | (simp; omega)) (by first | omega | simp | (simp; omega)) (by first | omega | simp | (simp; omega))) ?_)
 rintro r1380 st1381 (⟨e1382, rfl, hf1393, E1391⟩ | ⟨a1383, tm1384, v1385, v1386, v1387, es1388, k1389, rfl, hf1396, hf1397, hf1398, hf1399, hf1400, hf1401, hf1402, hf1403, hf1404, hf1405, hf1406, hm1390, W1395, E1394⟩)
 ·skip
  replace H := H.then E1391
  refine wr_run 4 [(6, (.tup [(.v (.pointer none)), (.int (e1382))])), (9, (.v (.pointer none))), (10, (.int (e1382))), (3, (.int (e1382)))] (by kernel_rfl) ?_
  refine wr_done ?_
  refine wl_assoc ?_
  refine wl_ops ?_
  refine wr_run 2 [(11, (.int (e1382))), (12, (.bool ((e1382 : Int) != (0 : Int))))] (by kernel_rfl) ?_
  refine wr_done ?_
  refine wl_cond ((e1382 : Int) != (0 : Int)) (by kernel_rfl) (fun c1407 => ?_) (fun c1407 => ?_)
  ·skip
   have c1407' : ¬ ((e1382 : Int) = 0) := by simpa using c1407
   refine wl_assoc ?_
   refine wl_ops ?_
   refine wr_run 3 [(13, (.int (e1382))), (2, (.list .exact [] 0)), (3, (.int (e1382)))] (by kernel_rfl) ?_
   refine wr_done ?_
   refine wl_ret ?_
   refine post_i (Or.inr rfl) (.tup [(.list .exact [] 0), (.int (e1382))]) (by kernel_rfl) ?_
   exact ⟨.exact, [], e1382, rfl, by first | omega | (simp; omega) | simp, ⟨True.intro, fun _ => rfl⟩, H.ext rfl⟩
  ·skip
   have c1407' : (e1382 : Int) = 0 := by simpa using c1407
   exfalso; omega
 ·skip
  replace H : SP st [⟨a1383, .cells [(.int (C.Words)), (.int (C.Facts)), (lst .any encS C.People), (.int (C.Last)), (lst .any encCopy C.Copies), (lst .any encRule C.Rules), (.int (v1385)), (.int (v1386)), (.int (v1387)), (.map tm1384)], true⟩, ⟨tm1384, .map es1388 k1389, true⟩, ⟨a1378, .cells [(.int (C.Words)), (.int (C.Facts)), (lst .any encS C.People), (.int (C.Last)), (lst .any encCopy C.Copies), (lst .any encRule C.Rules)], true⟩] [] st1381 := H.addnew E1394 W1395
  refine wr_run 4 [(6, (.tup [(.ptr a1383 0), (.int (0))])), (9, (.ptr a1383 0)), (10, (.int (0))), (3, (.int (0)))] (by kernel_rfl) ?_
  refine wr_done ?_
  refine wl_assoc ?_
  refine wl_ops ?_
  refine wr_run 2 [(11, (.int (0))), (12, (.bool (false)))] (by kernel_rfl) ?_
  refine wr_done ?_
  refine wl_cond false (by kernel_rfl) (fun c1408 => by cases c1408) (fun c1408 => ?_)
  clear c1408
  refine wl_skip_seq ?_
  refine wl_assoc ?_
  refine wl_ops ?_
  refine wr_run 1 [(14, (.ptr a1378 4))] (by kernel_rfl) ?_
  refine wr_load H 2 a1378 4 _ true rfl (by kernel_rfl) (lst .any encCopy C.Copies) (by kernel_rfl) (by kernel_rfl) ?_
  refine wr_run 1 [(16, (.int ((C.Copies.length : Int))))] (by kernel_rfl) ?_
  refine wr_mksliceX encCopy_len (⟨(0 : Int), (0 : Int), (0 : Int), (0 : Int)⟩ : ChCopy) rfl ((C.Copies.length : Int)) (by kernel_rfl) (by kernel_rfl) (by omega) H (by kernel_rfl) fun a1409 st1410 l1411 n1412 hn1412 H => ?_
  refine wr_run 1 [(4, (.ms a1409 0 n1412 n1412))] (by kernel_rfl) ?_
  refine wr_done ?_
  refine wl_assoc ?_
  refine wl_ops ?_
  refine wr_run 2 [(18, (.ms a1409 0 n1412 n1412)), (19, (.ptr a1378 4))] (by kernel_rfl) ?_
  refine wr_load H 3 a1378 4 _ true rfl (by kernel_rfl) (lst .any encCopy C.Copies) (by kernel_rfl) (by kernel_rfl) ?_
  refine wr_copyX encCopy_len encCopy_one H 0 a1409 l1411 true rfl 0 n1412 n1412 (by kernel_rfl) .any C.Copies (by kernel_rfl) (by omega) (by kernel_rfl) fun st1413 l1414 n1415 hn1415 H => ?_
  refine wr_done ?_
  refine wl_assoc ?_
  refine wl_assoc ?_
  refine wl_ops ?_
  refine wr_run 1 [(22, (.ptr a1378 3))] (by kernel_rfl) ?_
  refine wr_load H 3 a1378 3 _ true rfl (by kernel_rfl) (.int (C.Last)) (by kernel_rfl) (by kernel_rfl) ?_
  refine wr_run 1 [(24, (.int (0)))] (by kernel_rfl) ?_
  refine wr_done ?_
  replace H := H.grow 1
  refine wl_loop (σ := Nat) (fun (zz : Nat) (lf : List AV) (st' : St) => ∃ (xs1416 : Nat → AV) (k1450 : Nat) (n1451 : Nat) (c1452 : Nat) (v1454 : Int) (own1472 : EF.Own) (l1473 : List Int), lf = [(.agg [(.int (C.Words)), (.int (C.Facts)), (lst .any encS C.People), (.int (C.Last)), (lst .any encCopy C.Copies), (lst .any encRule C.Rules)]), (.ptr a1378 0), (lst own1472 encI l1473), (.int (0)), (.ms a1409 (k1450 * 4) n1451 c1452), (xs1416 5), (.tup [(.ptr a1383 0), (.int (0))]), (.agg [(.int (C.Words)), (.int (C.Facts)), (lst .any encS C.People), (.int (C.Last)), (lst .any encCopy C.Copies), (lst .any encRule C.Rules)]), (.tup [(.ptr a1383 0), (.int (0))]), (.ptr a1383 0), (.int (0)), (.int (0)), (.bool (false)), .junk, (.ptr a1378 4), (lst .any encCopy C.Copies), (.int ((C.Copies.length : Int))), (.ms a1409 0 n1412 n1412), (.ms a1409 0 n1412 n1412), (.ptr a1378 4), (lst .any encCopy C.Copies), (.int (n1415)), (.ptr a1378 3), (.int (C.Last)), (.int (v1454)), (xs1416 25), (xs1416 26), (xs1416 27), (xs1416 28), (xs1416 29), (xs1416 30), (xs1416 31), (xs1416 32), (xs1416 33), (xs1416 34), (xs1416 35), (xs1416 36), (xs1416 37), (xs1416 38), (xs1416 39), (xs1416 40), (xs1416 41), (xs1416 42), (xs1416 43), (xs1416 44), (xs1416 45), (xs1416 46), .junk] ∧ SP st [⟨a1409, .cells (l1414.flatMap encCopy), true⟩, ⟨a1383, .cells [(.int (C.Words)), (.int (C.Facts)), (lst .any encS C.People), (.int (C.Last)), (lst .any encCopy C.Copies), (lst .any encRule C.Rules), (.int (v1385)), (.int (v1386)), (.int (v1387)), (.map tm1384)], true⟩, ⟨tm1384, .map es1388 k1389, true⟩, ⟨a1378, .cells [(.int (C.Words)), (.int (C.Facts)), (lst .any encS C.People), (.int (C.Last)), (lst .any encCopy C.Copies), (lst .any encRule C.Rules)], true⟩] [(own1472, 1)] st' ∧ (0 ≤ v1454) ∧ (0 ≤ v1454) ∧ (-1 ≤ v1454) ∧ (-9223372036854775808 ≤ v1454 ∧ v1454 ≤ 9223372036854775807) ∧ (v1454 ≤ C.Last) ∧ (v1454 ≤ 30) ∧ ((l1473.length : Int) ≤ v1454) ∧ (∀ x ∈ l1473, 0 ≤ x) ∧ ((c1452 : Int) + (k1450 : Int) ≤ (l1414.length : Int)) ∧ ((n1451 : Int) ≤ (c1452 : Int)) ∧ MapOK KInt (fun x => ∃ n : Int, x = .int n ∧ (-9223372036854775808 ≤ n ∧ n ≤ 9223372036854775807)) es1388 ∧ (own1472 = .exact → l1473 = []) ∧ zz = (-v1454 + 9223372036854775808).toNat) (fun z => z) _ ⟨(LX [(5, .junk), (25, .junk), (26, .junk), (27, .junk), (28, .junk), (29, .junk), (30, .junk), (31, .junk), (32, .junk), (33, .junk), (34, .junk), (35, .junk), (36, .junk), (37, .junk), (38, .junk), (39, .junk), (40, .junk), (41, .junk), (42, .junk), (43, .junk), (44, .junk), (45, .junk), (46, .junk)]), 0, n1412, n1412, 0, .exact, ([] : List Int), by kernel_rfl, H, by first | omega | (simp; omega) | simp, by first | omega | (simp; omega) | simp, by first | omega | (simp; omega) | simp, by first | omega | (simp; omega) | simp, by first | omega | (simp; omega) | simp, by first | omega | (simp; omega) | simp, by first | omega | (simp; omega) | simp, (by simp), by first | omega | (simp; omega) | simp, by first | omega | (simp; omega) | simp, hm1390, (fun _ => rfl), rfl⟩ ?_
  clear H
  intro zz1416 lf st1416 hI1416 Q1416 hN1416 hE1416 hX1416
  obtain ⟨xs1416, k1450, n1451, c1452, v1454, own1472, l1473, rfl, H, hi1416_0, hi1416_1, hi1416_2, hi1416_3, hi1416_5, hi1416_9, hi1416_10, hp1416_11, hi1416_12, hi1416_13, hm1390, hx_l1473, hz1416⟩ := hI1416
  refine wl_tail ?_
  refine wl_assoc ?_
  refine wl_ops ?_
  refine wr_run 1 [(25, (.bool (decide ((v1454 : Int) < (C.Last : Int)))))] (by kernel_rfl) ?_
  refine wr_done ?_
  refine wl_assoc ?_
  refine wl_cond (decide ((v1454 : Int) < (C.Last : Int))) (by kernel_rfl) (fun c1509 => ?_) (fun c1509 => ?_)
  ·skip
   have c1509' : (v1454 : Int) < C.Last := of_decide_eq_true c1509
   refine wl_skip_seq ?_
   refine wl_assoc ?_
   refine wl_block fun Q1510 hN1510 hE1510 hX1510 => ?_
   refine wl_tail ?_
   refine wl_assoc ?_
   refine wl_ops ?_
   refine wr_run 2 [(26, (.int (v1454))), (5, (.int (v1454)))] (by kernel_rfl) ?_
   refine wr_done ?_
   refine wl_assoc ?_
   refine wl_assoc ?_
   refine wl_ops ?_
   refine wr_run 4 [(27, (.ms a1409 (k1450 * 4) n1451 c1452)), (28, (.int ((n1451 : Int)))), (29, (.bool (decide (((n1451 : Int) : Int) > (0 : Int))))), (30, (.bool (decide (((n1451 : Int) : Int) > (0 : Int)))))] (by kernel_rfl) ?_
   refine wr_case 30 (decide (((n1451 : Int) : Int) > (0 : Int))) (by kernel_rfl) (fun c1511 => ?_) (fun c1511 => ?_) (by kernel_rfl)
   ·skip
    have c1511' : ((n1451 : Int) : Int) > 0 := of_decide_eq_true c1511
    refine wr_run 1 [(31, (.ms a1409 (k1450 * 4) n1451 c1452))] (by kernel_rfl) ?_
    refine wr_guard (by kernel_rfl) ?_
    refine wr_iaddrm a1409 (k1450 * 4) n1451 c1452 (by kernel_rfl) (0) (by kernel_rfl) (by omega) (by kernel_rfl) ?_
    refine wr_run 1 [(33, (.ptr a1409 ((k1450 * 4) + (0 : Int).toNat * 4)))] (by kernel_rfl) ?_
    refine wr_guard (by kernel_rfl) ?_
    obtain ⟨y1512, hy1512⟩ : ∃ y, l1414[(k1450 + (0 : Int).toNat)]? = some y := ⟨_, List.getElem?_eq_getElem (by omega)⟩
    refine wr_op (.int (y1512.Number)) (ev_loadV encCopy_len H 0 a1409 l1414 true rfl k1450 (0 : Int).toNat 0 (by kernel_rfl) y1512 hy1512 (.int (y1512.Number)) (by kernel_rfl) (by decide) (by decide)) rfl (by kernel_rfl) ?_
    refine wr_run 1 [(35, (.int (v1454)))] (by kernel_rfl) ?_
    refine wr_guard (by kernel_rfl) ?_
    refine wr_bin (.int (v1454)) (.int (1)) (.int (v1454 + 1)) (by kernel_rfl) (by kernel_rfl) (add64e _ (by unfold I64; omega)) (by kernel_rfl) ?_
    refine wr_run 2 [(37, (.bool ((y1512.Number : Int) == (v1454 + 1 : Int)))), (38, (.bool ((y1512.Number : Int) == (v1454 + 1 : Int))))] (by kernel_rfl) ?_
    refine wr_done ?_
    refine wl_cond ((y1512.Number : Int) == (v1454 + 1 : Int)) (by kernel_rfl) (fun c1513 => ?_) (fun c1513 => ?_)
    ·skip
     have c1513' : (y1512.Number : Int) = v1454 + 1 := by simpa using c1513
     refine wl_assoc ?_
     refine wl_ops ?_
     refine wr_run 1 [(39, (.ms a1409 (k1450 * 4) n1451 c1452))] (by kernel_rfl) ?_
     refine wr_sliceM a1409 k1450 n1451 c1452 (by kernel_rfl) (1) ((n1451 : Int)) (by show _ = _; kernel_rfl) rfl (by omega) (by kernel_rfl) fun k1514 n1515 c1516 hk1514 => ?_
     refine wr_run 1 [(4, (.ms a1409 (k1514 * 4) n1515 c1516))] (by kernel_rfl) ?_
     refine wr_done ?_
     refine wl_exit ?_
     refine hE1510 _ _ ?_
     refine wl_ops ?_
     refine wr_bin (.int (v1454)) (.int (1)) (.int (v1454 + 1)) (by kernel_rfl) (by kernel_rfl) (add64e _ (by unfold I64; omega)) (by kernel_rfl) ?_
     refine wr_run 1 [(24, (.int (v1454 + 1)))] (by kernel_rfl) ?_
     refine wr_done ?_
     refine wl_skip ?_
     refine hN1416 _ _ _ ⟨(LX [(5, (.int (v1454))), (25, (.bool (decide ((v1454 : Int) < (C.Last : Int))))), (26, (.int (v1454))), (27, (.ms a1409 (k1450 * 4) n1451 c1452)), (28, (.int ((n1451 : Int)))), (29, (.bool (decide (((n1451 : Int) : Int) > (0 : Int))))), (30, (.bool (true))), (31, (.ms a1409 (k1450 * 4) n1451 c1452)), (32, (.ptr a1409 ((k1450 * 4) + (0 : Int).toNat * 4))), (33, (.ptr a1409 ((k1450 * 4) + (0 : Int).toNat * 4))), (34, (.int (y1512.Number))), (35, (.int (v1454))), (36, (.int (v1454 + 1))), (37, (.bool ((y1512.Number : Int) == (v1454 + 1 : Int)))), (38, (.bool ((y1512.Number : Int) == (v1454 + 1 : Int)))), (39, (.ms a1409 (k1450 * 4) n1451 c1452)), (40, (.ms a1409 (k1514 * 4) n1515 c1516)), (41, (xs1416 41)), (42, (xs1416 42)), (43, (xs1416 43)), (44, (xs1416 44)), (45, (xs1416 45)), (46, (.int (v1454 + 1)))]), k1514, n1515, c1516, v1454 + 1, own1472, l1473, by kernel_rfl, H, by first | omega | (simp; omega) | simp, by first | omega | (simp; omega) | simp, by first | omega | (simp; omega) | simp, by first | omega | (simp; omega) | simp, by first | omega | (simp; omega) | simp, by first | omega | (simp; omega) | simp, by first | omega | (simp; omega) | simp, hp1416_11, by first | omega | (simp; omega) | simp, by first | omega | (simp; omega) | simp, hm1390, hx_l1473, rfl⟩ (by first | omega | (simp only; omega))
    ·skip
     have c1513' : ¬ ((y1512.Number : Int) = v1454 + 1) := by simpa using c1513
     refine wl_skip_seq ?_
     refine wl_ops ?_
     refine wr_run 2 [(41, (lst own1472 encI l1473)), (42, (.int (v1454)))] (by kernel_rfl) ?_
     refine wr_bin (.int (v1454)) (.int (1)) (.int (v1454 + 1)) (by kernel_rfl) (by kernel_rfl) (add64e _ (by unfold I64; omega)) (by kernel_rfl) ?_
     refine wr_run 1 [(44, (lst .exact encI [v1454 + 1]))] (by kernel_rfl) ?_
     refine wr_appendX encI_len encI_one H rfl 0 own1472 rfl l1473 [v1454 + 1] (by kernel_rfl) .exact (by kernel_rfl) hx_l1473 (by first | omega | (simp; done) | (simp; omega)) rfl (by kernel_rfl) fun own1517 l1519 st1518 hl1519 el1519 hx_l1519 H => ?_
     simp only [List.length_cons, List.length_nil] at hl1519
     refine wr_run 1 [(2, (lst own1517 encI l1519))] (by kernel_rfl) ?_
     refine wr_done ?_
     refine wl_skip ?_
     refine hN1510 _ _ ?_
     refine wl_ops ?_
     refine wr_bin (.int (v1454)) (.int (1)) (.int (v1454 + 1)) (by kernel_rfl) (by kernel_rfl) (add64e _ (by unfold I64; omega)) (by kernel_rfl) ?_
     refine wr_run 1 [(24, (.int (v1454 + 1)))] (by kernel_rfl) ?_
     refine wr_done ?_
     refine wl_skip ?_
     refine hN1416 _ _ _ ⟨(LX [(5, (.int (v1454))), (25, (.bool (decide ((v1454 : Int) < (C.Last : Int))))), (26, (.int (v1454))), (27, (.ms a1409 (k1450 * 4) n1451 c1452)), (28, (.int ((n1451 : Int)))), (29, (.bool (decide (((n1451 : Int) : Int) > (0 : Int))))), (30, (.bool (true))), (31, (.ms a1409 (k1450 * 4) n1451 c1452)), (32, (.ptr a1409 ((k1450 * 4) + (0 : Int).toNat * 4))), (33, (.ptr a1409 ((k1450 * 4) + (0 : Int).toNat * 4))), (34, (.int (y1512.Number))), (35, (.int (v1454))), (36, (.int (v1454 + 1))), (37, (.bool ((y1512.Number : Int) == (v1454 + 1 : Int)))), (38, (.bool ((y1512.Number : Int) == (v1454 + 1 : Int)))), (39, (xs1416 39)), (40, (xs1416 40)), (41, (lst own1472 encI l1473)), (42, (.int (v1454))), (43, (.int (v1454 + 1))), (44, (lst .exact encI [v1454 + 1])), (45, (lst own1517 encI l1519)), (46, (.int (v1454 + 1)))]), k1450, n1451, c1452, v1454 + 1, own1517, l1519, by kernel_rfl, H, by first | omega | (simp; omega) | simp, by first | omega | (simp; omega) | simp, by first | omega | (simp; omega) | simp, by first | omega | (simp; omega) | simp, by first | omega | (simp; omega) | simp, by first | omega | (simp; omega) | simp, by first | omega | (simp; omega) | simp, (app_all el1519 hp1416_11 (List.forall_mem_cons.2 ⟨by omega, (by simp)⟩)), by first | omega | (simp; omega) | simp, by first | omega | (simp; omega) | simp, hm1390, hx_l1519, rfl⟩ (by first | omega | (simp only; omega))
   ·skip
    have c1511' : ¬ (((n1451 : Int) : Int) > 0) := of_decide_eq_false c1511
    refine wr_run 8 [(31, (.tup [])), (32, (.tup [])), (33, (.tup [])), (34, (.tup [])), (35, (.tup [])), (36, (.tup [])), (37, (.tup [])), (38, (.bool (false)))] (by kernel_rfl) ?_
    refine wr_done ?_
    refine wl_cond false (by kernel_rfl) (fun c1520 => by cases c1520) (fun c1520 => ?_)
    clear c1520
    refine wl_skip_seq ?_
    refine wl_ops ?_
    refine wr_run 2 [(41, (lst own1472 encI l1473)), (42, (.int (v1454)))] (by kernel_rfl) ?_
    refine wr_bin (.int (v1454)) (.int (1)) (.int (v1454 + 1)) (by kernel_rfl) (by kernel_rfl) (add64e _ (by unfold I64; omega)) (by kernel_rfl) ?_
    refine wr_run 1 [(44, (lst .exact encI [v1454 + 1]))] (by kernel_rfl) ?_
    refine wr_appendX encI_len encI_one H rfl 0 own1472 rfl l1473 [v1454 + 1] (by kernel_rfl) .exact (by kernel_rfl) hx_l1473 (by first | omega | (simp; done) | (simp; omega)) rfl (by kernel_rfl) fun own1521 l1523 st1522 hl1523 el1523 hx_l1523 H => ?_
    simp only [List.length_cons, List.length_nil] at hl1523
    refine wr_run 1 [(2, (lst own1521 encI l1523))] (by kernel_rfl) ?_
    refine wr_done ?_
    refine wl_skip ?_
    refine hN1510 _ _ ?_
    refine wl_ops ?_
    refine wr_bin (.int (v1454)) (.int (1)) (.int (v1454 + 1)) (by kernel_rfl) (by kernel_rfl) (add64e _ (by unfold I64; omega)) (by kernel_rfl) ?_
    refine wr_run 1 [(24, (.int (v1454 + 1)))] (by kernel_rfl) ?_
    refine wr_done ?_
    refine wl_skip ?_
    refine hN1416 _ _ _ ⟨(LX [(5, (.int (v1454))), (25, (.bool (decide ((v1454 : Int) < (C.Last : Int))))), (26, (.int (v1454))), (27, (.ms a1409 (k1450 * 4) n1451 c1452)), (28, (.int ((n1451 : Int)))), (29, (.bool (decide (((n1451 : Int) : Int) > (0 : Int))))), (30, (.bool (false))), (31, (.tup [])), (32, (.tup [])), (33, (.tup [])), (34, (.tup [])), (35, (.tup [])), (36, (.tup [])), (37, (.tup [])), (38, (.bool (false))), (39, (xs1416 39)), (40, (xs1416 40)), (41, (lst own1472 encI l1473)), (42, (.int (v1454))), (43, (.int (v1454 + 1))), (44, (lst .exact encI [v1454 + 1])), (45, (lst own1521 encI l1523)), (46, (.int (v1454 + 1)))]), k1450, n1451, c1452, v1454 + 1, own1521, l1523, by kernel_rfl, H, by first | omega | (simp; omega) | simp, by first | omega | (simp; omega) | simp, by first | omega | (simp; omega) | simp, by first | omega | (simp; omega) | simp, by first | omega | (simp; omega) | simp, by first | omega | (simp; omega) | simp, by first | omega | (simp; omega) | simp, (app_all el1523 hp1416_11 (List.forall_mem_cons.2 ⟨by omega, (by simp)⟩)), by first | omega | (simp; omega) | simp, by first | omega | (simp; omega) | simp, hm1390, hx_l1523, rfl⟩ (by first | omega | (simp only; omega))
  ·skip
   have c1509' : ¬ ((v1454 : Int) < C.Last) := of_decide_eq_false c1509
   refine wl_exit ?_
   refine hE1416 _ _ ?_
   refine wl_assoc ?_
   refine wl_ops ?_
   refine wr_run 3 [(47, (lst own1472 encI l1473)), (2, (lst own1472 encI l1473)), (3, (.int (0)))] (by kernel_rfl) ?_
   refine wr_done ?_
   refine wl_ret ?_
   refine post_i (Or.inr rfl) (.tup [(lst own1472 encI l1473), (.int (0))]) (by kernel_rfl) ?_
   exact ⟨own1472, l1473, 0, rfl, by first | omega | (simp; omega) | simp, ⟨H.tok 0 rfl, hx_l1473⟩, H.ext rfl⟩

set_option maxHeartbeats 4000000 in
theorem Find_ok (C : ChChest) (p : Int) (own : EF.Own) (l : List Int) (st : St) (hp : (C.People.length : Int) ≤ 1048576) (hc : (C.Copies.length : Int) ≤ 1048576) (hr : (C.Rules.length : Int) ≤ 1048576) (hl : (l.length : Int) ≤ 1048576) : WF Try.prog 17 [(.agg [(.int (C.Words)), (.int (C.Facts)), (lst .any encS C.People), (.int (C.Last)), (lst .any encCopy C.Copies), (lst .any encRule C.Rules)]), (.int (p)), (lst own encI l)] st fun r st' => ∃ (own1524 : EF.Own) (l1525 : List Int) (e1526 : Int), r = (.tup [(lst own1524 encI l1525), (.int (e1526))]) ∧ ((l1525.length : Int) ≤ 1048576) ∧ (Grown st st' (own1524, 1) ∧ (own1524 = .exact → l1525 = [])) ∧ Ext st st' := by
 refine wf_L c17 rfl ?_
 have H := SP.start st
 refine wl_tail ?_
 refine wl_assoc ?_
 refine wl_ops ?_
 refine wr_box (.agg [(.int (C.Words)), (.int (C.Facts)), (lst .any encS C.People), (.int (C.Last)), (lst .any encCopy C.Copies), (lst .any encRule C.Rules)]) (by kernel_rfl) [(.int (C.Words)), (.int (C.Facts)), (lst .any encS C.People), (.int (C.Last)), (lst .any encCopy C.Copies), (lst .any encRule C.Rules)] (by kernel_rfl) (by kernel_rfl) H (by kernel_rfl) fun a1527 st1528 H => ?_
 refine wr_run 2 [(6, (.list .exact [] 0)), (7, (.int (0)))] (by kernel_rfl) ?_
 refine wr_done ?_
 refine wl_assoc ?_
 refine wl_ops ?_
 refine wr_load H 0 a1527 0 _ true rfl (by kernel_rfl) (.agg [(.int (C.Words)), (.int (C.Facts)), (lst .any encS C.People), (.int (C.Last)), (lst .any encCopy C.Copies), (lst .any encRule C.Rules)]) (by kernel_rfl) (by kernel_rfl) ?_
 refine wr_run 2 [(13, (.int (p))), (14, (.ptr a1527 2))] (by kernel_rfl) ?_
 refine wr_load H 0 a1527 2 _ true rfl (by kernel_rfl) (lst .any encS C.People) (by kernel_rfl) (by kernel_rfl) ?_
 refine wr_run 2 [(16, (.int ((C.People.length : Int)))), (17, (lst .exact encI [p, (C.People.length : Int)]))] (by kernel_rfl) ?_
 refine wr_call [(.agg [(.int (C.Words)), (.int (C.Facts)), (lst .any encS C.People), (.int (C.Last)), (lst .any encCopy C.Copies), (lst .any encRule C.Rules)]), (lst .exact encI [p, (C.People.length : Int)])] (by kernel_rfl) (by kernel_rfl) (WF.mono (enter_ok C .exact ([p, (C.People.length : Int)]) _ (by first | omega | simp | (simp; omega)) (by first | omega | simp | (simp; omega)) (by first | omega | simp | (simp; omega)) (by first | omega | simp | (simp; omega))) ?_)
 rintro r1529 st1530 (⟨e1531, rfl, hf1542, E1540⟩ | ⟨a1532, tm1533, v1534, v1535, v1536, es1537, k1538, rfl, hf1545, hf1546, hf1547, hf1548, hf1549, hf1550, hf1551, hf1552, hf1553, hf1554, hf1555, hm1539, W1544, E1543⟩)
 ·skip
  replace H := H.then E1540
  refine wr_run 5 [(11, (.tup [(.v (.pointer none)), (.int (e1531))])), (19, (.v (.pointer none))), (20, (.int (e1531))), (8, (.v (.pointer none))), (9, (.int (e1531)))] (by kernel_rfl) ?_
  refine wr_done ?_
  refine wl_assoc ?_
  refine wl_assoc ?_
  refine wl_ops ?_
  refine wr_run 2 [(21, (.int (e1531))), (22, (.bool ((e1531 : Int) != (0 : Int))))] (by kernel_rfl) ?_
  refine wr_done ?_
  refine wl_cond ((e1531 : Int) != (0 : Int)) (by kernel_rfl) (fun c1556 => ?_) (fun c1556 => ?_)
  ·skip
   have c1556' : ¬ ((e1531 : Int) = 0) := by simpa using c1556
   refine wl_assoc ?_
   refine wl_ops ?_
   refine wr_run 3 [(23, (.int (e1531))), (6, (.list .exact [] 0)), (7, (.int (e1531)))] (by kernel_rfl) ?_
   refine wr_done ?_
   refine wl_ret ?_
   refine post_i (Or.inr rfl) (.tup [(.list .exact [] 0), (.int (e1531))]) (by kernel_rfl) ?_
   exact ⟨.exact, [], e1531, rfl, by first | omega | (simp; omega) | simp, ⟨True.intro, fun _ => rfl⟩, H.ext rfl⟩
  ·skip
   have c1556' : (e1531 : Int) = 0 := by simpa using c1556
   exfalso; omega
 ·skip
  have hr1557 := hf1555 0 (p) ((C.People.length : Int)) rfl rfl (by omega)
  replace H : SP st [⟨a1532, .cells [(.int (C.Words)), (.int (C.Facts)), (lst .any encS C.People), (.int (C.Last)), (lst .any encCopy C.Copies), (lst .any encRule C.Rules), (.int (v1534)), (.int (v1535)), (.int (v1536)), (.map tm1533)], true⟩, ⟨tm1533, .map es1537 k1538, true⟩, ⟨a1527, .cells [(.int (C.Words)), (.int (C.Facts)), (lst .any encS C.People), (.int (C.Last)), (lst .any encCopy C.Copies), (lst .any encRule C.Rules)], true⟩] [] st1530 := H.addnew E1543 W1544
  refine wr_run 5 [(11, (.tup [(.ptr a1532 0), (.int (0))])), (19, (.ptr a1532 0)), (20, (.int (0))), (8, (.ptr a1532 0)), (9, (.int (0)))] (by kernel_rfl) ?_
  refine wr_done ?_
  refine wl_assoc ?_
  refine wl_assoc ?_
  refine wl_ops ?_
  refine wr_run 2 [(21, (.int (0))), (22, (.bool (false)))] (by kernel_rfl) ?_
  refine wr_done ?_
  refine wl_cond false (by kernel_rfl) (fun c1558 => by cases c1558) (fun c1558 => ?_)
  clear c1558
  refine wl_skip_seq ?_
  refine wl_assoc ?_
  refine wl_ops ?_
  refine wr_run 2 [(25, (lst own encI l)), (26, (.ptr a1527 0))] (by kernel_rfl) ?_
  refine wr_load H 2 a1527 0 _ true rfl (by kernel_rfl) (.int (C.Words)) (by kernel_rfl) (by kernel_rfl) ?_
  refine wr_call [(lst own encI l), (.int (C.Words))] (by kernel_rfl) (by kernel_rfl) (WF.mono (bits_ok own l C.Words _ (by omega) (by omega)) ?_)
  rintro r1559 st1560 (⟨n1561, e1562, rfl, hf1566, E1564⟩ | ⟨n1563, rfl, hf1569, hf1570, hf1571, E1567⟩)
  ·skip
   replace H := H.then E1564
   refine wr_run 5 [(24, (.tup [(.int (n1561)), (.int (e1562))])), (29, (.int (n1561))), (30, (.int (e1562))), (10, (.int (n1561))), (9, (.int (e1562)))] (by kernel_rfl) ?_
   refine wr_done ?_
   refine wl_assoc ?_
   refine wl_assoc ?_
   refine wl_ops ?_
   refine wr_run 2 [(31, (.int (e1562))), (32, (.bool ((e1562 : Int) != (0 : Int))))] (by kernel_rfl) ?_
   refine wr_done ?_
   refine wl_cond ((e1562 : Int) != (0 : Int)) (by kernel_rfl) (fun c1572 => ?_) (fun c1572 => ?_)
   ·skip
    have c1572' : ¬ ((e1562 : Int) = 0) := by simpa using c1572
    refine wl_assoc ?_
    refine wl_ops ?_
    refine wr_run 3 [(33, (.int (e1562))), (6, (.list .exact [] 0)), (7, (.int (e1562)))] (by kernel_rfl) ?_
    refine wr_done ?_
    refine wl_ret ?_
    refine post_i (Or.inr rfl) (.tup [(.list .exact [] 0), (.int (e1562))]) (by kernel_rfl) ?_
    exact ⟨.exact, [], e1562, rfl, by first | omega | (simp; omega) | simp, ⟨True.intro, fun _ => rfl⟩, H.ext rfl⟩
   ·skip
    have c1572' : (e1562 : Int) = 0 := by simpa using c1572
    exfalso; omega
  ·skip
   replace H := H.then E1567
   refine wr_run 5 [(24, (.tup [(.int (n1563)), (.int (0))])), (29, (.int (n1563))), (30, (.int (0))), (10, (.int (n1563))), (9, (.int (0)))] (by kernel_rfl) ?_
   refine wr_done ?_
   refine wl_assoc ?_
   refine wl_assoc ?_
   refine wl_ops ?_
   refine wr_run 2 [(31, (.int (0))), (32, (.bool (false)))] (by kernel_rfl) ?_
   refine wr_done ?_
   refine wl_cond false (by kernel_rfl) (fun c1573 => by cases c1573) (fun c1573 => ?_)
   clear c1573
   refine wl_skip_seq ?_
   refine wl_assoc ?_
   refine wl_ops ?_
   refine wr_run 3 [(34, (.ptr a1532 0)), (35, (.int (p))), (36, (.int (n1563)))] (by kernel_rfl) ?_
   refine wr_call [(.ptr a1532 0), (.int (p)), (.int (n1563))] (by kernel_rfl) (by kernel_rfl) (WF.mono (find_ok C a1532 v1534 v1535 v1536 tm1533 p n1563 _ (H.fact 0 rfl) (by omega) (by omega) (by omega) (by omega) (by omega) (by omega) (by omega)) ?_)
   rintro r1574 st1575 ⟨n1576, rfl, hf1579, E1577⟩
   replace H := H.then E1577
   refine wr_call [(.int (n1576))] (by kernel_rfl) (by kernel_rfl) (WF.mono (list_ok n1576 _ (by omega)) ?_)
   rintro r1580 st1581 ⟨own1582, l1583, rfl, hf1586, hf1587, hf1588, E1584⟩
   have H1589 := H
   replace H := H.then E1584
   obtain ⟨hg1591, hx1592⟩ := hf1588
   replace H := H.addtok H1589 _ _ hg1591
   refine wr_run 2 [(6, (lst own1582 encI l1583)), (7, (.int (0)))] (by kernel_rfl) ?_
   refine wr_done ?_
   refine wl_ret ?_
   refine post_i (Or.inr rfl) (.tup [(lst own1582 encI l1583), (.int (0))]) (by kernel_rfl) ?_
   exact ⟨own1582, l1583, 0, rfl, by first | omega | (simp; omega) | simp, ⟨H.tok 0 rfl, hx1592⟩, H.ext rfl⟩

set_option maxHeartbeats 4000000 in
theorem tell_ok (C : ChChest) (c : Nat) (v0 : Int) (v1 : Int) (v2 : Int) (tm : Nat) (es : List MEnt) (k : Nat) (n : Int) (st : St) (hc_c : st.get c = some (.cells [(.int (C.Words)), (.int (C.Facts)), (lst .any encS C.People), (.int (C.Last)), (lst .any encCopy C.Copies), (lst .any encRule C.Rules), (.int (v0)), (.int (v1)), (.int (v2)), (.map tm)])) (hc_tm : st.get tm = some (.map es k)) (hnd : [c, tm].Nodup) (hm : MapOK KInt (fun x => ∃ n : Int, x = .int n ∧ (-9223372036854775808 ≤ n ∧ n ≤ 9223372036854775807)) es) (g0 : 1 ≤ C.Words ∧ C.Words ≤ 5) (g1 : 1 ≤ C.Facts ∧ C.Facts ≤ 6) (g2 : 0 ≤ C.Last ∧ C.Last ≤ 30) (g3 : (C.People.length : Int) ≤ 3) (g4 : (C.Copies.length : Int) ≤ 6) (g5 : (C.Rules.length : Int) ≤ 4) (g6 : ∀ x ∈ C.Rules, 0 ≤ x.Then ∧ x.Then ≤ C.Facts - 1) : WF Try.prog 58 [(.ptr c 0), (.int (n))] st fun r st' => ∃ (n1593 : Int) (es1594 : List MEnt) (k1595 : Nat), r = (.int (n1593)) ∧ (-9223372036854775808 ≤ n1593 ∧ n1593 ≤ 9223372036854775807) ∧ MapOK KInt (fun x => ∃ n : Int, x = .int n ∧ (-9223372036854775808 ≤ n ∧ n ≤ 9223372036854775807)) es1594 ∧ Eff [(tm, .map es1594 k1595)] st st' := by
 refine wf_L c58 rfl ?_
 have H : SP st [⟨c, .cells [(.int (C.Words)), (.int (C.Facts)), (lst .any encS C.People), (.int (C.Last)), (lst .any encCopy C.Copies), (lst .any encRule C.Rules), (.int (v0)), (.int (v1)), (.int (v2)), (.map tm)], false⟩, ⟨tm, .map es k, false⟩] [] st := SP.startm _ (List.forall_mem_cons.2 ⟨⟨hc_c, rfl⟩, (List.forall_mem_cons.2 ⟨⟨hc_tm, rfl⟩, (by simp)⟩)⟩) hnd
 refine wl_tail ?_
 refine wl_assoc ?_
 refine wl_ops ?_
 refine wr_run 1 [(4, (.int (0)))] (by kernel_rfl) ?_
 refine wr_done ?_
 refine wl_assoc ?_
 refine wl_assoc ?_
 refine wl_ops ?_
 refine wr_run 3 [(14, (.ptr c 0)), (15, (.ptr c 0)), (16, (.ptr c 9))] (by kernel_rfl) ?_
 refine wr_load H 0 c 9 _ false rfl (by kernel_rfl) (.map tm) (by kernel_rfl) (by kernel_rfl) ?_
 refine wr_run 1 [(18, (.int (n)))] (by kernel_rfl) ?_
 refine wr_lookup2 H 1 tm es k false rfl (by kernel_rfl) (.int (n)) (by kernel_rfl) hm keyTold ⟨_, rfl, _, rfl⟩ ⟨0, rfl, by omega⟩ (by kernel_rfl) fun x1597 b1598 hx1599 => ?_
 obtain ⟨n1600, rfl, hx1599⟩ := hx1599
 refine wr_run 5 [(13, (.tup [(.int (n1600)), (.bool (b1598))])), (20, (.int (n1600))), (21, (.bool (b1598))), (5, (.int (n1600))), (6, (.bool (b1598)))] (by kernel_rfl) ?_
 refine wr_done ?_
 refine wl_assoc ?_
 refine wl_ops ?_
 refine wr_run 1 [(22, (.bool (b1598)))] (by kernel_rfl) ?_
 refine wr_done ?_
 refine wl_cond (b1598) (by kernel_rfl) (fun c1601 => ?_) (fun c1601 => ?_)
 ·skip
  refine wl_assoc ?_
  refine wl_ops ?_
  refine wr_run 2 [(23, (.int (n1600))), (4, (.int (n1600)))] (by kernel_rfl) ?_
  refine wr_done ?_
  refine wl_ret ?_
  refine post_i (Or.inr rfl) (.int (n1600)) (by kernel_rfl) ?_
  exact ⟨n1600, es, k, rfl, by first | omega | (simp; omega) | simp, hm, H.eff _ (List.forall_mem_cons.2 ⟨(fun _ => Or.inr hc_c), (List.forall_mem_cons.2 ⟨(fun _ => Or.inl (by simp)), (by simp)⟩)⟩) (List.forall_mem_cons.2 ⟨⟨_, List.mem_of_getElem? (i := 1) rfl, rfl, rfl⟩, (by simp)⟩)⟩
 ·skip
  refine wl_skip_seq ?_
  refine wl_assoc ?_
  refine wl_ops ?_
  refine wr_run 1 [(7, (.int (0)))] (by kernel_rfl) ?_
  refine wr_done ?_
  refine wl_assoc ?_
  refine wl_assoc ?_
  refine wl_ops ?_
  refine wr_run 4 [(24, (.ptr c 0)), (25, (.ptr c 0)), (26, (.ptr c 0)), (27, (.ptr c 4))] (by kernel_rfl) ?_
  refine wr_load H 0 c 4 _ false rfl (by kernel_rfl) (lst .any encCopy C.Copies) (by kernel_rfl) (by kernel_rfl) ?_
  refine wr_run 2 [(29, (.int ((C.Copies.length : Int)))), (30, (.int (0)))] (by kernel_rfl) ?_
  refine wr_done ?_
  refine wl_loop (σ := Nat) (fun (zz : Nat) (lf : List AV) (st' : St) => ∃ (xs1602 : Nat → AV) (v1613 : Int) (v1616 : Int), lf = [(.ptr c 0), (.int (n)), .junk, .junk, (.int (0)), (.int (n1600)), (.bool (b1598)), (.int (v1613)), (xs1602 8), (xs1602 9), .junk, .junk, .junk, (.tup [(.int (n1600)), (.bool (b1598))]), (.ptr c 0), (.ptr c 0), (.ptr c 9), (.map tm), (.int (n)), (.tup [(.int (n1600)), (.bool (b1598))]), (.int (n1600)), (.bool (b1598)), (.bool (b1598)), .junk, (.ptr c 0), (.ptr c 0), (.ptr c 0), (.ptr c 4), (lst .any encCopy C.Copies), (.int ((C.Copies.length : Int))), (.int (v1616)), (xs1602 31), (xs1602 32), (xs1602 33), (xs1602 34), (xs1602 35), (xs1602 36), (xs1602 37), (xs1602 38), (xs1602 39), (xs1602 40), (xs1602 41), (xs1602 42), (xs1602 43), (xs1602 44), .junk, .junk, .junk, .junk, .junk, .junk, .junk, .junk, .junk, .junk, .junk, .junk, .junk, .junk, .junk, .junk, .junk, .junk, .junk, .junk, .junk, .junk, .junk, .junk, .junk, .junk, .junk, .junk, .junk, .junk, .junk, .junk, .junk, .junk, .junk, .junk, .junk] ∧ SP st [⟨c, .cells [(.int (C.Words)), (.int (C.Facts)), (lst .any encS C.People), (.int (C.Last)), (lst .any encCopy C.Copies), (lst .any encRule C.Rules), (.int (v0)), (.int (v1)), (.int (v2)), (.map tm)], false⟩, ⟨tm, .map es k, false⟩] [] st' ∧ (-9223372036854775808 ≤ v1613 ∧ v1613 ≤ 9223372036854775807) ∧ (0 ≤ v1616) ∧ (0 ≤ v1616) ∧ (-1 ≤ v1616) ∧ (-9223372036854775808 ≤ v1616 ∧ v1616 ≤ 9223372036854775807) ∧ (v1616 ≤ (C.Copies.length : Int)) ∧ (v1616 ≤ 6) ∧ MapOK KInt (fun x => ∃ n : Int, x = .int n ∧ (-9223372036854775808 ≤ n ∧ n ≤ 9223372036854775807)) es ∧ zz = (-v1616 + 9223372036854775808).toNat) (fun z => z) _ ⟨(LX [(8, .junk), (9, .junk), (31, .junk), (32, .junk), (33, .junk), (34, .junk), (35, .junk), (36, .junk), (37, .junk), (38, .junk), (39, .junk), (40, .junk), (41, .junk), (42, .junk), (43, .junk), (44, .junk)]), 0, 0, by kernel_rfl, H, by first | omega | (simp; omega) | simp, by first | omega | (simp; omega) | simp, by first | omega | (simp; omega) | simp, by first | omega | (simp; omega) | simp, by first | omega | (simp; omega) | simp, by first | omega | (simp; omega) | simp, by first | omega | (simp; omega) | simp, hm, rfl⟩ ?_
  clear H
  intro zz1602 lf st1602 hI1602 Q1602 hN1602 hE1602 hX1602
  obtain ⟨xs1602, v1613, v1616, rfl, H, hi1602_3, hi1602_4, hi1602_5, hi1602_6, hi1602_7, hi1602_9, hi1602_10, hm, hz1602⟩ := hI1602
  refine wl_tail ?_
  refine wl_assoc ?_
  refine wl_ops ?_
  refine wr_run 1 [(31, (.bool (decide ((v1616 : Int) < ((C.Copies.length : Int) : Int)))))] (by kernel_rfl) ?_
  refine wr_done ?_
  refine wl_assoc ?_
  refine wl_cond (decide ((v1616 : Int) < ((C.Copies.length : Int) : Int))) (by kernel_rfl) (fun c1661 => ?_) (fun c1661 => ?_)
  ·skip
   have c1661' : (v1616 : Int) < (C.Copies.length : Int) := of_decide_eq_true c1661
   refine wl_skip_seq ?_
   refine wl_assoc ?_
   refine wl_block fun Q1662 hN1662 hE1662 hX1662 => ?_
   refine wl_tail ?_
   refine wl_assoc ?_
   refine wl_ops ?_
   refine wr_run 1 [(32, (.int (v1616)))] (by kernel_rfl) ?_
   refine wr_iaddre encCopy_len .any C.Copies (by kernel_rfl) (v1616) (by kernel_rfl) (by omega) (by kernel_rfl) fun y1663 hy1663 => ?_
   refine wr_loade encCopy_len C.Copies ((v1616 : Int).toNat) 0 y1663 hy1663 (by kernel_rfl) (.agg [(.int (y1663.Number)), (.int (y1663.Words)), (.int (y1663.Facts)), (.int (y1663.May))]) (by kernel_rfl) (by decide) (by decide) (by kernel_rfl) ?_
   refine wr_alloc H (by kernel_rfl) fun a1664 st1665 H => ?_
   refine wr_run 1 [(8, (.int (v1616)))] (by kernel_rfl) ?_
   refine wr_store H 0 a1664 0 _ true rfl (by kernel_rfl) (.agg [(.int (y1663.Number)), (.int (y1663.Words)), (.int (y1663.Facts)), (.int (y1663.May))]) (by kernel_rfl) [(.int (y1663.Number)), (.int (y1663.Words)), (.int (y1663.Facts)), (.int (y1663.May))] (by kernel_rfl) (by kernel_rfl) (by kernel_rfl) (Nat.le_of_ble_eq_true rfl) (by kernel_rfl) (by kernel_rfl) fun st1666 H => ?_
   refine wr_done ?_
   refine wl_assoc ?_
   refine wl_ops ?_
   refine wr_run 2 [(35, (.int (n))), (36, (.int (v1616)))] (by kernel_rfl) ?_
   refine wr_pureX (fun y => .int y) _ (ev_int (.int (n)) (.int (v1616)) (by kernel_rfl) (by kernel_rfl) (bx_shr _ _ (by omega))) (by kernel_rfl) (by kernel_rfl) fun n1667 hn1667 => ?_
   clear hn1667
   refine wr_pureX (fun y => .int y) _ (ev_int (.int (n1667)) (.int (1)) (by kernel_rfl) (by kernel_rfl) (bx_and _ _)) (by kernel_rfl) (by kernel_rfl) fun n1668 hn1668 => ?_
   unfold I64 at hn1668
   refine wr_run 1 [(39, (.bool ((n1668 : Int) == (1 : Int))))] (by kernel_rfl) ?_
   refine wr_done ?_
   refine wl_cond ((n1668 : Int) == (1 : Int)) (by kernel_rfl) (fun c1669 => ?_) (fun c1669 => ?_)
   ·skip
    have c1669' : (n1668 : Int) = 1 := by simpa using c1669
    refine wl_ops ?_
    refine wr_run 2 [(40, (.int (v1613))), (41, (.ptr a1664 2))] (by kernel_rfl) ?_
    refine wr_load H 0 a1664 2 _ true rfl (by kernel_rfl) (.int (y1663.Facts)) (by kernel_rfl) (by kernel_rfl) ?_
    refine wr_pureX (fun y => .int y) _ (ev_int (.int (v1613)) (.int (y1663.Facts)) (by kernel_rfl) (by kernel_rfl) (bx_or _ _)) (by kernel_rfl) (by kernel_rfl) fun n1670 hn1670 => ?_
    unfold I64 at hn1670
    refine wr_run 1 [(7, (.int (n1670)))] (by kernel_rfl) ?_
    refine wr_done ?_
    refine wl_skip ?_
    refine hN1662 _ _ ?_
    refine wl_ops ?_
    refine wr_bin (.int (v1616)) (.int (1)) (.int (v1616 + 1)) (by kernel_rfl) (by kernel_rfl) (add64e _ (by unfold I64; omega)) (by kernel_rfl) ?_
    refine wr_run 1 [(30, (.int (v1616 + 1)))] (by kernel_rfl) ?_
    refine wr_done ?_
    refine wl_skip ?_
    replace H := H.tail rfl
    refine hN1602 _ _ _ ⟨(LX [(8, (.int (v1616))), (9, (.ptr a1664 0)), (31, (.bool (decide ((v1616 : Int) < ((C.Copies.length : Int) : Int))))), (32, (.int (v1616))), (33, (.lptr (C.Copies.flatMap encCopy) ((v1616 : Int).toNat * 4))), (34, (.agg [(.int (y1663.Number)), (.int (y1663.Words)), (.int (y1663.Facts)), (.int (y1663.May))])), (35, (.int (n))), (36, (.int (v1616))), (37, (.int (n1667))), (38, (.int (n1668))), (39, (.bool ((n1668 : Int) == (1 : Int)))), (40, (.int (v1613))), (41, (.ptr a1664 2)), (42, (.int (y1663.Facts))), (43, (.int (n1670))), (44, (.int (v1616 + 1)))]), n1670, v1616 + 1, by kernel_rfl, H, by first | omega | (simp; omega) | simp, by first | omega | (simp; omega) | simp, by first | omega | (simp; omega) | simp, by first | omega | (simp; omega) | simp, by first | omega | (simp; omega) | simp, by first | omega | (simp; omega) | simp, by first | omega | (simp; omega) | simp, hm, rfl⟩ (by first | omega | (simp only; omega))
   ·skip
    have c1669' : ¬ ((n1668 : Int) = 1) := by simpa using c1669
    refine wl_skip_seq ?_
    refine wl_skip ?_
    refine hN1662 _ _ ?_
    refine wl_ops ?_
    refine wr_bin (.int (v1616)) (.int (1)) (.int (v1616 + 1)) (by kernel_rfl) (by kernel_rfl) (add64e _ (by unfold I64; omega)) (by kernel_rfl) ?_
    refine wr_run 1 [(30, (.int (v1616 + 1)))] (by kernel_rfl) ?_
    refine wr_done ?_
    refine wl_skip ?_
    replace H := H.tail rfl
    refine hN1602 _ _ _ ⟨(LX [(8, (.int (v1616))), (9, (.ptr a1664 0)), (31, (.bool (decide ((v1616 : Int) < ((C.Copies.length : Int) : Int))))), (32, (.int (v1616))), (33, (.lptr (C.Copies.flatMap encCopy) ((v1616 : Int).toNat * 4))), (34, (.agg [(.int (y1663.Number)), (.int (y1663.Words)), (.int (y1663.Facts)), (.int (y1663.May))])), (35, (.int (n))), (36, (.int (v1616))), (37, (.int (n1667))), (38, (.int (n1668))), (39, (.bool ((n1668 : Int) == (1 : Int)))), (40, (xs1602 40)), (41, (xs1602 41)), (42, (xs1602 42)), (43, (xs1602 43)), (44, (.int (v1616 + 1)))]), v1613, v1616 + 1, by kernel_rfl, H, by first | omega | (simp; omega) | simp, by first | omega | (simp; omega) | simp, by first | omega | (simp; omega) | simp, by first | omega | (simp; omega) | simp, by first | omega | (simp; omega) | simp, by first | omega | (simp; omega) | simp, by first | omega | (simp; omega) | simp, hm, rfl⟩ (by first | omega | (simp only; omega))
  ·skip
   have c1661' : ¬ ((v1616 : Int) < (C.Copies.length : Int)) := of_decide_eq_false c1661
   refine wl_exit ?_
   refine hE1602 _ _ ?_
   refine wl_assoc ?_
   refine wl_assoc ?_
   refine wl_ops ?_
   refine wr_run 1 [(10, (.bool (true)))] (by kernel_rfl) ?_
   refine wr_done ?_
   refine wl_loop (σ := Nat) (fun (zz : Nat) (lf : List AV) (st' : St) => ∃ (xs1671 : Nat → AV) (v1776 : Int) (b1777 : Bool), lf = [(.ptr c 0), (.int (n)), .junk, .junk, (.int (0)), (.int (n1600)), (.bool (b1598)), (.int (v1776)), (xs1602 8), (xs1602 9), (.bool (b1777)), .junk, (xs1671 12), (.tup [(.int (n1600)), (.bool (b1598))]), (.ptr c 0), (.ptr c 0), (.ptr c 9), (.map tm), (.int (n)), (.tup [(.int (n1600)), (.bool (b1598))]), (.int (n1600)), (.bool (b1598)), (.bool (b1598)), .junk, (.ptr c 0), (.ptr c 0), (.ptr c 0), (.ptr c 4), (lst .any encCopy C.Copies), (.int ((C.Copies.length : Int))), (.int (v1616)), (.bool (decide ((v1616 : Int) < ((C.Copies.length : Int) : Int)))), (xs1602 32), (xs1602 33), (xs1602 34), (xs1602 35), (xs1602 36), (xs1602 37), (xs1602 38), (xs1602 39), (xs1602 40), (xs1602 41), (xs1602 42), (xs1602 43), (xs1602 44), (xs1671 45), (xs1671 46), (xs1671 47), (xs1671 48), (xs1671 49), (xs1671 50), (xs1671 51), (xs1671 52), (xs1671 53), (xs1671 54), (xs1671 55), (xs1671 56), (xs1671 57), (xs1671 58), (xs1671 59), (xs1671 60), (xs1671 61), (xs1671 62), (xs1671 63), (xs1671 64), (xs1671 65), (xs1671 66), (xs1671 67), (xs1671 68), (xs1671 69), (xs1671 70), (xs1671 71), (xs1671 72), (xs1671 73), (xs1671 74), .junk, .junk, .junk, .junk, .junk, .junk, .junk] ∧ SP st [⟨c, .cells [(.int (C.Words)), (.int (C.Facts)), (lst .any encS C.People), (.int (C.Last)), (lst .any encCopy C.Copies), (lst .any encRule C.Rules), (.int (v0)), (.int (v1)), (.int (v2)), (.map tm)], false⟩, ⟨tm, .map es k, false⟩] [] st' ∧ (-9223372036854775808 ≤ v1776 ∧ v1776 ≤ 9223372036854775807) ∧ MapOK KInt (fun x => ∃ n : Int, x = .int n ∧ (-9223372036854775808 ≤ n ∧ n ≤ 9223372036854775807)) es ∧ zz = (if b1777 = true then M64 v1776 + 1 else 0)) (fun z => z) _ ⟨(LX [(12, .junk), (45, .junk), (46, .junk), (47, .junk), (48, .junk), (49, .junk), (50, .junk), (51, .junk), (52, .junk), (53, .junk), (54, .junk), (55, .junk), (56, .junk), (57, .junk), (58, .junk), (59, .junk), (60, .junk), (61, .junk), (62, .junk), (63, .junk), (64, .junk), (65, .junk), (66, .junk), (67, .junk), (68, .junk), (69, .junk), (70, .junk), (71, .junk), (72, .junk), (73, .junk), (74, .junk)]), v1613, true, by kernel_rfl, H, by first | omega | (simp; omega) | simp, hm, rfl⟩ ?_
   clear H
   intro zz1671 lf st1671 hI1671 Q1671 hN1671 hE1671 hX1671
   obtain ⟨xs1671, v1776, b1777, rfl, H, hi1671_3, hm, hz1671⟩ := hI1671
   refine wl_tail ?_
   refine wl_assoc ?_
   refine wl_assoc ?_
   refine wl_ops ?_
   refine wr_run 1 [(45, (.bool (b1777)))] (by kernel_rfl) ?_
   refine wr_done ?_
   refine wl_cond (b1777) (by kernel_rfl) (fun c2121 => ?_) (fun c2121 => ?_)
   ·skip
    refine wl_skip_seq ?_
    refine wl_block fun Q2122 hN2122 hE2122 hX2122 => ?_
    refine wl_tail ?_
    refine wl_assoc ?_
    refine wl_ops ?_
    refine wr_run 1 [(10, (.bool (false)))] (by kernel_rfl) ?_
    refine wr_done ?_
    refine wl_assoc ?_
    refine wl_skip_seq ?_
    refine wl_assoc ?_
    refine wl_ops ?_
    refine wr_run 4 [(46, (.ptr c 0)), (47, (.ptr c 0)), (48, (.ptr c 0)), (49, (.ptr c 5))] (by kernel_rfl) ?_
    refine wr_load H 0 c 5 _ false rfl (by kernel_rfl) (lst .any encRule C.Rules) (by kernel_rfl) (by kernel_rfl) ?_
    refine wr_run 2 [(51, (.int ((C.Rules.length : Int)))), (52, (.int (0)))] (by kernel_rfl) ?_
    refine wr_done ?_
    refine wl_loop (σ := Nat) (fun (zz : Nat) (lf : List AV) (st' : St) => ∃ (xs2123 : Nat → AV) (v2140 : Int) (v2158 : Int) (b2159 : Bool), lf = [(.ptr c 0), (.int (n)), .junk, .junk, (.int (0)), (.int (n1600)), (.bool (b1598)), (.int (v2158)), (xs1602 8), (xs1602 9), (.bool (b2159)), .junk, (xs2123 12), (.tup [(.int (n1600)), (.bool (b1598))]), (.ptr c 0), (.ptr c 0), (.ptr c 9), (.map tm), (.int (n)), (.tup [(.int (n1600)), (.bool (b1598))]), (.int (n1600)), (.bool (b1598)), (.bool (b1598)), .junk, (.ptr c 0), (.ptr c 0), (.ptr c 0), (.ptr c 4), (lst .any encCopy C.Copies), (.int ((C.Copies.length : Int))), (.int (v1616)), (.bool (decide ((v1616 : Int) < ((C.Copies.length : Int) : Int)))), (xs1602 32), (xs1602 33), (xs1602 34), (xs1602 35), (xs1602 36), (xs1602 37), (xs1602 38), (xs1602 39), (xs1602 40), (xs1602 41), (xs1602 42), (xs1602 43), (xs1602 44), (.bool (b1777)), (.ptr c 0), (.ptr c 0), (.ptr c 0), (.ptr c 5), (lst .any encRule C.Rules), (.int ((C.Rules.length : Int))), (.int (v2140)), (xs2123 53), (xs2123 54), (xs2123 55), (xs2123 56), (xs2123 57), (xs2123 58), (xs2123 59), (xs2123 60), (xs2123 61), (xs2123 62), (xs2123 63), (xs2123 64), (xs2123 65), (xs2123 66), (xs2123 67), (xs2123 68), (xs2123 69), (xs2123 70), (xs2123 71), (xs2123 72), (xs2123 73), (xs2123 74), .junk, .junk, .junk, .junk, .junk, .junk, .junk] ∧ SP st [⟨c, .cells [(.int (C.Words)), (.int (C.Facts)), (lst .any encS C.People), (.int (C.Last)), (lst .any encCopy C.Copies), (lst .any encRule C.Rules), (.int (v0)), (.int (v1)), (.int (v2)), (.map tm)], false⟩, ⟨tm, .map es k, false⟩] [] st' ∧ (-9223372036854775808 ≤ v2158 ∧ v2158 ≤ 9223372036854775807) ∧ (0 ≤ v2140) ∧ (0 ≤ v2140) ∧ (-1 ≤ v2140) ∧ (-9223372036854775808 ≤ v2140 ∧ v2140 ≤ 9223372036854775807) ∧ (v2140 ≤ (C.Rules.length : Int)) ∧ (v2140 ≤ 4) ∧ MapOK KInt (fun x => ∃ n : Int, x = .int n ∧ (-9223372036854775808 ≤ n ∧ n ≤ 9223372036854775807)) es ∧ (M64 v2158 ≤ M64 v1776 ∧ (b2159 = true → M64 v2158 < M64 v1776)) ∧ zz = (-v2140 + 9223372036854775808).toNat) (fun z => z) _ ⟨(LX [(12, (xs1671 12)), (53, (xs1671 53)), (54, (xs1671 54)), (55, (xs1671 55)), (56, (xs1671 56)), (57, (xs1671 57)), (58, (xs1671 58)), (59, (xs1671 59)), (60, (xs1671 60)), (61, (xs1671 61)), (62, (xs1671 62)), (63, (xs1671 63)), (64, (xs1671 64)), (65, (xs1671 65)), (66, (xs1671 66)), (67, (xs1671 67)), (68, (xs1671 68)), (69, (xs1671 69)), (70, (xs1671 70)), (71, (xs1671 71)), (72, (xs1671 72)), (73, (xs1671 73)), (74, (xs1671 74))]), 0, v1776, false, by kernel_rfl, H, by first | omega | (simp; omega) | simp, by first | omega | (simp; omega) | simp, by first | omega | (simp; omega) | simp, by first | omega | (simp; omega) | simp, by first | omega | (simp; omega) | simp, by first | omega | (simp; omega) | simp, by first | omega | (simp; omega) | simp, hm, ⟨Nat.le_refl _, fun h => by cases h⟩, rfl⟩ ?_
    clear H
    intro zz2123 lf st2123 hI2123 Q2123 hN2123 hE2123 hX2123
    obtain ⟨xs2123, v2140, v2158, b2159, rfl, H, hi2123_3, hi2123_4, hi2123_5, hi2123_6, hi2123_7, hi2123_9, hi2123_10, hm, hs2123_0, hz2123⟩ := hI2123
    refine wl_tail ?_
    refine wl_assoc ?_
    refine wl_ops ?_
    refine wr_run 1 [(53, (.bool (decide ((v2140 : Int) < ((C.Rules.length : Int) : Int)))))] (by kernel_rfl) ?_
    refine wr_done ?_
    refine wl_assoc ?_
    refine wl_cond (decide ((v2140 : Int) < ((C.Rules.length : Int) : Int))) (by kernel_rfl) (fun c2210 => ?_) (fun c2210 => ?_)
    ·skip
     have c2210' : (v2140 : Int) < (C.Rules.length : Int) := of_decide_eq_true c2210
     refine wl_skip_seq ?_
     refine wl_assoc ?_
     refine wl_block fun Q2211 hN2211 hE2211 hX2211 => ?_
     refine wl_tail ?_
     refine wl_assoc ?_
     refine wl_ops ?_
     refine wr_iaddre encRule_len .any C.Rules (by kernel_rfl) (v2140) (by kernel_rfl) (by omega) (by kernel_rfl) fun y2212 hy2212 => ?_
     have hq2213 : 0 ≤ y2212.Then ∧ y2212.Then ≤ C.Facts - 1 := g6 y2212 (some_get hy2212)
     refine wr_loade encRule_len C.Rules ((v2140 : Int).toNat) 0 y2212 hy2212 (by kernel_rfl) (.agg [(.int (y2212.If)), (.int (y2212.Then))]) (by kernel_rfl) (by decide) (by decide) (by kernel_rfl) ?_
     refine wr_alloc H (by kernel_rfl) fun a2214 st2215 H => ?_
     refine wr_store H 0 a2214 0 _ true rfl (by kernel_rfl) (.agg [(.int (y2212.If)), (.int (y2212.Then))]) (by kernel_rfl) [(.int (y2212.If)), (.int (y2212.Then))] (by kernel_rfl) (by kernel_rfl) (by kernel_rfl) (Nat.le_of_ble_eq_true rfl) (by kernel_rfl) (by kernel_rfl) fun st2216 H => ?_
     refine wr_done ?_
     refine wl_assoc ?_
     refine wl_assoc ?_
     refine wl_ops ?_
     refine wr_run 1 [(56, (.ptr a2214 0))] (by kernel_rfl) ?_
     refine wr_load H 0 a2214 0 _ true rfl (by kernel_rfl) (.int (y2212.If)) (by kernel_rfl) (by kernel_rfl) ?_
     refine wr_run 1 [(58, (.int (v2158)))] (by kernel_rfl) ?_
     refine wr_pureX (fun y => .int y) _ (ev_int (.int (y2212.If)) (.int (v2158)) (by kernel_rfl) (by kernel_rfl) (bx_andNot _ _)) (by kernel_rfl) (by kernel_rfl) fun n2217 hn2217 => ?_
     unfold I64 at hn2217
     refine wr_run 2 [(60, (.bool ((n2217 : Int) != (0 : Int)))), (61, (.bool ((n2217 : Int) != (0 : Int))))] (by kernel_rfl) ?_
     refine wr_case 61 ((n2217 : Int) != (0 : Int)) (by kernel_rfl) (fun c2218 => ?_) (fun c2218 => ?_) (by kernel_rfl)
     ·skip
      have c2218' : ¬ ((n2217 : Int) = 0) := by simpa using c2218
      refine wr_run 7 [(62, (.tup [])), (63, (.tup [])), (64, (.tup [])), (65, (.tup [])), (66, (.tup [])), (67, (.tup [])), (68, (.bool (true)))] (by kernel_rfl) ?_
      refine wr_done ?_
      refine wl_cond true (by kernel_rfl) (fun c2219 => ?_) (fun c2219 => by cases c2219)
      clear c2219
      refine wl_exit ?_
      refine hE2211 _ _ ?_
      refine wl_ops ?_
      refine wr_bin (.int (v2140)) (.int (1)) (.int (v2140 + 1)) (by kernel_rfl) (by kernel_rfl) (add64e _ (by unfold I64; omega)) (by kernel_rfl) ?_
      refine wr_run 1 [(52, (.int (v2140 + 1)))] (by kernel_rfl) ?_
      refine wr_done ?_
      refine wl_skip ?_
      replace H := H.tail rfl
      refine hN2123 _ _ _ ⟨(LX [(12, (.ptr a2214 0)), (53, (.bool (decide ((v2140 : Int) < ((C.Rules.length : Int) : Int))))), (54, (.lptr (C.Rules.flatMap encRule) ((v2140 : Int).toNat * 2))), (55, (.agg [(.int (y2212.If)), (.int (y2212.Then))])), (56, (.ptr a2214 0)), (57, (.int (y2212.If))), (58, (.int (v2158))), (59, (.int (n2217))), (60, (.bool ((n2217 : Int) != (0 : Int)))), (61, (.bool (true))), (62, (.tup [])), (63, (.tup [])), (64, (.tup [])), (65, (.tup [])), (66, (.tup [])), (67, (.tup [])), (68, (.bool (true))), (69, (xs2123 69)), (70, (xs2123 70)), (71, (xs2123 71)), (72, (xs2123 72)), (73, (xs2123 73)), (74, (.int (v2140 + 1)))]), v2140 + 1, v2158, b2159, by kernel_rfl, H, by first | omega | (simp; omega) | simp, by first | omega | (simp; omega) | simp, by first | omega | (simp; omega) | simp, by first | omega | (simp; omega) | simp, by first | omega | (simp; omega) | simp, by first | omega | (simp; omega) | simp, by first | omega | (simp; omega) | simp, hm, by first | exact hs2123_0 | exact ⟨by omega, fun _ => by omega⟩, rfl⟩ (by first | omega | (simp only; omega))
     ·skip
      have c2218' : (n2217 : Int) = 0 := by simpa using c2218
      refine wr_run 2 [(62, (.int (v2158))), (63, (.ptr a2214 1))] (by kernel_rfl) ?_
      refine wr_guard (by kernel_rfl) ?_
      refine wr_load H 0 a2214 1 _ true rfl (by kernel_rfl) (.int (y2212.Then)) (by kernel_rfl) (by kernel_rfl) ?_
      refine wr_guard (by kernel_rfl) ?_
      refine wr_pureX (fun y => .int y) _ (ev_int (.int (v2158)) (.int (y2212.Then)) (by kernel_rfl) (by kernel_rfl) (bxe_shr _ _ (by omega))) (by kernel_rfl) (by kernel_rfl) fun n2220 hn2220 => ?_
      refine wr_guard (by kernel_rfl) ?_
      refine wr_pureX (fun y => .int y) _ (ev_int (.int (n2220)) (.int (1)) (by kernel_rfl) (by kernel_rfl) (bxe_and _ _)) (by kernel_rfl) (by kernel_rfl) fun n2221 hn2221 => ?_
      have hrn2221 := hn2221.rng
      unfold I64 at hrn2221
      refine wr_run 2 [(67, (.bool ((n2221 : Int) == (1 : Int)))), (68, (.bool ((n2221 : Int) == (1 : Int))))] (by kernel_rfl) ?_
      refine wr_done ?_
      refine wl_cond ((n2221 : Int) == (1 : Int)) (by kernel_rfl) (fun c2222 => ?_) (fun c2222 => ?_)
      ·skip
       have c2222' : (n2221 : Int) = 1 := by simpa using c2222
       refine wl_exit ?_
       refine hE2211 _ _ ?_
       refine wl_ops ?_
       refine wr_bin (.int (v2140)) (.int (1)) (.int (v2140 + 1)) (by kernel_rfl) (by kernel_rfl) (add64e _ (by unfold I64; omega)) (by kernel_rfl) ?_
       refine wr_run 1 [(52, (.int (v2140 + 1)))] (by kernel_rfl) ?_
       refine wr_done ?_
       refine wl_skip ?_
       replace H := H.tail rfl
       refine hN2123 _ _ _ ⟨(LX [(12, (.ptr a2214 0)), (53, (.bool (decide ((v2140 : Int) < ((C.Rules.length : Int) : Int))))), (54, (.lptr (C.Rules.flatMap encRule) ((v2140 : Int).toNat * 2))), (55, (.agg [(.int (y2212.If)), (.int (y2212.Then))])), (56, (.ptr a2214 0)), (57, (.int (y2212.If))), (58, (.int (v2158))), (59, (.int (n2217))), (60, (.bool ((n2217 : Int) != (0 : Int)))), (61, (.bool (false))), (62, (.int (v2158))), (63, (.ptr a2214 1)), (64, (.int (y2212.Then))), (65, (.int (n2220))), (66, (.int (n2221))), (67, (.bool ((n2221 : Int) == (1 : Int)))), (68, (.bool ((n2221 : Int) == (1 : Int)))), (69, (xs2123 69)), (70, (xs2123 70)), (71, (xs2123 71)), (72, (xs2123 72)), (73, (xs2123 73)), (74, (.int (v2140 + 1)))]), v2140 + 1, v2158, b2159, by kernel_rfl, H, by first | omega | (simp; omega) | simp, by first | omega | (simp; omega) | simp, by first | omega | (simp; omega) | simp, by first | omega | (simp; omega) | simp, by first | omega | (simp; omega) | simp, by first | omega | (simp; omega) | simp, by first | omega | (simp; omega) | simp, hm, by first | exact hs2123_0 | exact ⟨by omega, fun _ => by omega⟩, rfl⟩ (by first | omega | (simp only; omega))
      ·skip
       have c2222' : ¬ ((n2221 : Int) = 1) := by simpa using c2222
       refine wl_skip_seq ?_
       refine wl_assoc ?_
       refine wl_ops ?_
       refine wr_run 2 [(69, (.int (v2158))), (70, (.ptr a2214 1))] (by kernel_rfl) ?_
       refine wr_load H 0 a2214 1 _ true rfl (by kernel_rfl) (.int (y2212.Then)) (by kernel_rfl) (by kernel_rfl) ?_
       refine wr_pureX (fun y => .int y) _ (ev_int (.int (1)) (.int (y2212.Then)) (by kernel_rfl) (by kernel_rfl) (bxe_shl _ _ (by omega))) (by kernel_rfl) (by kernel_rfl) fun n2223 hn2223 => ?_
       have hrn2223 := hn2223.rng
       unfold I64 at hrn2223
       refine wr_pureX (fun y => .int y) _ (ev_int (.int (v2158)) (.int (n2223)) (by kernel_rfl) (by kernel_rfl) (bxe_or _ _)) (by kernel_rfl) (by kernel_rfl) fun n2224 hn2224 => ?_
       have hrn2224 := hn2224.rng
       unfold I64 at hrn2224
       have hg := bits_grow (by omega) hn2220 hn2221 (by omega) hn2223 hn2224
       refine wr_run 1 [(7, (.int (n2224)))] (by kernel_rfl) ?_
       refine wr_done ?_
       refine wl_ops ?_
       refine wr_run 1 [(10, (.bool (true)))] (by kernel_rfl) ?_
       refine wr_done ?_
       refine wl_skip ?_
       refine hN2211 _ _ ?_
       refine wl_ops ?_
       refine wr_bin (.int (v2140)) (.int (1)) (.int (v2140 + 1)) (by kernel_rfl) (by kernel_rfl) (add64e _ (by unfold I64; omega)) (by kernel_rfl) ?_
       refine wr_run 1 [(52, (.int (v2140 + 1)))] (by kernel_rfl) ?_
       refine wr_done ?_
       refine wl_skip ?_
       replace H := H.tail rfl
       refine hN2123 _ _ _ ⟨(LX [(12, (.ptr a2214 0)), (53, (.bool (decide ((v2140 : Int) < ((C.Rules.length : Int) : Int))))), (54, (.lptr (C.Rules.flatMap encRule) ((v2140 : Int).toNat * 2))), (55, (.agg [(.int (y2212.If)), (.int (y2212.Then))])), (56, (.ptr a2214 0)), (57, (.int (y2212.If))), (58, (.int (v2158))), (59, (.int (n2217))), (60, (.bool ((n2217 : Int) != (0 : Int)))), (61, (.bool (false))), (62, (.int (v2158))), (63, (.ptr a2214 1)), (64, (.int (y2212.Then))), (65, (.int (n2220))), (66, (.int (n2221))), (67, (.bool ((n2221 : Int) == (1 : Int)))), (68, (.bool ((n2221 : Int) == (1 : Int)))), (69, (.int (v2158))), (70, (.ptr a2214 1)), (71, (.int (y2212.Then))), (72, (.int (n2223))), (73, (.int (n2224))), (74, (.int (v2140 + 1)))]), v2140 + 1, n2224, true, by kernel_rfl, H, by first | omega | (simp; omega) | simp, by first | omega | (simp; omega) | simp, by first | omega | (simp; omega) | simp, by first | omega | (simp; omega) | simp, by first | omega | (simp; omega) | simp, by first | omega | (simp; omega) | simp, by first | omega | (simp; omega) | simp, hm, by first | exact hs2123_0 | exact ⟨by omega, fun _ => by omega⟩, rfl⟩ (by first | omega | (simp only; omega))
    ·skip
     have c2210' : ¬ ((v2140 : Int) < (C.Rules.length : Int)) := of_decide_eq_false c2210
     refine wl_exit ?_
     refine hE2123 _ _ ?_
     refine wl_skip ?_
     refine hN2122 _ _ ?_
     refine wl_skip ?_
     refine hN1671 _ _ _ ⟨(LX [(12, (xs2123 12)), (45, (.bool (b1777))), (46, (.ptr c 0)), (47, (.ptr c 0)), (48, (.ptr c 0)), (49, (.ptr c 5)), (50, (lst .any encRule C.Rules)), (51, (.int ((C.Rules.length : Int)))), (52, (.int (v2140))), (53, (.bool (decide ((v2140 : Int) < ((C.Rules.length : Int) : Int))))), (54, (xs2123 54)), (55, (xs2123 55)), (56, (xs2123 56)), (57, (xs2123 57)), (58, (xs2123 58)), (59, (xs2123 59)), (60, (xs2123 60)), (61, (xs2123 61)), (62, (xs2123 62)), (63, (xs2123 63)), (64, (xs2123 64)), (65, (xs2123 65)), (66, (xs2123 66)), (67, (xs2123 67)), (68, (xs2123 68)), (69, (xs2123 69)), (70, (xs2123 70)), (71, (xs2123 71)), (72, (xs2123 72)), (73, (xs2123 73)), (74, (xs2123 74))]), v2158, b2159, by kernel_rfl, H, by first | omega | (simp; omega) | simp, hm, rfl⟩ (by
        have hq := hs2123_0
        simp only [hz1671, c2121, if_true]
        split
        ·rename_i hh; have := hq.2 hh; omega
        ·omega)
   ·skip
    refine wl_exit ?_
    refine hE1671 _ _ ?_
    refine wl_assoc ?_
    refine wl_ops ?_
    refine wr_run 3 [(75, (.ptr c 0)), (76, (.ptr c 0)), (77, (.ptr c 9))] (by kernel_rfl) ?_
    refine wr_load H 0 c 9 _ false rfl (by kernel_rfl) (.map tm) (by kernel_rfl) (by kernel_rfl) ?_
    refine wr_run 2 [(79, (.int (n))), (80, (.int (v1776)))] (by kernel_rfl) ?_
    refine wr_mapsetX H 1 tm es k false rfl (by kernel_rfl) (.int (n)) (by kernel_rfl) (.int (v1776)) (by kernel_rfl) hm keyTold ⟨_, rfl, _, rfl⟩ ⟨_, rfl, by omega⟩ (by kernel_rfl) fun es2226 k2227 st2225 hm2228 H => ?_
    refine wr_done ?_
    refine wl_assoc ?_
    refine wl_ops ?_
    refine wr_run 2 [(81, (.int (v1776))), (4, (.int (v1776)))] (by kernel_rfl) ?_
    refine wr_done ?_
    refine wl_ret ?_
    refine post_i (Or.inr rfl) (.int (v1776)) (by kernel_rfl) ?_
    exact ⟨v1776, es2226, k2227, rfl, by first | omega | (simp; omega) | simp, hm2228, H.eff _ (List.forall_mem_cons.2 ⟨(fun _ => Or.inr hc_c), (List.forall_mem_cons.2 ⟨(fun _ => Or.inl (by simp)), (by simp)⟩)⟩) (List.forall_mem_cons.2 ⟨⟨_, List.mem_of_getElem? (i := 1) rfl, rfl, rfl⟩, (by simp)⟩)⟩

end Go.Proofs.Ytbekogkbdmaobaa

