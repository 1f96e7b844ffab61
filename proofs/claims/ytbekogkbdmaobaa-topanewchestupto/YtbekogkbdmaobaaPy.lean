import Derived.Test.YtbekogkbdmaobaaCc
import Derived.Test.YtbekogkbdmaobaaTyx
import Derived.Test.YtbekogkbdmaobaaEf32
import Derived.Test.YtbekogkbdmaobaaPx
namespace Go.Proofs.Ytbekogkbdmaobaa
open Go Go.EF Go.Proofs
set_option linter.unusedVariables false
set_option maxRecDepth 100000

set_option maxHeartbeats 4000000 in
theorem same_ok (o1 : EF.Own) (o2 : EF.Own) (o3 : EF.Own) (o4 : EF.Own) (N : List Int) (Z : List ByteArray) (st : St) (hN : (N.length : Int) ≤ 4503599627370496) (hZ : (Z.length : Int) ≤ 4503599627370496) : WF Try.prog 34 [(.agg [(lst o1 encI N), (lst o2 encS Z)]), (.agg [(lst o3 encI N), (lst o4 encS Z)])] st fun r st' => r = (.bool (true)) ∧ Ext st st' := by
 refine wf_L c34 rfl ?_
 have H := SP.start st
 refine wl_tail ?_
 refine wl_assoc ?_
 refine wl_ops ?_
 refine wr_box (.agg [(lst o1 encI N), (lst o2 encS Z)]) (by kernel_rfl) [(lst o1 encI N), (lst o2 encS Z)] (by kernel_rfl) (by kernel_rfl) H (by kernel_rfl) fun a1 st2 H => ?_
 refine wr_box (.agg [(lst o3 encI N), (lst o4 encS Z)]) (by kernel_rfl) [(lst o3 encI N), (lst o4 encS Z)] (by kernel_rfl) (by kernel_rfl) H (by kernel_rfl) fun a3 st4 H => ?_
 refine wr_run 1 [(4, (.bool (false)))] (by kernel_rfl) ?_
 refine wr_done ?_
 refine wl_assoc ?_
 refine wl_assoc ?_
 refine wl_ops ?_
 refine wr_run 1 [(7, (.ptr a1 0))] (by kernel_rfl) ?_
 refine wr_load H 1 a1 0 _ true rfl (by kernel_rfl) (lst o1 encI N) (by kernel_rfl) (by kernel_rfl) ?_
 refine wr_run 2 [(9, (.int ((N.length : Int)))), (10, (.ptr a3 0))] (by kernel_rfl) ?_
 refine wr_load H 0 a3 0 _ true rfl (by kernel_rfl) (lst o3 encI N) (by kernel_rfl) (by kernel_rfl) ?_
 refine wr_run 3 [(12, (.int ((N.length : Int)))), (13, (.bool (((N.length : Int) : Int) != ((N.length : Int) : Int)))), (14, (.bool (((N.length : Int) : Int) != ((N.length : Int) : Int))))] (by kernel_rfl) ?_
 refine wr_case 14 (((N.length : Int) : Int) != ((N.length : Int) : Int)) (by kernel_rfl) (fun c5 => ?_) (fun c5 => ?_) (by kernel_rfl)
 ·skip
  exact absurd c5 (by simp)
 ·skip
  have c5' : ((N.length : Int) : Int) = (N.length : Int) := rfl
  refine wr_run 1 [(15, (.ptr a1 1))] (by kernel_rfl) ?_
  refine wr_guard (by kernel_rfl) ?_
  refine wr_load H 1 a1 1 _ true rfl (by kernel_rfl) (lst o2 encS Z) (by kernel_rfl) (by kernel_rfl) ?_
  refine wr_run 2 [(17, (.int ((Z.length : Int)))), (18, (.ptr a3 1))] (by kernel_rfl) ?_
  refine wr_guard (by kernel_rfl) ?_
  refine wr_load H 0 a3 1 _ true rfl (by kernel_rfl) (lst o4 encS Z) (by kernel_rfl) (by kernel_rfl) ?_
  refine wr_run 3 [(20, (.int ((Z.length : Int)))), (21, (.bool (((Z.length : Int) : Int) != ((Z.length : Int) : Int)))), (22, (.bool (((Z.length : Int) : Int) != ((Z.length : Int) : Int))))] (by kernel_rfl) ?_
  refine wr_done ?_
  refine wl_cond (((Z.length : Int) : Int) != ((Z.length : Int) : Int)) (by kernel_rfl) (fun c6 => ?_) (fun c6 => ?_)
  ·skip
   exact absurd c6 (by simp)
  ·skip
   have c6' : ((Z.length : Int) : Int) = (Z.length : Int) := rfl
   refine wl_skip_seq ?_
   refine wl_assoc ?_
   refine wl_assoc ?_
   refine wl_ops ?_
   refine wr_run 1 [(5, (.int (0)))] (by kernel_rfl) ?_
   refine wr_done ?_
   refine wl_loop (σ := Nat) (fun (zz : Nat) (lf : List AV) (st' : St) => ∃ (xs7 : Nat → AV) (v13 : Int), lf = [(.agg [(lst o1 encI N), (lst o2 encS Z)]), (.agg [(lst o3 encI N), (lst o4 encS Z)]), (.ptr a1 0), (.ptr a3 0), (.bool (false)), (.int (v13)), .junk, (.ptr a1 0), (lst o1 encI N), (.int ((N.length : Int))), (.ptr a3 0), (lst o3 encI N), (.int ((N.length : Int))), (.bool (((N.length : Int) : Int) != ((N.length : Int) : Int))), (.bool (false)), (.ptr a1 1), (lst o2 encS Z), (.int ((Z.length : Int))), (.ptr a3 1), (lst o4 encS Z), (.int ((Z.length : Int))), (.bool (((Z.length : Int) : Int) != ((Z.length : Int) : Int))), (.bool (((Z.length : Int) : Int) != ((Z.length : Int) : Int))), (xs7 23), (xs7 24), (xs7 25), (xs7 26), (xs7 27), (xs7 28), (xs7 29), (xs7 30), (xs7 31), (xs7 32), (xs7 33), (xs7 34), (xs7 35), (xs7 36), (xs7 37), (xs7 38), (xs7 39), (xs7 40), .junk, .junk, .junk, .junk, .junk, .junk, .junk, .junk, .junk, .junk, .junk, .junk, .junk, .junk, .junk, .junk, .junk, .junk] ∧ SP st [⟨a3, .cells [(lst o3 encI N), (lst o4 encS Z)], true⟩, ⟨a1, .cells [(lst o1 encI N), (lst o2 encS Z)], true⟩] [] st' ∧ (0 ≤ v13) ∧ (0 ≤ v13) ∧ (-1 ≤ v13) ∧ (-9223372036854775808 ≤ v13 ∧ v13 ≤ 9223372036854775807) ∧ (v13 ≤ (N.length : Int)) ∧ zz = (-v13 + 9223372036854775808).toNat) (fun z => z) _ ⟨(LX [(23, .junk), (24, .junk), (25, .junk), (26, .junk), (27, .junk), (28, .junk), (29, .junk), (30, .junk), (31, .junk), (32, .junk), (33, .junk), (34, .junk), (35, .junk), (36, .junk), (37, .junk), (38, .junk), (39, .junk), (40, .junk)]), 0, by kernel_rfl, H, by first | omega | (simp; omega) | simp, by first | omega | (simp; omega) | simp, by first | omega | (simp; omega) | simp, by first | omega | (simp; omega) | simp, by first | omega | (simp; omega) | simp, rfl⟩ ?_
   clear H
   intro zz7 lf st7 hI7 Q7 hN7 hE7 hX7
   obtain ⟨xs7, v13, rfl, H, hi7_0, hi7_1, hi7_2, hi7_3, hi7_5, hz7⟩ := hI7
   refine wl_tail ?_
   refine wl_assoc ?_
   refine wl_assoc ?_
   refine wl_ops ?_
   refine wr_run 2 [(23, (.int (v13))), (24, (.ptr a1 0))] (by kernel_rfl) ?_
   refine wr_load H 1 a1 0 _ true rfl (by kernel_rfl) (lst o1 encI N) (by kernel_rfl) (by kernel_rfl) ?_
   refine wr_run 2 [(26, (.int ((N.length : Int)))), (27, (.bool (decide ((v13 : Int) < ((N.length : Int) : Int)))))] (by kernel_rfl) ?_
   refine wr_done ?_
   refine wl_cond (decide ((v13 : Int) < ((N.length : Int) : Int))) (by kernel_rfl) (fun c42 => ?_) (fun c42 => ?_)
   ·skip
    have c42' : (v13 : Int) < (N.length : Int) := of_decide_eq_true c42
    refine wl_skip_seq ?_
    refine wl_assoc ?_
    refine wl_block fun Q43 hN43 hE43 hX43 => ?_
    refine wl_tail ?_
    refine wl_assoc ?_
    refine wl_draw0 (fun n => by kernel_rfl) ?_
    refine wd_run 1 [(30, (.ptr a1 0))] (by kernel_rfl) (by kernel_rfl) ?_
    refine wd_load H 1 a1 0 _ true rfl (by kernel_rfl) (lst o1 encI N) (by kernel_rfl) [] (by kernel_rfl) True.intro (by kernel_rfl) ?_
    refine wd_run 1 [(32, (.int (v13)))] (by kernel_rfl) (by kernel_rfl) ?_
    obtain ⟨y44, hy44⟩ := getx N (v13) (by omega)
    refine wd_pure (.lptr (N.flatMap encI) ((v13 : Int).toNat * 1)) (ev_iaddr o1 _ _ (by kernel_rfl) (v13) (by kernel_rfl) (by omega) (enc_len encI_len _) _) (by kernel_rfl) (by kernel_rfl) ?_
    refine wd_readl (.int (y44)) (ev_loade encI_len N ((v13 : Int).toNat) 0 y44 hy44 (by kernel_rfl) (.int (y44)) (by kernel_rfl) (by decide) (by decide)) (by kernel_rfl) (by kernel_rfl) ?_
    refine wd_run 1 [(35, (.ptr a3 0))] (by kernel_rfl) (by kernel_rfl) ?_
    refine wd_load H 0 a3 0 _ true rfl (by kernel_rfl) (lst o3 encI N) (by kernel_rfl) [] (by kernel_rfl) True.intro (by kernel_rfl) ?_
    refine wd_run 1 [(37, (.int (v13)))] (by kernel_rfl) (by kernel_rfl) ?_
    obtain ⟨y45, hy45⟩ := getx N (v13) (by omega)
    refine wd_pure (.lptr (N.flatMap encI) ((v13 : Int).toNat * 1)) (ev_iaddr o3 _ _ (by kernel_rfl) (v13) (by kernel_rfl) (by omega) (enc_len encI_len _) _) (by kernel_rfl) (by kernel_rfl) ?_
    obtain rfl : y44 = y45 := Option.some.inj (hy44.symm.trans hy45)
    refine wd_readl (.int (y44)) (ev_loade encI_len N ((v13 : Int).toNat) 0 y44 hy45 (by kernel_rfl) (.int (y44)) (by kernel_rfl) (by decide) (by decide)) (by kernel_rfl) (by kernel_rfl) ?_
    refine wd_run 1 [(40, (.bool ((y44 : Int) != (y44 : Int))))] (by kernel_rfl) (by kernel_rfl) ?_
    refine wd_done ?_
    refine wl_cond ((y44 : Int) != (y44 : Int)) (by kernel_rfl) (fun c46 => ?_) (fun c46 => ?_)
    ·skip
     exact absurd c46 (by simp)
    ·skip
     have c46' : (y44 : Int) = y44 := rfl
     refine wl_skip_seq ?_
     refine wl_skip ?_
     refine hN43 _ _ ?_
     refine wl_ops ?_
     refine wr_run 1 [(28, (.int (v13)))] (by kernel_rfl) ?_
     refine wr_bin (.int (v13)) (.int (1)) (.int (v13 + 1)) (by kernel_rfl) (by kernel_rfl) (add64e _ (by unfold I64; omega)) (by kernel_rfl) ?_
     refine wr_run 1 [(5, (.int (v13 + 1)))] (by kernel_rfl) ?_
     refine wr_done ?_
     refine wl_skip ?_
     refine hN7 _ _ _ ⟨(LX [(23, (.int (v13))), (24, (.ptr a1 0)), (25, (lst o1 encI N)), (26, (.int ((N.length : Int)))), (27, (.bool (decide ((v13 : Int) < ((N.length : Int) : Int))))), (28, (.int (v13))), (29, (.int (v13 + 1))), (30, (.ptr a1 0)), (31, (lst o1 encI N)), (32, (.int (v13))), (33, (.lptr (N.flatMap encI) ((v13 : Int).toNat * 1))), (34, (.int (y44))), (35, (.ptr a3 0)), (36, (lst o3 encI N)), (37, (.int (v13))), (38, (.lptr (N.flatMap encI) ((v13 : Int).toNat * 1))), (39, (.int (y44))), (40, (.bool ((y44 : Int) != (y44 : Int))))]), v13 + 1, by kernel_rfl, H, by first | omega | (simp; omega) | simp, by first | omega | (simp; omega) | simp, by first | omega | (simp; omega) | simp, by first | omega | (simp; omega) | simp, by first | omega | (simp; omega) | simp, rfl⟩ (by first | omega | (simp only; omega))
   ·skip
    have c42' : ¬ ((v13 : Int) < (N.length : Int)) := of_decide_eq_false c42
    refine wl_exit ?_
    refine hE7 _ _ ?_
    refine wl_assoc ?_
    refine wl_assoc ?_
    refine wl_ops ?_
    refine wr_run 1 [(6, (.int (0)))] (by kernel_rfl) ?_
    refine wr_done ?_
    refine wl_loop (σ := Nat) (fun (zz : Nat) (lf : List AV) (st' : St) => ∃ (xs47 : Nat → AV) (v53 : Int), lf = [(.agg [(lst o1 encI N), (lst o2 encS Z)]), (.agg [(lst o3 encI N), (lst o4 encS Z)]), (.ptr a1 0), (.ptr a3 0), (.bool (false)), (.int (v13)), (.int (v53)), (.ptr a1 0), (lst o1 encI N), (.int ((N.length : Int))), (.ptr a3 0), (lst o3 encI N), (.int ((N.length : Int))), (.bool (((N.length : Int) : Int) != ((N.length : Int) : Int))), (.bool (false)), (.ptr a1 1), (lst o2 encS Z), (.int ((Z.length : Int))), (.ptr a3 1), (lst o4 encS Z), (.int ((Z.length : Int))), (.bool (((Z.length : Int) : Int) != ((Z.length : Int) : Int))), (.bool (((Z.length : Int) : Int) != ((Z.length : Int) : Int))), (.int (v13)), (.ptr a1 0), (lst o1 encI N), (.int ((N.length : Int))), (.bool (decide ((v13 : Int) < ((N.length : Int) : Int)))), (xs7 28), (xs7 29), (xs7 30), (xs7 31), (xs7 32), (xs7 33), (xs7 34), (xs7 35), (xs7 36), (xs7 37), (xs7 38), (xs7 39), (xs7 40), (xs47 41), (xs47 42), (xs47 43), (xs47 44), (xs47 45), (xs47 46), (xs47 47), (xs47 48), (xs47 49), (xs47 50), (xs47 51), (xs47 52), (xs47 53), (xs47 54), (xs47 55), (xs47 56), (xs47 57), (xs47 58)] ∧ SP st [⟨a3, .cells [(lst o3 encI N), (lst o4 encS Z)], true⟩, ⟨a1, .cells [(lst o1 encI N), (lst o2 encS Z)], true⟩] [] st' ∧ (0 ≤ v53) ∧ (0 ≤ v53) ∧ (-1 ≤ v53) ∧ (-9223372036854775808 ≤ v53 ∧ v53 ≤ 9223372036854775807) ∧ (v53 ≤ (Z.length : Int)) ∧ zz = (-v53 + 9223372036854775808).toNat) (fun z => z) _ ⟨(LX [(41, .junk), (42, .junk), (43, .junk), (44, .junk), (45, .junk), (46, .junk), (47, .junk), (48, .junk), (49, .junk), (50, .junk), (51, .junk), (52, .junk), (53, .junk), (54, .junk), (55, .junk), (56, .junk), (57, .junk), (58, .junk)]), 0, by kernel_rfl, H, by first | omega | (simp; omega) | simp, by first | omega | (simp; omega) | simp, by first | omega | (simp; omega) | simp, by first | omega | (simp; omega) | simp, by first | omega | (simp; omega) | simp, rfl⟩ ?_
    clear H
    intro zz47 lf st47 hI47 Q47 hN47 hE47 hX47
    obtain ⟨xs47, v53, rfl, H, hi47_0, hi47_1, hi47_2, hi47_3, hi47_5, hz47⟩ := hI47
    refine wl_tail ?_
    refine wl_assoc ?_
    refine wl_assoc ?_
    refine wl_ops ?_
    refine wr_run 2 [(41, (.int (v53))), (42, (.ptr a1 1))] (by kernel_rfl) ?_
    refine wr_load H 1 a1 1 _ true rfl (by kernel_rfl) (lst o2 encS Z) (by kernel_rfl) (by kernel_rfl) ?_
    refine wr_run 2 [(44, (.int ((Z.length : Int)))), (45, (.bool (decide ((v53 : Int) < ((Z.length : Int) : Int)))))] (by kernel_rfl) ?_
    refine wr_done ?_
    refine wl_cond (decide ((v53 : Int) < ((Z.length : Int) : Int))) (by kernel_rfl) (fun c82 => ?_) (fun c82 => ?_)
    ·skip
     have c82' : (v53 : Int) < (Z.length : Int) := of_decide_eq_true c82
     refine wl_skip_seq ?_
     refine wl_assoc ?_
     refine wl_block fun Q83 hN83 hE83 hX83 => ?_
     refine wl_tail ?_
     refine wl_assoc ?_
     refine wl_draw0 (fun n => by kernel_rfl) ?_
     refine wd_run 1 [(48, (.ptr a1 1))] (by kernel_rfl) (by kernel_rfl) ?_
     refine wd_load H 1 a1 1 _ true rfl (by kernel_rfl) (lst o2 encS Z) (by kernel_rfl) [] (by kernel_rfl) True.intro (by kernel_rfl) ?_
     refine wd_run 1 [(50, (.int (v53)))] (by kernel_rfl) (by kernel_rfl) ?_
     obtain ⟨y84, hy84⟩ := getx Z (v53) (by omega)
     refine wd_pure (.lptr (Z.flatMap encS) ((v53 : Int).toNat * 1)) (ev_iaddr o2 _ _ (by kernel_rfl) (v53) (by kernel_rfl) (by omega) (enc_len encS_len _) _) (by kernel_rfl) (by kernel_rfl) ?_
     refine wd_readl (.str y84) (ev_loade encS_len Z ((v53 : Int).toNat) 0 y84 hy84 (by kernel_rfl) (.str y84) (by kernel_rfl) (by decide) (by decide)) (by kernel_rfl) (by kernel_rfl) ?_
     refine wd_run 1 [(53, (.ptr a3 1))] (by kernel_rfl) (by kernel_rfl) ?_
     refine wd_load H 0 a3 1 _ true rfl (by kernel_rfl) (lst o4 encS Z) (by kernel_rfl) [] (by kernel_rfl) True.intro (by kernel_rfl) ?_
     refine wd_run 1 [(55, (.int (v53)))] (by kernel_rfl) (by kernel_rfl) ?_
     obtain ⟨y85, hy85⟩ := getx Z (v53) (by omega)
     refine wd_pure (.lptr (Z.flatMap encS) ((v53 : Int).toNat * 1)) (ev_iaddr o4 _ _ (by kernel_rfl) (v53) (by kernel_rfl) (by omega) (enc_len encS_len _) _) (by kernel_rfl) (by kernel_rfl) ?_
     obtain rfl : y84 = y85 := Option.some.inj (hy84.symm.trans hy85)
     refine wd_readl (.str y84) (ev_loade encS_len Z ((v53 : Int).toNat) 0 y84 hy85 (by kernel_rfl) (.str y84) (by kernel_rfl) (by decide) (by decide)) (by kernel_rfl) (by kernel_rfl) ?_
     refine wd_run 1 [(58, (.bool (!(y84.toList == y84.toList))))] (by kernel_rfl) (by kernel_rfl) ?_
     refine wd_done ?_
     refine wl_cond (!(y84.toList == y84.toList)) (by kernel_rfl) (fun c86 => ?_) (fun c86 => ?_)
     ·skip
      have c86' : (y84.toList == y84.toList) = false := by simp at c86
      exact absurd c86' (by simp)
     ·skip
      have c86' : (y84.toList == y84.toList) = true := by simp
      refine wl_skip_seq ?_
      refine wl_skip ?_
      refine hN83 _ _ ?_
      refine wl_ops ?_
      refine wr_run 1 [(46, (.int (v53)))] (by kernel_rfl) ?_
      refine wr_bin (.int (v53)) (.int (1)) (.int (v53 + 1)) (by kernel_rfl) (by kernel_rfl) (add64e _ (by unfold I64; omega)) (by kernel_rfl) ?_
      refine wr_run 1 [(6, (.int (v53 + 1)))] (by kernel_rfl) ?_
      refine wr_done ?_
      refine wl_skip ?_
      refine hN47 _ _ _ ⟨(LX [(41, (.int (v53))), (42, (.ptr a1 1)), (43, (lst o2 encS Z)), (44, (.int ((Z.length : Int)))), (45, (.bool (decide ((v53 : Int) < ((Z.length : Int) : Int))))), (46, (.int (v53))), (47, (.int (v53 + 1))), (48, (.ptr a1 1)), (49, (lst o2 encS Z)), (50, (.int (v53))), (51, (.lptr (Z.flatMap encS) ((v53 : Int).toNat * 1))), (52, (.str y84)), (53, (.ptr a3 1)), (54, (lst o4 encS Z)), (55, (.int (v53))), (56, (.lptr (Z.flatMap encS) ((v53 : Int).toNat * 1))), (57, (.str y84)), (58, (.bool (!(y84.toList == y84.toList))))]), v53 + 1, by kernel_rfl, H, by first | omega | (simp; omega) | simp, by first | omega | (simp; omega) | simp, by first | omega | (simp; omega) | simp, by first | omega | (simp; omega) | simp, by first | omega | (simp; omega) | simp, rfl⟩ (by first | omega | (simp only; omega))
    ·skip
     have c82' : ¬ ((v53 : Int) < (Z.length : Int)) := of_decide_eq_false c82
     refine wl_exit ?_
     refine hE47 _ _ ?_
     refine wl_assoc ?_
     refine wl_ops ?_
     refine wr_run 1 [(4, (.bool (true)))] (by kernel_rfl) ?_
     refine wr_done ?_
     refine wl_ret ?_
     refine post_i (Or.inr rfl) (.bool (true)) (by kernel_rfl) ?_
     exact ⟨rfl, H.ext rfl⟩

set_option maxHeartbeats 4000000 in
theorem clos1 (x : AnewChest) (h : Nat) (st : St) (hc_h : st.get h = some (.cells [(.list .exact [] 0), (.list .exact [] 0)])) (hp : (x.Chest.People.length : Int) ≤ 1048576) (hc : (x.Chest.Copies.length : Int) ≤ 1048576) (hr : (x.Chest.Rules.length : Int) ≤ 1048576) (hw : (x.Words.length : Int) ≤ 1048576) (hq : (x.Copies.length : Int) ≤ 1048576) : WF Try.prog 6 [(.ptr h 0), (.lptr [(.int (x.Chest.Words)), (.int (x.Chest.Facts)), (lst .any encS x.Chest.People), (.int (x.Chest.Last)), (lst .any encCopy x.Chest.Copies), (lst .any encRule x.Chest.Rules), (.int (x.Person)), (lst .any encI x.Words), (lst .any encI x.Copies), (.int (x.Number)), (.int (x.Fact))] 0)] st fun r st' => ∃ (o87 : EF.Own) (N88 : List Int) (o89 : EF.Own) (Z90 : List ByteArray), r = (.fn 10 [] []) ∧ (Grown st st' (o87, 1) ∧ (o87 = .exact → N88 = [])) ∧ (Grown st st' (o89, 1) ∧ (o89 = .exact → Z90 = [])) ∧ ((N88.length : Int) ≤ 4503599627370496) ∧ ((Z90.length : Int) ≤ 4503599627370496) ∧ Eff [(h, .cells [(lst o87 encI N88), (lst o89 encS Z90)])] st st' := by
 refine wf_L c6 rfl ?_
 have H : SP st [⟨h, .cells [(.list .exact [] 0), (.list .exact [] 0)], false⟩] [] st := SP.startm _ (List.forall_mem_cons.2 ⟨⟨hc_h, rfl⟩, (by simp)⟩) (by simp)
 refine wl_tail ?_
 refine wl_assoc ?_
 refine wl_ops ?_
 refine wr_run 1 [(3, (.v .nilFunc))] (by kernel_rfl) ?_
 refine wr_done ?_
 refine wl_assoc ?_
 refine wl_ops ?_
 refine wr_run 1 [(8, (.lptr [(.int (x.Chest.Words)), (.int (x.Chest.Facts)), (lst .any encS x.Chest.People), (.int (x.Chest.Last)), (lst .any encCopy x.Chest.Copies), (lst .any encRule x.Chest.Rules), (.int (x.Person)), (lst .any encI x.Words), (lst .any encI x.Copies), (.int (x.Number)), (.int (x.Fact))] 0))] (by kernel_rfl) ?_
 refine wr_loadl [(.int (x.Chest.Words)), (.int (x.Chest.Facts)), (lst .any encS x.Chest.People), (.int (x.Chest.Last)), (lst .any encCopy x.Chest.Copies), (lst .any encRule x.Chest.Rules), (.int (x.Person)), (lst .any encI x.Words), (lst .any encI x.Copies), (.int (x.Number)), (.int (x.Fact))] 0 (by kernel_rfl) (.agg [(.int (x.Chest.Words)), (.int (x.Chest.Facts)), (lst .any encS x.Chest.People), (.int (x.Chest.Last)), (lst .any encCopy x.Chest.Copies), (lst .any encRule x.Chest.Rules)]) (by kernel_rfl) (by kernel_rfl) ?_
 refine wr_call [(.agg [(.int (x.Chest.Words)), (.int (x.Chest.Facts)), (lst .any encS x.Chest.People), (.int (x.Chest.Last)), (lst .any encCopy x.Chest.Copies), (lst .any encRule x.Chest.Rules)])] (by kernel_rfl) (by kernel_rfl) (WF.mono (check_ok x.Chest _ (by omega) (by omega) (by omega)) ?_)
 rintro r91 st92 (⟨n93, n94, e95, rfl, hf98, E96⟩ | ⟨rfl, hf101, hf102, hf103, hf104, hf105, hf106, hf107, E99⟩)
 ·skip
  replace H := H.then E96
  refine wr_run 7 [(7, (.tup [(.int (n93)), (.int (n94)), (.int (e95))])), (11, (.int (n93))), (12, (.int (n94))), (13, (.int (e95))), (4, (.int (n93))), (5, (.int (n94))), (6, (.int (e95)))] (by kernel_rfl) ?_
  refine wr_done ?_
  refine wl_assoc ?_
  refine wl_ops ?_
  refine wr_run 2 [(14, (.ptr h 0)), (15, (.int (n93)))] (by kernel_rfl) ?_
  refine wr_call [(.ptr h 0), (.int (n93))] (by kernel_rfl) (by kernel_rfl) ?_
  refine wf_L c8 rfl ?_
  refine wl_tail ?_
  refine wl_ops ?_
  refine wr_run 4 [(4, (.ptr h 0)), (5, (.ptr h 0)), (6, (.ptr h 0)), (7, (.ptr h 0))] (by kernel_rfl) ?_
  refine wr_load H 0 h 0 _ false rfl (by kernel_rfl) (.list .exact [] 0) (by kernel_rfl) (by kernel_rfl) ?_
  refine wr_run 2 [(9, (.int (n93))), (10, (lst .exact encI [n93]))] (by kernel_rfl) ?_
  replace H := H.grow 1
  refine wr_appendX encI_len encI_one H rfl 0 .exact rfl ([] : List Int) [n93] (by kernel_rfl) .exact (by kernel_rfl) (fun _ => rfl) (by first | omega | (simp; done) | (simp; omega)) rfl (by kernel_rfl) fun own109 l111 st110 hl111 el111 hx_l111 H => ?_
  simp only [List.length_cons, List.length_nil] at hl111
  refine wr_run 2 [(12, (.ptr h 0)), (13, (.ptr h 0))] (by kernel_rfl) ?_
  refine wr_store H 0 h 0 _ false rfl (by kernel_rfl) (lst own109 encI l111) (by kernel_rfl) [(lst own109 encI l111), (.list .exact [] 0)] (by kernel_rfl) (by kernel_rfl) (by kernel_rfl) (Nat.le_of_ble_eq_true rfl) (by kernel_rfl) (by kernel_rfl) fun st112 H => ?_
  refine wr_done ?_
  refine wl_skip ?_
  refine post_i (Or.inl rfl) (.tup []) (by kernel_rfl) ?_
  refine wr_done ?_
  refine wl_assoc ?_
  refine wl_ops ?_
  refine wr_run 2 [(17, (.ptr h 0)), (18, (.int (n94)))] (by kernel_rfl) ?_
  refine wr_call [(.ptr h 0), (.int (n94))] (by kernel_rfl) (by kernel_rfl) ?_
  refine wf_L c8 rfl ?_
  refine wl_tail ?_
  refine wl_ops ?_
  refine wr_run 4 [(4, (.ptr h 0)), (5, (.ptr h 0)), (6, (.ptr h 0)), (7, (.ptr h 0))] (by kernel_rfl) ?_
  refine wr_load H 0 h 0 _ false rfl (by kernel_rfl) (lst own109 encI l111) (by kernel_rfl) (by kernel_rfl) ?_
  refine wr_run 2 [(9, (.int (n94))), (10, (lst .exact encI [n94]))] (by kernel_rfl) ?_
  refine wr_appendX encI_len encI_one H rfl 0 own109 rfl l111 [n94] (by kernel_rfl) .exact (by kernel_rfl) hx_l111 (by first | omega | (simp; done) | (simp; omega)) rfl (by kernel_rfl) fun own113 l115 st114 hl115 el115 hx_l115 H => ?_
  simp only [List.length_cons, List.length_nil] at hl115
  refine wr_run 2 [(12, (.ptr h 0)), (13, (.ptr h 0))] (by kernel_rfl) ?_
  refine wr_store H 0 h 0 _ false rfl (by kernel_rfl) (lst own113 encI l115) (by kernel_rfl) [(lst own113 encI l115), (.list .exact [] 0)] (by kernel_rfl) (by kernel_rfl) (by kernel_rfl) (Nat.le_of_ble_eq_true rfl) (by kernel_rfl) (by kernel_rfl) fun st116 H => ?_
  refine wr_done ?_
  refine wl_skip ?_
  refine post_i (Or.inl rfl) (.tup []) (by kernel_rfl) ?_
  refine wr_done ?_
  refine wl_assoc ?_
  refine wl_ops ?_
  refine wr_run 2 [(20, (.ptr h 0)), (21, (.int (e95)))] (by kernel_rfl) ?_
  refine wr_call [(.ptr h 0), (.int (e95))] (by kernel_rfl) (by kernel_rfl) ?_
  refine wf_L c9 rfl ?_
  refine wl_tail ?_
  refine wl_ops ?_
  refine wr_run 4 [(4, (.ptr h 0)), (5, (.ptr h 0)), (6, (.ptr h 0)), (7, (.ptr h 0))] (by kernel_rfl) ?_
  refine wr_load H 0 h 0 _ false rfl (by kernel_rfl) (lst own113 encI l115) (by kernel_rfl) (by kernel_rfl) ?_
  refine wr_run 2 [(9, (.int (e95))), (10, (lst .exact encI [e95]))] (by kernel_rfl) ?_
  refine wr_appendX encI_len encI_one H rfl 0 own113 rfl l115 [e95] (by kernel_rfl) .exact (by kernel_rfl) hx_l115 (by first | omega | (simp; done) | (simp; omega)) rfl (by kernel_rfl) fun own117 l119 st118 hl119 el119 hx_l119 H => ?_
  simp only [List.length_cons, List.length_nil] at hl119
  refine wr_run 2 [(12, (.ptr h 0)), (13, (.ptr h 0))] (by kernel_rfl) ?_
  refine wr_store H 0 h 0 _ false rfl (by kernel_rfl) (lst own117 encI l119) (by kernel_rfl) [(lst own117 encI l119), (.list .exact [] 0)] (by kernel_rfl) (by kernel_rfl) (by kernel_rfl) (Nat.le_of_ble_eq_true rfl) (by kernel_rfl) (by kernel_rfl) fun st120 H => ?_
  refine wr_done ?_
  refine wl_skip ?_
  refine post_i (Or.inl rfl) (.tup []) (by kernel_rfl) ?_
  refine wr_done ?_
  refine wl_assoc ?_
  refine wl_ops ?_
  refine wr_run 1 [(3, (.fn 10 [] []))] (by kernel_rfl) ?_
  refine wr_done ?_
  refine wl_ret ?_
  refine post_i (Or.inr rfl) (.fn 10 [] []) (by kernel_rfl) ?_
  exact ⟨own117, l119, .exact, [], rfl, ⟨H.tok 0 rfl, hx_l119⟩, ⟨True.intro, fun _ => rfl⟩, by first | omega | (simp; omega) | simp, by first | omega | (simp; omega) | simp, H.eff _ (List.forall_mem_cons.2 ⟨(fun _ => Or.inl (by simp)), (by simp)⟩) (List.forall_mem_cons.2 ⟨⟨_, List.mem_of_getElem? (i := 0) rfl, rfl, rfl⟩, (by simp)⟩)⟩
 ·skip
  replace H := H.then E99
  refine wr_run 7 [(7, (.tup [(.int (0)), (.int (0)), (.int (0))])), (11, (.int (0))), (12, (.int (0))), (13, (.int (0))), (4, (.int (0))), (5, (.int (0))), (6, (.int (0)))] (by kernel_rfl) ?_
  refine wr_done ?_
  refine wl_assoc ?_
  refine wl_ops ?_
  refine wr_run 2 [(14, (.ptr h 0)), (15, (.int (0)))] (by kernel_rfl) ?_
  refine wr_call [(.ptr h 0), (.int (0))] (by kernel_rfl) (by kernel_rfl) ?_
  refine wf_L c8 rfl ?_
  refine wl_tail ?_
  refine wl_ops ?_
  refine wr_run 4 [(4, (.ptr h 0)), (5, (.ptr h 0)), (6, (.ptr h 0)), (7, (.ptr h 0))] (by kernel_rfl) ?_
  refine wr_load H 0 h 0 _ false rfl (by kernel_rfl) (.list .exact [] 0) (by kernel_rfl) (by kernel_rfl) ?_
  refine wr_run 2 [(9, (.int (0))), (10, (lst .exact encI [0]))] (by kernel_rfl) ?_
  replace H := H.grow 1
  refine wr_appendX encI_len encI_one H rfl 0 .exact rfl ([] : List Int) [0] (by kernel_rfl) .exact (by kernel_rfl) (fun _ => rfl) (by first | omega | (simp; done) | (simp; omega)) rfl (by kernel_rfl) fun own122 l124 st123 hl124 el124 hx_l124 H => ?_
  simp only [List.length_cons, List.length_nil] at hl124
  refine wr_run 2 [(12, (.ptr h 0)), (13, (.ptr h 0))] (by kernel_rfl) ?_
  refine wr_store H 0 h 0 _ false rfl (by kernel_rfl) (lst own122 encI l124) (by kernel_rfl) [(lst own122 encI l124), (.list .exact [] 0)] (by kernel_rfl) (by kernel_rfl) (by kernel_rfl) (Nat.le_of_ble_eq_true rfl) (by kernel_rfl) (by kernel_rfl) fun st125 H => ?_
  refine wr_done ?_
  refine wl_skip ?_
  refine post_i (Or.inl rfl) (.tup []) (by kernel_rfl) ?_
  refine wr_done ?_
  refine wl_assoc ?_
  refine wl_ops ?_
  refine wr_run 2 [(17, (.ptr h 0)), (18, (.int (0)))] (by kernel_rfl) ?_
  refine wr_call [(.ptr h 0), (.int (0))] (by kernel_rfl) (by kernel_rfl) ?_
  refine wf_L c8 rfl ?_
  refine wl_tail ?_
  refine wl_ops ?_
  refine wr_run 4 [(4, (.ptr h 0)), (5, (.ptr h 0)), (6, (.ptr h 0)), (7, (.ptr h 0))] (by kernel_rfl) ?_
  refine wr_load H 0 h 0 _ false rfl (by kernel_rfl) (lst own122 encI l124) (by kernel_rfl) (by kernel_rfl) ?_
  refine wr_run 2 [(9, (.int (0))), (10, (lst .exact encI [0]))] (by kernel_rfl) ?_
  refine wr_appendX encI_len encI_one H rfl 0 own122 rfl l124 [0] (by kernel_rfl) .exact (by kernel_rfl) hx_l124 (by first | omega | (simp; done) | (simp; omega)) rfl (by kernel_rfl) fun own126 l128 st127 hl128 el128 hx_l128 H => ?_
  simp only [List.length_cons, List.length_nil] at hl128
  refine wr_run 2 [(12, (.ptr h 0)), (13, (.ptr h 0))] (by kernel_rfl) ?_
  refine wr_store H 0 h 0 _ false rfl (by kernel_rfl) (lst own126 encI l128) (by kernel_rfl) [(lst own126 encI l128), (.list .exact [] 0)] (by kernel_rfl) (by kernel_rfl) (by kernel_rfl) (Nat.le_of_ble_eq_true rfl) (by kernel_rfl) (by kernel_rfl) fun st129 H => ?_
  refine wr_done ?_
  refine wl_skip ?_
  refine post_i (Or.inl rfl) (.tup []) (by kernel_rfl) ?_
  refine wr_done ?_
  refine wl_assoc ?_
  refine wl_ops ?_
  refine wr_run 2 [(20, (.ptr h 0)), (21, (.int (0)))] (by kernel_rfl) ?_
  refine wr_call [(.ptr h 0), (.int (0))] (by kernel_rfl) (by kernel_rfl) ?_
  refine wf_L c9 rfl ?_
  refine wl_tail ?_
  refine wl_ops ?_
  refine wr_run 4 [(4, (.ptr h 0)), (5, (.ptr h 0)), (6, (.ptr h 0)), (7, (.ptr h 0))] (by kernel_rfl) ?_
  refine wr_load H 0 h 0 _ false rfl (by kernel_rfl) (lst own126 encI l128) (by kernel_rfl) (by kernel_rfl) ?_
  refine wr_run 2 [(9, (.int (0))), (10, (lst .exact encI [0]))] (by kernel_rfl) ?_
  refine wr_appendX encI_len encI_one H rfl 0 own126 rfl l128 [0] (by kernel_rfl) .exact (by kernel_rfl) hx_l128 (by first | omega | (simp; done) | (simp; omega)) rfl (by kernel_rfl) fun own130 l132 st131 hl132 el132 hx_l132 H => ?_
  simp only [List.length_cons, List.length_nil] at hl132
  refine wr_run 2 [(12, (.ptr h 0)), (13, (.ptr h 0))] (by kernel_rfl) ?_
  refine wr_store H 0 h 0 _ false rfl (by kernel_rfl) (lst own130 encI l132) (by kernel_rfl) [(lst own130 encI l132), (.list .exact [] 0)] (by kernel_rfl) (by kernel_rfl) (by kernel_rfl) (Nat.le_of_ble_eq_true rfl) (by kernel_rfl) (by kernel_rfl) fun st133 H => ?_
  refine wr_done ?_
  refine wl_skip ?_
  refine post_i (Or.inl rfl) (.tup []) (by kernel_rfl) ?_
  refine wr_done ?_
  refine wl_assoc ?_
  refine wl_ops ?_
  refine wr_run 1 [(3, (.fn 10 [] []))] (by kernel_rfl) ?_
  refine wr_done ?_
  refine wl_ret ?_
  refine post_i (Or.inr rfl) (.fn 10 [] []) (by kernel_rfl) ?_
  exact ⟨own130, l132, .exact, [], rfl, ⟨H.tok 0 rfl, hx_l132⟩, ⟨True.intro, fun _ => rfl⟩, by first | omega | (simp; omega) | simp, by first | omega | (simp; omega) | simp, H.eff _ (List.forall_mem_cons.2 ⟨(fun _ => Or.inl (by simp)), (by simp)⟩) (List.forall_mem_cons.2 ⟨⟨_, List.mem_of_getElem? (i := 0) rfl, rfl, rfl⟩, (by simp)⟩)⟩

set_option maxHeartbeats 4000000 in
theorem clos2 (x : AnewChest) (h : Nat) (st : St) (hc_h : st.get h = some (.cells [(.list .exact [] 0), (.list .exact [] 0)])) (hp : (x.Chest.People.length : Int) ≤ 1048576) (hc : (x.Chest.Copies.length : Int) ≤ 1048576) (hr : (x.Chest.Rules.length : Int) ≤ 1048576) (hw : (x.Words.length : Int) ≤ 1048576) (hq : (x.Copies.length : Int) ≤ 1048576) : WF Try.prog 11 [(.ptr h 0), (.lptr [(.int (x.Chest.Words)), (.int (x.Chest.Facts)), (lst .any encS x.Chest.People), (.int (x.Chest.Last)), (lst .any encCopy x.Chest.Copies), (lst .any encRule x.Chest.Rules), (.int (x.Person)), (lst .any encI x.Words), (lst .any encI x.Copies), (.int (x.Number)), (.int (x.Fact))] 0)] st fun r st' => ∃ (o134 : EF.Own) (N135 : List Int) (o136 : EF.Own) (Z137 : List ByteArray) (o138 : EF.Own) (l139 : List Int) (c140 : Nat), r = (.fn 14 [] [(.ptr c140 0)]) ∧ (Grown st st' (o134, 1) ∧ (o134 = .exact → N135 = [])) ∧ (Grown st st' (o136, 1) ∧ (o136 = .exact → Z137 = [])) ∧ ((N135.length : Int) ≤ 4503599627370496) ∧ ((Z137.length : Int) ≤ 4503599627370496) ∧ ((l139.length : Int) ≤ 4503599627370496) ∧ (Grown st st' (o138, 1) ∧ (o138 = .exact → l139 = [])) ∧ (∀ a, o138 = .tok a → o134 ≠ .tok a) ∧ (∀ a, o138 = .tok a → o136 ≠ .tok a) ∧ New [(c140, .cells [(lst o138 encI l139)])] st st' ∧ Eff [(h, .cells [(lst o134 encI N135), (lst o136 encS Z137)])] st st' := by
 refine wf_L c11 rfl ?_
 have H : SP st [⟨h, .cells [(.list .exact [] 0), (.list .exact [] 0)], false⟩] [] st := SP.startm _ (List.forall_mem_cons.2 ⟨⟨hc_h, rfl⟩, (by simp)⟩) (by simp)
 refine wl_tail ?_
 refine wl_assoc ?_
 refine wl_ops ?_
 refine wr_run 1 [(3, (.v .nilFunc))] (by kernel_rfl) ?_
 refine wr_done ?_
 refine wl_assoc ?_
 refine wl_ops ?_
 refine wr_run 1 [(7, (.lptr [(.int (x.Chest.Words)), (.int (x.Chest.Facts)), (lst .any encS x.Chest.People), (.int (x.Chest.Last)), (lst .any encCopy x.Chest.Copies), (lst .any encRule x.Chest.Rules), (.int (x.Person)), (lst .any encI x.Words), (lst .any encI x.Copies), (.int (x.Number)), (.int (x.Fact))] 0))] (by kernel_rfl) ?_
 refine wr_loadl [(.int (x.Chest.Words)), (.int (x.Chest.Facts)), (lst .any encS x.Chest.People), (.int (x.Chest.Last)), (lst .any encCopy x.Chest.Copies), (lst .any encRule x.Chest.Rules), (.int (x.Person)), (lst .any encI x.Words), (lst .any encI x.Copies), (.int (x.Number)), (.int (x.Fact))] 0 (by kernel_rfl) (.agg [(.int (x.Chest.Words)), (.int (x.Chest.Facts)), (lst .any encS x.Chest.People), (.int (x.Chest.Last)), (lst .any encCopy x.Chest.Copies), (lst .any encRule x.Chest.Rules)]) (by kernel_rfl) (by kernel_rfl) ?_
 refine wr_call [(.agg [(.int (x.Chest.Words)), (.int (x.Chest.Facts)), (lst .any encS x.Chest.People), (.int (x.Chest.Last)), (lst .any encCopy x.Chest.Copies), (lst .any encRule x.Chest.Rules)])] (by kernel_rfl) (by kernel_rfl) (WF.mono (lost_ok x.Chest _ (by omega) (by omega) (by omega)) ?_)
 rintro r141 st142 ⟨own143, l144, e145, rfl, hf148, hf149, E146⟩
 have H150 := H
 replace H := H.then E146
 obtain ⟨hg152, hx153⟩ := hf149
 replace H := H.addtok H150 _ _ hg152
 refine wr_run 3 [(6, (.tup [(lst own143 encI l144), (.int (e145))])), (10, (lst own143 encI l144)), (11, (.int (e145)))] (by kernel_rfl) ?_
 refine wr_alloc H (by kernel_rfl) fun a154 st155 H => ?_
 refine wr_store H 0 a154 0 _ true rfl (by kernel_rfl) (lst own143 encI l144) (by kernel_rfl) [(lst own143 encI l144)] (by kernel_rfl) (by kernel_rfl) (by kernel_rfl) (Nat.le_of_ble_eq_true rfl) (by kernel_rfl) (by kernel_rfl) fun st156 H => ?_
 refine wr_run 1 [(5, (.int (e145)))] (by kernel_rfl) ?_
 refine wr_done ?_
 refine wl_assoc ?_
 refine wl_ops ?_
 refine wr_run 1 [(12, (.ptr h 0))] (by kernel_rfl) ?_
 refine wr_load H 0 a154 0 _ true rfl (by kernel_rfl) (lst own143 encI l144) (by kernel_rfl) (by kernel_rfl) ?_
 refine wr_call [(.ptr h 0), (lst own143 encI l144)] (by kernel_rfl) (by kernel_rfl) ?_
 refine wf_L c13 rfl ?_
 refine wl_tail ?_
 refine wl_ops ?_
 refine wr_run 2 [(4, (.ptr h 0)), (5, (lst own143 encI l144))] (by kernel_rfl) ?_
 refine wr_call [(.ptr h 0), (lst own143 encI l144), (.fn 8 [] [])] (by kernel_rfl) (by kernel_rfl) ?_
 refine wf_L c47 rfl ?_
 refine wl_tail ?_
 refine wl_assoc ?_
 refine wl_ops ?_
 refine wr_run 4 [(7, (.ptr h 0)), (8, (.ptr h 0)), (9, (.ptr h 0)), (10, (.ptr h 0))] (by kernel_rfl) ?_
 refine wr_load H 1 h 0 _ false rfl (by kernel_rfl) (.list .exact [] 0) (by kernel_rfl) (by kernel_rfl) ?_
 refine wr_run 3 [(12, (lst own143 encI l144)), (13, (.int ((l144.length : Int)))), (14, (lst .exact encI [(l144.length : Int)]))] (by kernel_rfl) ?_
 replace H := H.grow 1
 refine wr_appendX encI_len encI_one H rfl 0 .exact rfl ([] : List Int) [(l144.length : Int)] (by kernel_rfl) .exact (by kernel_rfl) (fun _ => rfl) (by first | omega | (simp; done) | (simp; omega)) rfl (by kernel_rfl) fun own329 l331 st330 hl331 el331 hx_l331 H => ?_
 simp only [List.length_cons, List.length_nil] at hl331
 refine wr_run 2 [(16, (.ptr h 0)), (17, (.ptr h 0))] (by kernel_rfl) ?_
 refine wr_store H 1 h 0 _ false rfl (by kernel_rfl) (lst own329 encI l331) (by kernel_rfl) [(lst own329 encI l331), (.list .exact [] 0)] (by kernel_rfl) (by kernel_rfl) (by kernel_rfl) (Nat.le_of_ble_eq_true rfl) (by kernel_rfl) (by kernel_rfl) fun st332 H => ?_
 refine wr_done ?_
 refine wl_assoc ?_
 refine wl_ops ?_
 refine wr_run 1 [(6, (.int (0)))] (by kernel_rfl) ?_
 refine wr_done ?_
 refine wl_loop (σ := Nat) (fun (zz : Nat) (lf : List AV) (st' : St) => ∃ (xs333 : Nat → AV) (v341 : Int) (own355 : EF.Own) (l356 : List Int), lf = [(.ptr h 0), (lst own143 encI l144), (.fn 8 [] []), .junk, .junk, .junk, (.int (v341)), (.ptr h 0), (.ptr h 0), (.ptr h 0), (.ptr h 0), (.list .exact [] 0), (lst own143 encI l144), (.int ((l144.length : Int))), (lst .exact encI [(l144.length : Int)]), (lst own329 encI l331), (.ptr h 0), (.ptr h 0), (xs333 18), (xs333 19), (xs333 20), (xs333 21), (xs333 22), (xs333 23), (xs333 24), (xs333 25), (xs333 26), (xs333 27), (xs333 28), (xs333 29), (xs333 30)] ∧ SP st [⟨a154, .cells [(lst own143 encI l144)], true⟩, ⟨h, .cells [(lst own355 encI l356), (.list .exact [] 0)], false⟩] [(own355, 1), (own143, 1)] st' ∧ (0 ≤ v341) ∧ (0 ≤ v341) ∧ (-1 ≤ v341) ∧ (-9223372036854775808 ≤ v341 ∧ v341 ≤ 9223372036854775807) ∧ (v341 ≤ (l144.length : Int)) ∧ (v341 ≤ 1048576) ∧ ((l356.length : Int) ≤ (l331.length : Int) + v341) ∧ (own355 = .exact → l356 = []) ∧ zz = (-v341 + 9223372036854775808).toNat) (fun z => z) _ ⟨(LX [(18, .junk), (19, .junk), (20, .junk), (21, .junk), (22, .junk), (23, .junk), (24, .junk), (25, .junk), (26, .junk), (27, .junk), (28, .junk), (29, .junk), (30, .junk)]), 0, own329, l331, by kernel_rfl, H, by first | omega | (simp; omega) | simp, by first | omega | (simp; omega) | simp, by first | omega | (simp; omega) | simp, by first | omega | (simp; omega) | simp, by first | omega | (simp; omega) | simp, by first | omega | (simp; omega) | simp, by first | omega | (simp; omega) | simp, hx_l331, rfl⟩ ?_
 clear H
 intro zz333 lf st333 hI333 Q333 hN333 hE333 hX333
 obtain ⟨xs333, v341, own355, l356, rfl, H, hi333_0, hi333_1, hi333_2, hi333_3, hi333_5, hi333_6, hi333_7, hx_l356, hz333⟩ := hI333
 refine wl_tail ?_
 refine wl_assoc ?_
 refine wl_assoc ?_
 refine wl_ops ?_
 refine wr_run 4 [(18, (.int (v341))), (19, (lst own143 encI l144)), (20, (.int ((l144.length : Int)))), (21, (.bool (decide ((v341 : Int) < ((l144.length : Int) : Int)))))] (by kernel_rfl) ?_
 refine wr_done ?_
 refine wl_cond (decide ((v341 : Int) < ((l144.length : Int) : Int))) (by kernel_rfl) (fun c378 => ?_) (fun c378 => ?_)
 ·skip
  have c378' : (v341 : Int) < (l144.length : Int) := of_decide_eq_true c378
  refine wl_skip_seq ?_
  refine wl_assoc ?_
  refine wl_block fun Q379 hN379 hE379 hX379 => ?_
  refine wl_tail ?_
  refine wl_ops ?_
  refine wr_run 4 [(24, (.fn 8 [] [])), (25, (.ptr h 0)), (26, (lst own143 encI l144)), (27, (.int (v341)))] (by kernel_rfl) ?_
  refine wr_iaddre encI_len own143 l144 (by kernel_rfl) (v341) (by kernel_rfl) (by omega) (by kernel_rfl) fun y380 hy380 => ?_
  refine wr_loade encI_len l144 ((v341 : Int).toNat) 0 y380 hy380 (by kernel_rfl) (.int (y380)) (by kernel_rfl) (by decide) (by decide) (by kernel_rfl) ?_
  refine wr_callv (.fn 8 [] []) (by kernel_rfl) [(.ptr h 0), (.int (y380))] (by kernel_rfl) (by kernel_rfl) ?_
  refine wf_L c8 rfl ?_
  refine wl_tail ?_
  refine wl_ops ?_
  refine wr_run 4 [(4, (.ptr h 0)), (5, (.ptr h 0)), (6, (.ptr h 0)), (7, (.ptr h 0))] (by kernel_rfl) ?_
  refine wr_load H 1 h 0 _ false rfl (by kernel_rfl) (lst own355 encI l356) (by kernel_rfl) (by kernel_rfl) ?_
  refine wr_run 2 [(9, (.int (y380))), (10, (lst .exact encI [y380]))] (by kernel_rfl) ?_
  refine wr_appendX encI_len encI_one H rfl 0 own355 rfl l356 [y380] (by kernel_rfl) .exact (by kernel_rfl) hx_l356 (by first | omega | (simp; done) | (simp; omega)) rfl (by kernel_rfl) fun own381 l383 st382 hl383 el383 hx_l383 H => ?_
  simp only [List.length_cons, List.length_nil] at hl383
  refine wr_run 2 [(12, (.ptr h 0)), (13, (.ptr h 0))] (by kernel_rfl) ?_
  refine wr_store H 1 h 0 _ false rfl (by kernel_rfl) (lst own381 encI l383) (by kernel_rfl) [(lst own381 encI l383), (.list .exact [] 0)] (by kernel_rfl) (by kernel_rfl) (by kernel_rfl) (Nat.le_of_ble_eq_true rfl) (by kernel_rfl) (by kernel_rfl) fun st384 H => ?_
  refine wr_done ?_
  refine wl_skip ?_
  refine post_i (Or.inl rfl) (.tup []) (by kernel_rfl) ?_
  refine wr_done ?_
  refine wl_skip ?_
  refine hN379 _ _ ?_
  refine wl_ops ?_
  refine wr_run 1 [(22, (.int (v341)))] (by kernel_rfl) ?_
  refine wr_bin (.int (v341)) (.int (1)) (.int (v341 + 1)) (by kernel_rfl) (by kernel_rfl) (add64e _ (by unfold I64; omega)) (by kernel_rfl) ?_
  refine wr_run 1 [(6, (.int (v341 + 1)))] (by kernel_rfl) ?_
  refine wr_done ?_
  refine wl_skip ?_
  refine hN333 _ _ _ ⟨(LX [(18, (.int (v341))), (19, (lst own143 encI l144)), (20, (.int ((l144.length : Int)))), (21, (.bool (decide ((v341 : Int) < ((l144.length : Int) : Int))))), (22, (.int (v341))), (23, (.int (v341 + 1))), (24, (.fn 8 [] [])), (25, (.ptr h 0)), (26, (lst own143 encI l144)), (27, (.int (v341))), (28, (.lptr (l144.flatMap encI) ((v341 : Int).toNat * 1))), (29, (.int (y380))), (30, (.tup []))]), v341 + 1, own381, l383, by kernel_rfl, H, by first | omega | (simp; omega) | simp, by first | omega | (simp; omega) | simp, by first | omega | (simp; omega) | simp, by first | omega | (simp; omega) | simp, by first | omega | (simp; omega) | simp, by first | omega | (simp; omega) | simp, by first | omega | (simp; omega) | simp, hx_l383, rfl⟩ (by first | omega | (simp only; omega))
 ·skip
  have c378' : ¬ ((v341 : Int) < (l144.length : Int)) := of_decide_eq_false c378
  refine wl_exit ?_
  refine hE333 _ _ ?_
  refine wl_skip ?_
  refine post_i (Or.inl rfl) (.tup []) (by kernel_rfl) ?_
  refine wr_done ?_
  refine wl_skip ?_
  refine post_i (Or.inl rfl) (.tup []) (by kernel_rfl) ?_
  refine wr_done ?_
  refine wl_assoc ?_
  refine wl_ops ?_
  refine wr_run 2 [(15, (.ptr h 0)), (16, (.int (e145)))] (by kernel_rfl) ?_
  refine wr_call [(.ptr h 0), (.int (e145))] (by kernel_rfl) (by kernel_rfl) ?_
  refine wf_L c9 rfl ?_
  refine wl_tail ?_
  refine wl_ops ?_
  refine wr_run 4 [(4, (.ptr h 0)), (5, (.ptr h 0)), (6, (.ptr h 0)), (7, (.ptr h 0))] (by kernel_rfl) ?_
  refine wr_load H 1 h 0 _ false rfl (by kernel_rfl) (lst own355 encI l356) (by kernel_rfl) (by kernel_rfl) ?_
  refine wr_run 2 [(9, (.int (e145))), (10, (lst .exact encI [e145]))] (by kernel_rfl) ?_
  refine wr_appendX encI_len encI_one H rfl 0 own355 rfl l356 [e145] (by kernel_rfl) .exact (by kernel_rfl) hx_l356 (by first | omega | (simp; done) | (simp; omega)) rfl (by kernel_rfl) fun own385 l387 st386 hl387 el387 hx_l387 H => ?_
  simp only [List.length_cons, List.length_nil] at hl387
  refine wr_run 2 [(12, (.ptr h 0)), (13, (.ptr h 0))] (by kernel_rfl) ?_
  refine wr_store H 1 h 0 _ false rfl (by kernel_rfl) (lst own385 encI l387) (by kernel_rfl) [(lst own385 encI l387), (.list .exact [] 0)] (by kernel_rfl) (by kernel_rfl) (by kernel_rfl) (Nat.le_of_ble_eq_true rfl) (by kernel_rfl) (by kernel_rfl) fun st388 H => ?_
  refine wr_done ?_
  refine wl_skip ?_
  refine post_i (Or.inl rfl) (.tup []) (by kernel_rfl) ?_
  refine wr_done ?_
  refine wl_assoc ?_
  refine wl_ops ?_
  refine wr_run 2 [(18, (.fn 14 [] [(.ptr a154 0)])), (3, (.fn 14 [] [(.ptr a154 0)]))] (by kernel_rfl) ?_
  refine wr_done ?_
  refine wl_ret ?_
  refine post_i (Or.inr rfl) (.fn 14 [] [(.ptr a154 0)]) (by kernel_rfl) ?_
  exact ⟨own385, l387, .exact, [], own143, l144, a154, rfl, ⟨H.tok 0 rfl, hx_l387⟩, ⟨True.intro, fun _ => rfl⟩, by first | omega | (simp; omega) | simp, by first | omega | (simp; omega) | simp, by first | omega | (simp; omega) | simp, ⟨H.tok 1 rfl, hx153⟩, (H.apart2 1 0 rfl rfl (by decide)), (fun a _ e => nomatch e), H.news [0] (by decide) _ rfl, H.eff _ (List.forall_mem_cons.2 ⟨(fun e => nomatch e), (List.forall_mem_cons.2 ⟨(fun _ => Or.inl (by simp)), (by simp)⟩)⟩) (List.forall_mem_cons.2 ⟨⟨_, List.mem_of_getElem? (i := 1) rfl, rfl, rfl⟩, (by simp)⟩)⟩

set_option maxHeartbeats 4000000 in
theorem clos3 (x : AnewChest) (h : Nat) (st : St) (hc_h : st.get h = some (.cells [(.list .exact [] 0), (.list .exact [] 0)])) (hp : (x.Chest.People.length : Int) ≤ 1048576) (hc : (x.Chest.Copies.length : Int) ≤ 1048576) (hr : (x.Chest.Rules.length : Int) ≤ 1048576) (hw : (x.Words.length : Int) ≤ 1048576) (hq : (x.Copies.length : Int) ≤ 1048576) : WF Try.prog 16 [(.ptr h 0), (.lptr [(.int (x.Chest.Words)), (.int (x.Chest.Facts)), (lst .any encS x.Chest.People), (.int (x.Chest.Last)), (lst .any encCopy x.Chest.Copies), (lst .any encRule x.Chest.Rules), (.int (x.Person)), (lst .any encI x.Words), (lst .any encI x.Copies), (.int (x.Number)), (.int (x.Fact))] 0)] st fun r st' => ∃ (o389 : EF.Own) (N390 : List Int) (o391 : EF.Own) (Z392 : List ByteArray) (o393 : EF.Own) (l394 : List Int) (c395 : Nat), r = (.fn 18 [] [(.ptr c395 0)]) ∧ (Grown st st' (o389, 1) ∧ (o389 = .exact → N390 = [])) ∧ (Grown st st' (o391, 1) ∧ (o391 = .exact → Z392 = [])) ∧ ((N390.length : Int) ≤ 4503599627370496) ∧ ((Z392.length : Int) ≤ 4503599627370496) ∧ ((l394.length : Int) ≤ 4503599627370496) ∧ (Grown st st' (o393, 1) ∧ (o393 = .exact → l394 = [])) ∧ (∀ a, o393 = .tok a → o389 ≠ .tok a) ∧ (∀ a, o393 = .tok a → o391 ≠ .tok a) ∧ New [(c395, .cells [(lst o393 encI l394)])] st st' ∧ Eff [(h, .cells [(lst o389 encI N390), (lst o391 encS Z392)])] st st' := by
 refine wf_L c16 rfl ?_
 have H : SP st [⟨h, .cells [(.list .exact [] 0), (.list .exact [] 0)], false⟩] [] st := SP.startm _ (List.forall_mem_cons.2 ⟨⟨hc_h, rfl⟩, (by simp)⟩) (by simp)
 refine wl_tail ?_
 refine wl_assoc ?_
 refine wl_ops ?_
 refine wr_run 1 [(3, (.v .nilFunc))] (by kernel_rfl) ?_
 refine wr_done ?_
 refine wl_assoc ?_
 refine wl_ops ?_
 refine wr_run 1 [(7, (.lptr [(.int (x.Chest.Words)), (.int (x.Chest.Facts)), (lst .any encS x.Chest.People), (.int (x.Chest.Last)), (lst .any encCopy x.Chest.Copies), (lst .any encRule x.Chest.Rules), (.int (x.Person)), (lst .any encI x.Words), (lst .any encI x.Copies), (.int (x.Number)), (.int (x.Fact))] 0))] (by kernel_rfl) ?_
 refine wr_loadl [(.int (x.Chest.Words)), (.int (x.Chest.Facts)), (lst .any encS x.Chest.People), (.int (x.Chest.Last)), (lst .any encCopy x.Chest.Copies), (lst .any encRule x.Chest.Rules), (.int (x.Person)), (lst .any encI x.Words), (lst .any encI x.Copies), (.int (x.Number)), (.int (x.Fact))] 0 (by kernel_rfl) (.agg [(.int (x.Chest.Words)), (.int (x.Chest.Facts)), (lst .any encS x.Chest.People), (.int (x.Chest.Last)), (lst .any encCopy x.Chest.Copies), (lst .any encRule x.Chest.Rules)]) (by kernel_rfl) (by kernel_rfl) ?_
 refine wr_run 1 [(9, (.lptr [(.int (x.Chest.Words)), (.int (x.Chest.Facts)), (lst .any encS x.Chest.People), (.int (x.Chest.Last)), (lst .any encCopy x.Chest.Copies), (lst .any encRule x.Chest.Rules), (.int (x.Person)), (lst .any encI x.Words), (lst .any encI x.Copies), (.int (x.Number)), (.int (x.Fact))] 6))] (by kernel_rfl) ?_
 refine wr_loadl [(.int (x.Chest.Words)), (.int (x.Chest.Facts)), (lst .any encS x.Chest.People), (.int (x.Chest.Last)), (lst .any encCopy x.Chest.Copies), (lst .any encRule x.Chest.Rules), (.int (x.Person)), (lst .any encI x.Words), (lst .any encI x.Copies), (.int (x.Number)), (.int (x.Fact))] 6 (by kernel_rfl) (.int (x.Person)) (by kernel_rfl) (by kernel_rfl) ?_
 refine wr_run 1 [(11, (.lptr [(.int (x.Chest.Words)), (.int (x.Chest.Facts)), (lst .any encS x.Chest.People), (.int (x.Chest.Last)), (lst .any encCopy x.Chest.Copies), (lst .any encRule x.Chest.Rules), (.int (x.Person)), (lst .any encI x.Words), (lst .any encI x.Copies), (.int (x.Number)), (.int (x.Fact))] 7))] (by kernel_rfl) ?_
 refine wr_loadl [(.int (x.Chest.Words)), (.int (x.Chest.Facts)), (lst .any encS x.Chest.People), (.int (x.Chest.Last)), (lst .any encCopy x.Chest.Copies), (lst .any encRule x.Chest.Rules), (.int (x.Person)), (lst .any encI x.Words), (lst .any encI x.Copies), (.int (x.Number)), (.int (x.Fact))] 7 (by kernel_rfl) (lst .any encI x.Words) (by kernel_rfl) (by kernel_rfl) ?_
 refine wr_call [(.agg [(.int (x.Chest.Words)), (.int (x.Chest.Facts)), (lst .any encS x.Chest.People), (.int (x.Chest.Last)), (lst .any encCopy x.Chest.Copies), (lst .any encRule x.Chest.Rules)]), (.int (x.Person)), (lst .any encI x.Words)] (by kernel_rfl) (by kernel_rfl) (WF.mono (Find_ok x.Chest x.Person .any x.Words _ (by omega) (by omega) (by omega) (by omega)) ?_)
 rintro r396 st397 ⟨own398, l399, e400, rfl, hf403, hf404, E401⟩
 have H405 := H
 replace H := H.then E401
 obtain ⟨hg407, hx408⟩ := hf404
 replace H := H.addtok H405 _ _ hg407
 refine wr_run 3 [(6, (.tup [(lst own398 encI l399), (.int (e400))])), (14, (lst own398 encI l399)), (15, (.int (e400)))] (by kernel_rfl) ?_
 refine wr_alloc H (by kernel_rfl) fun a409 st410 H => ?_
 refine wr_store H 0 a409 0 _ true rfl (by kernel_rfl) (lst own398 encI l399) (by kernel_rfl) [(lst own398 encI l399)] (by kernel_rfl) (by kernel_rfl) (by kernel_rfl) (Nat.le_of_ble_eq_true rfl) (by kernel_rfl) (by kernel_rfl) fun st411 H => ?_
 refine wr_run 1 [(5, (.int (e400)))] (by kernel_rfl) ?_
 refine wr_done ?_
 refine wl_assoc ?_
 refine wl_ops ?_
 refine wr_run 1 [(16, (.ptr h 0))] (by kernel_rfl) ?_
 refine wr_load H 0 a409 0 _ true rfl (by kernel_rfl) (lst own398 encI l399) (by kernel_rfl) (by kernel_rfl) ?_
 refine wr_call [(.ptr h 0), (lst own398 encI l399)] (by kernel_rfl) (by kernel_rfl) ?_
 refine wf_L c13 rfl ?_
 refine wl_tail ?_
 refine wl_ops ?_
 refine wr_run 2 [(4, (.ptr h 0)), (5, (lst own398 encI l399))] (by kernel_rfl) ?_
 refine wr_call [(.ptr h 0), (lst own398 encI l399), (.fn 8 [] [])] (by kernel_rfl) (by kernel_rfl) ?_
 refine wf_L c47 rfl ?_
 refine wl_tail ?_
 refine wl_assoc ?_
 refine wl_ops ?_
 refine wr_run 4 [(7, (.ptr h 0)), (8, (.ptr h 0)), (9, (.ptr h 0)), (10, (.ptr h 0))] (by kernel_rfl) ?_
 refine wr_load H 1 h 0 _ false rfl (by kernel_rfl) (.list .exact [] 0) (by kernel_rfl) (by kernel_rfl) ?_
 refine wr_run 3 [(12, (lst own398 encI l399)), (13, (.int ((l399.length : Int)))), (14, (lst .exact encI [(l399.length : Int)]))] (by kernel_rfl) ?_
 replace H := H.grow 1
 refine wr_appendX encI_len encI_one H rfl 0 .exact rfl ([] : List Int) [(l399.length : Int)] (by kernel_rfl) .exact (by kernel_rfl) (fun _ => rfl) (by first | omega | (simp; done) | (simp; omega)) rfl (by kernel_rfl) fun own584 l586 st585 hl586 el586 hx_l586 H => ?_
 simp only [List.length_cons, List.length_nil] at hl586
 refine wr_run 2 [(16, (.ptr h 0)), (17, (.ptr h 0))] (by kernel_rfl) ?_
 refine wr_store H 1 h 0 _ false rfl (by kernel_rfl) (lst own584 encI l586) (by kernel_rfl) [(lst own584 encI l586), (.list .exact [] 0)] (by kernel_rfl) (by kernel_rfl) (by kernel_rfl) (Nat.le_of_ble_eq_true rfl) (by kernel_rfl) (by kernel_rfl) fun st587 H => ?_
 refine wr_done ?_
 refine wl_assoc ?_
 refine wl_ops ?_
 refine wr_run 1 [(6, (.int (0)))] (by kernel_rfl) ?_
 refine wr_done ?_
 refine wl_loop (σ := Nat) (fun (zz : Nat) (lf : List AV) (st' : St) => ∃ (xs588 : Nat → AV) (v596 : Int) (own610 : EF.Own) (l611 : List Int), lf = [(.ptr h 0), (lst own398 encI l399), (.fn 8 [] []), .junk, .junk, .junk, (.int (v596)), (.ptr h 0), (.ptr h 0), (.ptr h 0), (.ptr h 0), (.list .exact [] 0), (lst own398 encI l399), (.int ((l399.length : Int))), (lst .exact encI [(l399.length : Int)]), (lst own584 encI l586), (.ptr h 0), (.ptr h 0), (xs588 18), (xs588 19), (xs588 20), (xs588 21), (xs588 22), (xs588 23), (xs588 24), (xs588 25), (xs588 26), (xs588 27), (xs588 28), (xs588 29), (xs588 30)] ∧ SP st [⟨a409, .cells [(lst own398 encI l399)], true⟩, ⟨h, .cells [(lst own610 encI l611), (.list .exact [] 0)], false⟩] [(own610, 1), (own398, 1)] st' ∧ (0 ≤ v596) ∧ (0 ≤ v596) ∧ (-1 ≤ v596) ∧ (-9223372036854775808 ≤ v596 ∧ v596 ≤ 9223372036854775807) ∧ (v596 ≤ (l399.length : Int)) ∧ (v596 ≤ 1048576) ∧ ((l611.length : Int) ≤ (l586.length : Int) + v596) ∧ (own610 = .exact → l611 = []) ∧ zz = (-v596 + 9223372036854775808).toNat) (fun z => z) _ ⟨(LX [(18, .junk), (19, .junk), (20, .junk), (21, .junk), (22, .junk), (23, .junk), (24, .junk), (25, .junk), (26, .junk), (27, .junk), (28, .junk), (29, .junk), (30, .junk)]), 0, own584, l586, by kernel_rfl, H, by first | omega | (simp; omega) | simp, by first | omega | (simp; omega) | simp, by first | omega | (simp; omega) | simp, by first | omega | (simp; omega) | simp, by first | omega | (simp; omega) | simp, by first | omega | (simp; omega) | simp, by first | omega | (simp; omega) | simp, hx_l586, rfl⟩ ?_
 clear H
 intro zz588 lf st588 hI588 Q588 hN588 hE588 hX588
 obtain ⟨xs588, v596, own610, l611, rfl, H, hi588_0, hi588_1, hi588_2, hi588_3, hi588_5, hi588_6, hi588_7, hx_l611, hz588⟩ := hI588
 refine wl_tail ?_
 refine wl_assoc ?_
 refine wl_assoc ?_
 refine wl_ops ?_
 refine wr_run 4 [(18, (.int (v596))), (19, (lst own398 encI l399)), (20, (.int ((l399.length : Int)))), (21, (.bool (decide ((v596 : Int) < ((l399.length : Int) : Int)))))] (by kernel_rfl) ?_
 refine wr_done ?_
 refine wl_cond (decide ((v596 : Int) < ((l399.length : Int) : Int))) (by kernel_rfl) (fun c633 => ?_) (fun c633 => ?_)
 ·skip
  have c633' : (v596 : Int) < (l399.length : Int) := of_decide_eq_true c633
  refine wl_skip_seq ?_
  refine wl_assoc ?_
  refine wl_block fun Q634 hN634 hE634 hX634 => ?_
  refine wl_tail ?_
  refine wl_ops ?_
  refine wr_run 4 [(24, (.fn 8 [] [])), (25, (.ptr h 0)), (26, (lst own398 encI l399)), (27, (.int (v596)))] (by kernel_rfl) ?_
  refine wr_iaddre encI_len own398 l399 (by kernel_rfl) (v596) (by kernel_rfl) (by omega) (by kernel_rfl) fun y635 hy635 => ?_
  refine wr_loade encI_len l399 ((v596 : Int).toNat) 0 y635 hy635 (by kernel_rfl) (.int (y635)) (by kernel_rfl) (by decide) (by decide) (by kernel_rfl) ?_
  refine wr_callv (.fn 8 [] []) (by kernel_rfl) [(.ptr h 0), (.int (y635))] (by kernel_rfl) (by kernel_rfl) ?_
  refine wf_L c8 rfl ?_
  refine wl_tail ?_
  refine wl_ops ?_
  refine wr_run 4 [(4, (.ptr h 0)), (5, (.ptr h 0)), (6, (.ptr h 0)), (7, (.ptr h 0))] (by kernel_rfl) ?_
  refine wr_load H 1 h 0 _ false rfl (by kernel_rfl) (lst own610 encI l611) (by kernel_rfl) (by kernel_rfl) ?_
  refine wr_run 2 [(9, (.int (y635))), (10, (lst .exact encI [y635]))] (by kernel_rfl) ?_
  refine wr_appendX encI_len encI_one H rfl 0 own610 rfl l611 [y635] (by kernel_rfl) .exact (by kernel_rfl) hx_l611 (by first | omega | (simp; done) | (simp; omega)) rfl (by kernel_rfl) fun own636 l638 st637 hl638 el638 hx_l638 H => ?_
  simp only [List.length_cons, List.length_nil] at hl638
  refine wr_run 2 [(12, (.ptr h 0)), (13, (.ptr h 0))] (by kernel_rfl) ?_
  refine wr_store H 1 h 0 _ false rfl (by kernel_rfl) (lst own636 encI l638) (by kernel_rfl) [(lst own636 encI l638), (.list .exact [] 0)] (by kernel_rfl) (by kernel_rfl) (by kernel_rfl) (Nat.le_of_ble_eq_true rfl) (by kernel_rfl) (by kernel_rfl) fun st639 H => ?_
  refine wr_done ?_
  refine wl_skip ?_
  refine post_i (Or.inl rfl) (.tup []) (by kernel_rfl) ?_
  refine wr_done ?_
  refine wl_skip ?_
  refine hN634 _ _ ?_
  refine wl_ops ?_
  refine wr_run 1 [(22, (.int (v596)))] (by kernel_rfl) ?_
  refine wr_bin (.int (v596)) (.int (1)) (.int (v596 + 1)) (by kernel_rfl) (by kernel_rfl) (add64e _ (by unfold I64; omega)) (by kernel_rfl) ?_
  refine wr_run 1 [(6, (.int (v596 + 1)))] (by kernel_rfl) ?_
  refine wr_done ?_
  refine wl_skip ?_
  refine hN588 _ _ _ ⟨(LX [(18, (.int (v596))), (19, (lst own398 encI l399)), (20, (.int ((l399.length : Int)))), (21, (.bool (decide ((v596 : Int) < ((l399.length : Int) : Int))))), (22, (.int (v596))), (23, (.int (v596 + 1))), (24, (.fn 8 [] [])), (25, (.ptr h 0)), (26, (lst own398 encI l399)), (27, (.int (v596))), (28, (.lptr (l399.flatMap encI) ((v596 : Int).toNat * 1))), (29, (.int (y635))), (30, (.tup []))]), v596 + 1, own636, l638, by kernel_rfl, H, by first | omega | (simp; omega) | simp, by first | omega | (simp; omega) | simp, by first | omega | (simp; omega) | simp, by first | omega | (simp; omega) | simp, by first | omega | (simp; omega) | simp, by first | omega | (simp; omega) | simp, by first | omega | (simp; omega) | simp, hx_l638, rfl⟩ (by first | omega | (simp only; omega))
 ·skip
  have c633' : ¬ ((v596 : Int) < (l399.length : Int)) := of_decide_eq_false c633
  refine wl_exit ?_
  refine hE588 _ _ ?_
  refine wl_skip ?_
  refine post_i (Or.inl rfl) (.tup []) (by kernel_rfl) ?_
  refine wr_done ?_
  refine wl_skip ?_
  refine post_i (Or.inl rfl) (.tup []) (by kernel_rfl) ?_
  refine wr_done ?_
  refine wl_assoc ?_
  refine wl_ops ?_
  refine wr_run 2 [(19, (.ptr h 0)), (20, (.int (e400)))] (by kernel_rfl) ?_
  refine wr_call [(.ptr h 0), (.int (e400))] (by kernel_rfl) (by kernel_rfl) ?_
  refine wf_L c9 rfl ?_
  refine wl_tail ?_
  refine wl_ops ?_
  refine wr_run 4 [(4, (.ptr h 0)), (5, (.ptr h 0)), (6, (.ptr h 0)), (7, (.ptr h 0))] (by kernel_rfl) ?_
  refine wr_load H 1 h 0 _ false rfl (by kernel_rfl) (lst own610 encI l611) (by kernel_rfl) (by kernel_rfl) ?_
  refine wr_run 2 [(9, (.int (e400))), (10, (lst .exact encI [e400]))] (by kernel_rfl) ?_
  refine wr_appendX encI_len encI_one H rfl 0 own610 rfl l611 [e400] (by kernel_rfl) .exact (by kernel_rfl) hx_l611 (by first | omega | (simp; done) | (simp; omega)) rfl (by kernel_rfl) fun own640 l642 st641 hl642 el642 hx_l642 H => ?_
  simp only [List.length_cons, List.length_nil] at hl642
  refine wr_run 2 [(12, (.ptr h 0)), (13, (.ptr h 0))] (by kernel_rfl) ?_
  refine wr_store H 1 h 0 _ false rfl (by kernel_rfl) (lst own640 encI l642) (by kernel_rfl) [(lst own640 encI l642), (.list .exact [] 0)] (by kernel_rfl) (by kernel_rfl) (by kernel_rfl) (Nat.le_of_ble_eq_true rfl) (by kernel_rfl) (by kernel_rfl) fun st643 H => ?_
  refine wr_done ?_
  refine wl_skip ?_
  refine post_i (Or.inl rfl) (.tup []) (by kernel_rfl) ?_
  refine wr_done ?_
  refine wl_assoc ?_
  refine wl_ops ?_
  refine wr_run 2 [(22, (.fn 18 [] [(.ptr a409 0)])), (3, (.fn 18 [] [(.ptr a409 0)]))] (by kernel_rfl) ?_
  refine wr_done ?_
  refine wl_ret ?_
  refine post_i (Or.inr rfl) (.fn 18 [] [(.ptr a409 0)]) (by kernel_rfl) ?_
  exact ⟨own640, l642, .exact, [], own398, l399, a409, rfl, ⟨H.tok 0 rfl, hx_l642⟩, ⟨True.intro, fun _ => rfl⟩, by first | omega | (simp; omega) | simp, by first | omega | (simp; omega) | simp, by first | omega | (simp; omega) | simp, ⟨H.tok 1 rfl, hx408⟩, (H.apart2 1 0 rfl rfl (by decide)), (fun a _ e => nomatch e), H.news [0] (by decide) _ rfl, H.eff _ (List.forall_mem_cons.2 ⟨(fun e => nomatch e), (List.forall_mem_cons.2 ⟨(fun _ => Or.inl (by simp)), (by simp)⟩)⟩) (List.forall_mem_cons.2 ⟨⟨_, List.mem_of_getElem? (i := 1) rfl, rfl, rfl⟩, (by simp)⟩)⟩

set_option maxHeartbeats 4000000 in
theorem clos4 (x : AnewChest) (h : Nat) (st : St) (hc_h : st.get h = some (.cells [(.list .exact [] 0), (.list .exact [] 0)])) (hp : (x.Chest.People.length : Int) ≤ 1048576) (hc : (x.Chest.Copies.length : Int) ≤ 1048576) (hr : (x.Chest.Rules.length : Int) ≤ 1048576) (hw : (x.Words.length : Int) ≤ 1048576) (hq : (x.Copies.length : Int) ≤ 1048576) : WF Try.prog 19 [(.ptr h 0), (.lptr [(.int (x.Chest.Words)), (.int (x.Chest.Facts)), (lst .any encS x.Chest.People), (.int (x.Chest.Last)), (lst .any encCopy x.Chest.Copies), (lst .any encRule x.Chest.Rules), (.int (x.Person)), (lst .any encI x.Words), (lst .any encI x.Copies), (.int (x.Number)), (.int (x.Fact))] 0)] st fun r st' => ∃ (o644 : EF.Own) (N645 : List Int) (o646 : EF.Own) (Z647 : List ByteArray) (o648 : EF.Own) (l649 : List Int) (c650 : Nat), r = (.fn 21 [] [(.ptr c650 0)]) ∧ (Grown st st' (o644, 1) ∧ (o644 = .exact → N645 = [])) ∧ (Grown st st' (o646, 1) ∧ (o646 = .exact → Z647 = [])) ∧ ((N645.length : Int) ≤ 4503599627370496) ∧ ((Z647.length : Int) ≤ 4503599627370496) ∧ ((l649.length : Int) ≤ 4503599627370496) ∧ (Grown st st' (o648, 1) ∧ (o648 = .exact → l649 = [])) ∧ (∀ a, o648 = .tok a → o644 ≠ .tok a) ∧ (∀ a, o648 = .tok a → o646 ≠ .tok a) ∧ New [(c650, .cells [(lst o648 encI l649)])] st st' ∧ Eff [(h, .cells [(lst o644 encI N645), (lst o646 encS Z647)])] st st' := by
 refine wf_L c19 rfl ?_
 have H : SP st [⟨h, .cells [(.list .exact [] 0), (.list .exact [] 0)], false⟩] [] st := SP.startm _ (List.forall_mem_cons.2 ⟨⟨hc_h, rfl⟩, (by simp)⟩) (by simp)
 refine wl_tail ?_
 refine wl_assoc ?_
 refine wl_ops ?_
 refine wr_run 1 [(3, (.v .nilFunc))] (by kernel_rfl) ?_
 refine wr_done ?_
 refine wl_assoc ?_
 refine wl_ops ?_
 refine wr_run 1 [(7, (.lptr [(.int (x.Chest.Words)), (.int (x.Chest.Facts)), (lst .any encS x.Chest.People), (.int (x.Chest.Last)), (lst .any encCopy x.Chest.Copies), (lst .any encRule x.Chest.Rules), (.int (x.Person)), (lst .any encI x.Words), (lst .any encI x.Copies), (.int (x.Number)), (.int (x.Fact))] 0))] (by kernel_rfl) ?_
 refine wr_loadl [(.int (x.Chest.Words)), (.int (x.Chest.Facts)), (lst .any encS x.Chest.People), (.int (x.Chest.Last)), (lst .any encCopy x.Chest.Copies), (lst .any encRule x.Chest.Rules), (.int (x.Person)), (lst .any encI x.Words), (lst .any encI x.Copies), (.int (x.Number)), (.int (x.Fact))] 0 (by kernel_rfl) (.agg [(.int (x.Chest.Words)), (.int (x.Chest.Facts)), (lst .any encS x.Chest.People), (.int (x.Chest.Last)), (lst .any encCopy x.Chest.Copies), (lst .any encRule x.Chest.Rules)]) (by kernel_rfl) (by kernel_rfl) ?_
 refine wr_run 1 [(9, (.lptr [(.int (x.Chest.Words)), (.int (x.Chest.Facts)), (lst .any encS x.Chest.People), (.int (x.Chest.Last)), (lst .any encCopy x.Chest.Copies), (lst .any encRule x.Chest.Rules), (.int (x.Person)), (lst .any encI x.Words), (lst .any encI x.Copies), (.int (x.Number)), (.int (x.Fact))] 6))] (by kernel_rfl) ?_
 refine wr_loadl [(.int (x.Chest.Words)), (.int (x.Chest.Facts)), (lst .any encS x.Chest.People), (.int (x.Chest.Last)), (lst .any encCopy x.Chest.Copies), (lst .any encRule x.Chest.Rules), (.int (x.Person)), (lst .any encI x.Words), (lst .any encI x.Copies), (.int (x.Number)), (.int (x.Fact))] 6 (by kernel_rfl) (.int (x.Person)) (by kernel_rfl) (by kernel_rfl) ?_
 refine wr_run 1 [(11, (.lptr [(.int (x.Chest.Words)), (.int (x.Chest.Facts)), (lst .any encS x.Chest.People), (.int (x.Chest.Last)), (lst .any encCopy x.Chest.Copies), (lst .any encRule x.Chest.Rules), (.int (x.Person)), (lst .any encI x.Words), (lst .any encI x.Copies), (.int (x.Number)), (.int (x.Fact))] 9))] (by kernel_rfl) ?_
 refine wr_loadl [(.int (x.Chest.Words)), (.int (x.Chest.Facts)), (lst .any encS x.Chest.People), (.int (x.Chest.Last)), (lst .any encCopy x.Chest.Copies), (lst .any encRule x.Chest.Rules), (.int (x.Person)), (lst .any encI x.Words), (lst .any encI x.Copies), (.int (x.Number)), (.int (x.Fact))] 9 (by kernel_rfl) (.int (x.Number)) (by kernel_rfl) (by kernel_rfl) ?_
 refine wr_call [(.agg [(.int (x.Chest.Words)), (.int (x.Chest.Facts)), (lst .any encS x.Chest.People), (.int (x.Chest.Last)), (lst .any encCopy x.Chest.Copies), (lst .any encRule x.Chest.Rules)]), (.int (x.Person)), (.int (x.Number))] (by kernel_rfl) (by kernel_rfl) (WF.mono (Key_ok x.Chest x.Person x.Number _ (by omega) (by omega) (by omega)) ?_)
 rintro r651 st652 ⟨own653, l654, e655, rfl, hf658, hf659, E656⟩
 have H660 := H
 replace H := H.then E656
 obtain ⟨hg662, hx663⟩ := hf659
 replace H := H.addtok H660 _ _ hg662
 refine wr_run 3 [(6, (.tup [(lst own653 encI l654), (.int (e655))])), (14, (lst own653 encI l654)), (15, (.int (e655)))] (by kernel_rfl) ?_
 refine wr_alloc H (by kernel_rfl) fun a664 st665 H => ?_
 refine wr_store H 0 a664 0 _ true rfl (by kernel_rfl) (lst own653 encI l654) (by kernel_rfl) [(lst own653 encI l654)] (by kernel_rfl) (by kernel_rfl) (by kernel_rfl) (Nat.le_of_ble_eq_true rfl) (by kernel_rfl) (by kernel_rfl) fun st666 H => ?_
 refine wr_run 1 [(5, (.int (e655)))] (by kernel_rfl) ?_
 refine wr_done ?_
 refine wl_assoc ?_
 refine wl_ops ?_
 refine wr_run 1 [(16, (.ptr h 0))] (by kernel_rfl) ?_
 refine wr_load H 0 a664 0 _ true rfl (by kernel_rfl) (lst own653 encI l654) (by kernel_rfl) (by kernel_rfl) ?_
 refine wr_call [(.ptr h 0), (lst own653 encI l654)] (by kernel_rfl) (by kernel_rfl) ?_
 refine wf_L c13 rfl ?_
 refine wl_tail ?_
 refine wl_ops ?_
 refine wr_run 2 [(4, (.ptr h 0)), (5, (lst own653 encI l654))] (by kernel_rfl) ?_
 refine wr_call [(.ptr h 0), (lst own653 encI l654), (.fn 8 [] [])] (by kernel_rfl) (by kernel_rfl) ?_
 refine wf_L c47 rfl ?_
 refine wl_tail ?_
 refine wl_assoc ?_
 refine wl_ops ?_
 refine wr_run 4 [(7, (.ptr h 0)), (8, (.ptr h 0)), (9, (.ptr h 0)), (10, (.ptr h 0))] (by kernel_rfl) ?_
 refine wr_load H 1 h 0 _ false rfl (by kernel_rfl) (.list .exact [] 0) (by kernel_rfl) (by kernel_rfl) ?_
 refine wr_run 3 [(12, (lst own653 encI l654)), (13, (.int ((l654.length : Int)))), (14, (lst .exact encI [(l654.length : Int)]))] (by kernel_rfl) ?_
 replace H := H.grow 1
 refine wr_appendX encI_len encI_one H rfl 0 .exact rfl ([] : List Int) [(l654.length : Int)] (by kernel_rfl) .exact (by kernel_rfl) (fun _ => rfl) (by first | omega | (simp; done) | (simp; omega)) rfl (by kernel_rfl) fun own839 l841 st840 hl841 el841 hx_l841 H => ?_
 simp only [List.length_cons, List.length_nil] at hl841
 refine wr_run 2 [(16, (.ptr h 0)), (17, (.ptr h 0))] (by kernel_rfl) ?_
 refine wr_store H 1 h 0 _ false rfl (by kernel_rfl) (lst own839 encI l841) (by kernel_rfl) [(lst own839 encI l841), (.list .exact [] 0)] (by kernel_rfl) (by kernel_rfl) (by kernel_rfl) (Nat.le_of_ble_eq_true rfl) (by kernel_rfl) (by kernel_rfl) fun st842 H => ?_
 refine wr_done ?_
 refine wl_assoc ?_
 refine wl_ops ?_
 refine wr_run 1 [(6, (.int (0)))] (by kernel_rfl) ?_
 refine wr_done ?_
 refine wl_loop (σ := Nat) (fun (zz : Nat) (lf : List AV) (st' : St) => ∃ (xs843 : Nat → AV) (v851 : Int) (own865 : EF.Own) (l866 : List Int), lf = [(.ptr h 0), (lst own653 encI l654), (.fn 8 [] []), .junk, .junk, .junk, (.int (v851)), (.ptr h 0), (.ptr h 0), (.ptr h 0), (.ptr h 0), (.list .exact [] 0), (lst own653 encI l654), (.int ((l654.length : Int))), (lst .exact encI [(l654.length : Int)]), (lst own839 encI l841), (.ptr h 0), (.ptr h 0), (xs843 18), (xs843 19), (xs843 20), (xs843 21), (xs843 22), (xs843 23), (xs843 24), (xs843 25), (xs843 26), (xs843 27), (xs843 28), (xs843 29), (xs843 30)] ∧ SP st [⟨a664, .cells [(lst own653 encI l654)], true⟩, ⟨h, .cells [(lst own865 encI l866), (.list .exact [] 0)], false⟩] [(own865, 1), (own653, 1)] st' ∧ (0 ≤ v851) ∧ (0 ≤ v851) ∧ (-1 ≤ v851) ∧ (-9223372036854775808 ≤ v851 ∧ v851 ≤ 9223372036854775807) ∧ (v851 ≤ (l654.length : Int)) ∧ (v851 ≤ 1048576) ∧ ((l866.length : Int) ≤ (l841.length : Int) + v851) ∧ (own865 = .exact → l866 = []) ∧ zz = (-v851 + 9223372036854775808).toNat) (fun z => z) _ ⟨(LX [(18, .junk), (19, .junk), (20, .junk), (21, .junk), (22, .junk), (23, .junk), (24, .junk), (25, .junk), (26, .junk), (27, .junk), (28, .junk), (29, .junk), (30, .junk)]), 0, own839, l841, by kernel_rfl, H, by first | omega | (simp; omega) | simp, by first | omega | (simp; omega) | simp, by first | omega | (simp; omega) | simp, by first | omega | (simp; omega) | simp, by first | omega | (simp; omega) | simp, by first | omega | (simp; omega) | simp, by first | omega | (simp; omega) | simp, hx_l841, rfl⟩ ?_
 clear H
 intro zz843 lf st843 hI843 Q843 hN843 hE843 hX843
 obtain ⟨xs843, v851, own865, l866, rfl, H, hi843_0, hi843_1, hi843_2, hi843_3, hi843_5, hi843_6, hi843_7, hx_l866, hz843⟩ := hI843
 refine wl_tail ?_
 refine wl_assoc ?_
 refine wl_assoc ?_
 refine wl_ops ?_
 refine wr_run 4 [(18, (.int (v851))), (19, (lst own653 encI l654)), (20, (.int ((l654.length : Int)))), (21, (.bool (decide ((v851 : Int) < ((l654.length : Int) : Int)))))] (by kernel_rfl) ?_
 refine wr_done ?_
 refine wl_cond (decide ((v851 : Int) < ((l654.length : Int) : Int))) (by kernel_rfl) (fun c888 => ?_) (fun c888 => ?_)
 ·skip
  have c888' : (v851 : Int) < (l654.length : Int) := of_decide_eq_true c888
  refine wl_skip_seq ?_
  refine wl_assoc ?_
  refine wl_block fun Q889 hN889 hE889 hX889 => ?_
  refine wl_tail ?_
  refine wl_ops ?_
  refine wr_run 4 [(24, (.fn 8 [] [])), (25, (.ptr h 0)), (26, (lst own653 encI l654)), (27, (.int (v851)))] (by kernel_rfl) ?_
  refine wr_iaddre encI_len own653 l654 (by kernel_rfl) (v851) (by kernel_rfl) (by omega) (by kernel_rfl) fun y890 hy890 => ?_
  refine wr_loade encI_len l654 ((v851 : Int).toNat) 0 y890 hy890 (by kernel_rfl) (.int (y890)) (by kernel_rfl) (by decide) (by decide) (by kernel_rfl) ?_
  refine wr_callv (.fn 8 [] []) (by kernel_rfl) [(.ptr h 0), (.int (y890))] (by kernel_rfl) (by kernel_rfl) ?_
  refine wf_L c8 rfl ?_
  refine wl_tail ?_
  refine wl_ops ?_
  refine wr_run 4 [(4, (.ptr h 0)), (5, (.ptr h 0)), (6, (.ptr h 0)), (7, (.ptr h 0))] (by kernel_rfl) ?_
  refine wr_load H 1 h 0 _ false rfl (by kernel_rfl) (lst own865 encI l866) (by kernel_rfl) (by kernel_rfl) ?_
  refine wr_run 2 [(9, (.int (y890))), (10, (lst .exact encI [y890]))] (by kernel_rfl) ?_
  refine wr_appendX encI_len encI_one H rfl 0 own865 rfl l866 [y890] (by kernel_rfl) .exact (by kernel_rfl) hx_l866 (by first | omega | (simp; done) | (simp; omega)) rfl (by kernel_rfl) fun own891 l893 st892 hl893 el893 hx_l893 H => ?_
  simp only [List.length_cons, List.length_nil] at hl893
  refine wr_run 2 [(12, (.ptr h 0)), (13, (.ptr h 0))] (by kernel_rfl) ?_
  refine wr_store H 1 h 0 _ false rfl (by kernel_rfl) (lst own891 encI l893) (by kernel_rfl) [(lst own891 encI l893), (.list .exact [] 0)] (by kernel_rfl) (by kernel_rfl) (by kernel_rfl) (Nat.le_of_ble_eq_true rfl) (by kernel_rfl) (by kernel_rfl) fun st894 H => ?_
  refine wr_done ?_
  refine wl_skip ?_
  refine post_i (Or.inl rfl) (.tup []) (by kernel_rfl) ?_
  refine wr_done ?_
  refine wl_skip ?_
  refine hN889 _ _ ?_
  refine wl_ops ?_
  refine wr_run 1 [(22, (.int (v851)))] (by kernel_rfl) ?_
  refine wr_bin (.int (v851)) (.int (1)) (.int (v851 + 1)) (by kernel_rfl) (by kernel_rfl) (add64e _ (by unfold I64; omega)) (by kernel_rfl) ?_
  refine wr_run 1 [(6, (.int (v851 + 1)))] (by kernel_rfl) ?_
  refine wr_done ?_
  refine wl_skip ?_
  refine hN843 _ _ _ ⟨(LX [(18, (.int (v851))), (19, (lst own653 encI l654)), (20, (.int ((l654.length : Int)))), (21, (.bool (decide ((v851 : Int) < ((l654.length : Int) : Int))))), (22, (.int (v851))), (23, (.int (v851 + 1))), (24, (.fn 8 [] [])), (25, (.ptr h 0)), (26, (lst own653 encI l654)), (27, (.int (v851))), (28, (.lptr (l654.flatMap encI) ((v851 : Int).toNat * 1))), (29, (.int (y890))), (30, (.tup []))]), v851 + 1, own891, l893, by kernel_rfl, H, by first | omega | (simp; omega) | simp, by first | omega | (simp; omega) | simp, by first | omega | (simp; omega) | simp, by first | omega | (simp; omega) | simp, by first | omega | (simp; omega) | simp, by first | omega | (simp; omega) | simp, by first | omega | (simp; omega) | simp, hx_l893, rfl⟩ (by first | omega | (simp only; omega))
 ·skip
  have c888' : ¬ ((v851 : Int) < (l654.length : Int)) := of_decide_eq_false c888
  refine wl_exit ?_
  refine hE843 _ _ ?_
  refine wl_skip ?_
  refine post_i (Or.inl rfl) (.tup []) (by kernel_rfl) ?_
  refine wr_done ?_
  refine wl_skip ?_
  refine post_i (Or.inl rfl) (.tup []) (by kernel_rfl) ?_
  refine wr_done ?_
  refine wl_assoc ?_
  refine wl_ops ?_
  refine wr_run 2 [(19, (.ptr h 0)), (20, (.int (e655)))] (by kernel_rfl) ?_
  refine wr_call [(.ptr h 0), (.int (e655))] (by kernel_rfl) (by kernel_rfl) ?_
  refine wf_L c9 rfl ?_
  refine wl_tail ?_
  refine wl_ops ?_
  refine wr_run 4 [(4, (.ptr h 0)), (5, (.ptr h 0)), (6, (.ptr h 0)), (7, (.ptr h 0))] (by kernel_rfl) ?_
  refine wr_load H 1 h 0 _ false rfl (by kernel_rfl) (lst own865 encI l866) (by kernel_rfl) (by kernel_rfl) ?_
  refine wr_run 2 [(9, (.int (e655))), (10, (lst .exact encI [e655]))] (by kernel_rfl) ?_
  refine wr_appendX encI_len encI_one H rfl 0 own865 rfl l866 [e655] (by kernel_rfl) .exact (by kernel_rfl) hx_l866 (by first | omega | (simp; done) | (simp; omega)) rfl (by kernel_rfl) fun own895 l897 st896 hl897 el897 hx_l897 H => ?_
  simp only [List.length_cons, List.length_nil] at hl897
  refine wr_run 2 [(12, (.ptr h 0)), (13, (.ptr h 0))] (by kernel_rfl) ?_
  refine wr_store H 1 h 0 _ false rfl (by kernel_rfl) (lst own895 encI l897) (by kernel_rfl) [(lst own895 encI l897), (.list .exact [] 0)] (by kernel_rfl) (by kernel_rfl) (by kernel_rfl) (Nat.le_of_ble_eq_true rfl) (by kernel_rfl) (by kernel_rfl) fun st898 H => ?_
  refine wr_done ?_
  refine wl_skip ?_
  refine post_i (Or.inl rfl) (.tup []) (by kernel_rfl) ?_
  refine wr_done ?_
  refine wl_assoc ?_
  refine wl_ops ?_
  refine wr_run 2 [(22, (.fn 21 [] [(.ptr a664 0)])), (3, (.fn 21 [] [(.ptr a664 0)]))] (by kernel_rfl) ?_
  refine wr_done ?_
  refine wl_ret ?_
  refine post_i (Or.inr rfl) (.fn 21 [] [(.ptr a664 0)]) (by kernel_rfl) ?_
  exact ⟨own895, l897, .exact, [], own653, l654, a664, rfl, ⟨H.tok 0 rfl, hx_l897⟩, ⟨True.intro, fun _ => rfl⟩, by first | omega | (simp; omega) | simp, by first | omega | (simp; omega) | simp, by first | omega | (simp; omega) | simp, ⟨H.tok 1 rfl, hx663⟩, (H.apart2 1 0 rfl rfl (by decide)), (fun a _ e => nomatch e), H.news [0] (by decide) _ rfl, H.eff _ (List.forall_mem_cons.2 ⟨(fun e => nomatch e), (List.forall_mem_cons.2 ⟨(fun _ => Or.inl (by simp)), (by simp)⟩)⟩) (List.forall_mem_cons.2 ⟨⟨_, List.mem_of_getElem? (i := 1) rfl, rfl, rfl⟩, (by simp)⟩)⟩

set_option maxHeartbeats 4000000 in
theorem clos5 (x : AnewChest) (h : Nat) (st : St) (hc_h : st.get h = some (.cells [(.list .exact [] 0), (.list .exact [] 0)])) (hp : (x.Chest.People.length : Int) ≤ 1048576) (hc : (x.Chest.Copies.length : Int) ≤ 1048576) (hr : (x.Chest.Rules.length : Int) ≤ 1048576) (hw : (x.Words.length : Int) ≤ 1048576) (hq : (x.Copies.length : Int) ≤ 1048576) : WF Try.prog 22 [(.ptr h 0), (.lptr [(.int (x.Chest.Words)), (.int (x.Chest.Facts)), (lst .any encS x.Chest.People), (.int (x.Chest.Last)), (lst .any encCopy x.Chest.Copies), (lst .any encRule x.Chest.Rules), (.int (x.Person)), (lst .any encI x.Words), (lst .any encI x.Copies), (.int (x.Number)), (.int (x.Fact))] 0)] st fun r st' => ∃ (o899 : EF.Own) (N900 : List Int) (o901 : EF.Own) (Z902 : List ByteArray) (o903 : EF.Own) (l904 : List Int) (c905 : Nat), r = (.fn 24 [] [(.ptr c905 0)]) ∧ (Grown st st' (o899, 1) ∧ (o899 = .exact → N900 = [])) ∧ (Grown st st' (o901, 1) ∧ (o901 = .exact → Z902 = [])) ∧ ((N900.length : Int) ≤ 4503599627370496) ∧ ((Z902.length : Int) ≤ 4503599627370496) ∧ ((l904.length : Int) ≤ 4503599627370496) ∧ (Grown st st' (o903, 1) ∧ (o903 = .exact → l904 = [])) ∧ (∀ a, o903 = .tok a → o899 ≠ .tok a) ∧ (∀ a, o903 = .tok a → o901 ≠ .tok a) ∧ New [(c905, .cells [(lst o903 encI l904)])] st st' ∧ Eff [(h, .cells [(lst o899 encI N900), (lst o901 encS Z902)])] st st' := by
 refine wf_L c22 rfl ?_
 have H : SP st [⟨h, .cells [(.list .exact [] 0), (.list .exact [] 0)], false⟩] [] st := SP.startm _ (List.forall_mem_cons.2 ⟨⟨hc_h, rfl⟩, (by simp)⟩) (by simp)
 refine wl_tail ?_
 refine wl_assoc ?_
 refine wl_ops ?_
 refine wr_run 1 [(3, (.v .nilFunc))] (by kernel_rfl) ?_
 refine wr_done ?_
 refine wl_assoc ?_
 refine wl_ops ?_
 refine wr_run 1 [(7, (.lptr [(.int (x.Chest.Words)), (.int (x.Chest.Facts)), (lst .any encS x.Chest.People), (.int (x.Chest.Last)), (lst .any encCopy x.Chest.Copies), (lst .any encRule x.Chest.Rules), (.int (x.Person)), (lst .any encI x.Words), (lst .any encI x.Copies), (.int (x.Number)), (.int (x.Fact))] 0))] (by kernel_rfl) ?_
 refine wr_loadl [(.int (x.Chest.Words)), (.int (x.Chest.Facts)), (lst .any encS x.Chest.People), (.int (x.Chest.Last)), (lst .any encCopy x.Chest.Copies), (lst .any encRule x.Chest.Rules), (.int (x.Person)), (lst .any encI x.Words), (lst .any encI x.Copies), (.int (x.Number)), (.int (x.Fact))] 0 (by kernel_rfl) (.agg [(.int (x.Chest.Words)), (.int (x.Chest.Facts)), (lst .any encS x.Chest.People), (.int (x.Chest.Last)), (lst .any encCopy x.Chest.Copies), (lst .any encRule x.Chest.Rules)]) (by kernel_rfl) (by kernel_rfl) ?_
 refine wr_run 1 [(9, (.lptr [(.int (x.Chest.Words)), (.int (x.Chest.Facts)), (lst .any encS x.Chest.People), (.int (x.Chest.Last)), (lst .any encCopy x.Chest.Copies), (lst .any encRule x.Chest.Rules), (.int (x.Person)), (lst .any encI x.Words), (lst .any encI x.Copies), (.int (x.Number)), (.int (x.Fact))] 8))] (by kernel_rfl) ?_
 refine wr_loadl [(.int (x.Chest.Words)), (.int (x.Chest.Facts)), (lst .any encS x.Chest.People), (.int (x.Chest.Last)), (lst .any encCopy x.Chest.Copies), (lst .any encRule x.Chest.Rules), (.int (x.Person)), (lst .any encI x.Words), (lst .any encI x.Copies), (.int (x.Number)), (.int (x.Fact))] 8 (by kernel_rfl) (lst .any encI x.Copies) (by kernel_rfl) (by kernel_rfl) ?_
 refine wr_call [(.agg [(.int (x.Chest.Words)), (.int (x.Chest.Facts)), (lst .any encS x.Chest.People), (.int (x.Chest.Last)), (lst .any encCopy x.Chest.Copies), (lst .any encRule x.Chest.Rules)]), (lst .any encI x.Copies)] (by kernel_rfl) (by kernel_rfl) (WF.mono (Knows_ok x.Chest .any x.Copies _ (by omega) (by omega) (by omega) (by omega)) ?_)
 rintro r906 st907 ⟨own908, l909, e910, rfl, hf913, hf914, E911⟩
 have H915 := H
 replace H := H.then E911
 obtain ⟨hg917, hx918⟩ := hf914
 replace H := H.addtok H915 _ _ hg917
 refine wr_run 3 [(6, (.tup [(lst own908 encI l909), (.int (e910))])), (12, (lst own908 encI l909)), (13, (.int (e910)))] (by kernel_rfl) ?_
 refine wr_alloc H (by kernel_rfl) fun a919 st920 H => ?_
 refine wr_store H 0 a919 0 _ true rfl (by kernel_rfl) (lst own908 encI l909) (by kernel_rfl) [(lst own908 encI l909)] (by kernel_rfl) (by kernel_rfl) (by kernel_rfl) (Nat.le_of_ble_eq_true rfl) (by kernel_rfl) (by kernel_rfl) fun st921 H => ?_
 refine wr_run 1 [(5, (.int (e910)))] (by kernel_rfl) ?_
 refine wr_done ?_
 refine wl_assoc ?_
 refine wl_ops ?_
 refine wr_run 1 [(14, (.ptr h 0))] (by kernel_rfl) ?_
 refine wr_load H 0 a919 0 _ true rfl (by kernel_rfl) (lst own908 encI l909) (by kernel_rfl) (by kernel_rfl) ?_
 refine wr_call [(.ptr h 0), (lst own908 encI l909)] (by kernel_rfl) (by kernel_rfl) ?_
 refine wf_L c13 rfl ?_
 refine wl_tail ?_
 refine wl_ops ?_
 refine wr_run 2 [(4, (.ptr h 0)), (5, (lst own908 encI l909))] (by kernel_rfl) ?_
 refine wr_call [(.ptr h 0), (lst own908 encI l909), (.fn 8 [] [])] (by kernel_rfl) (by kernel_rfl) ?_
 refine wf_L c47 rfl ?_
 refine wl_tail ?_
 refine wl_assoc ?_
 refine wl_ops ?_
 refine wr_run 4 [(7, (.ptr h 0)), (8, (.ptr h 0)), (9, (.ptr h 0)), (10, (.ptr h 0))] (by kernel_rfl) ?_
 refine wr_load H 1 h 0 _ false rfl (by kernel_rfl) (.list .exact [] 0) (by kernel_rfl) (by kernel_rfl) ?_
 refine wr_run 3 [(12, (lst own908 encI l909)), (13, (.int ((l909.length : Int)))), (14, (lst .exact encI [(l909.length : Int)]))] (by kernel_rfl) ?_
 replace H := H.grow 1
 refine wr_appendX encI_len encI_one H rfl 0 .exact rfl ([] : List Int) [(l909.length : Int)] (by kernel_rfl) .exact (by kernel_rfl) (fun _ => rfl) (by first | omega | (simp; done) | (simp; omega)) rfl (by kernel_rfl) fun own1094 l1096 st1095 hl1096 el1096 hx_l1096 H => ?_
 simp only [List.length_cons, List.length_nil] at hl1096
 refine wr_run 2 [(16, (.ptr h 0)), (17, (.ptr h 0))] (by kernel_rfl) ?_
 refine wr_store H 1 h 0 _ false rfl (by kernel_rfl) (lst own1094 encI l1096) (by kernel_rfl) [(lst own1094 encI l1096), (.list .exact [] 0)] (by kernel_rfl) (by kernel_rfl) (by kernel_rfl) (Nat.le_of_ble_eq_true rfl) (by kernel_rfl) (by kernel_rfl) fun st1097 H => ?_
 refine wr_done ?_
 refine wl_assoc ?_
 refine wl_ops ?_
 refine wr_run 1 [(6, (.int (0)))] (by kernel_rfl) ?_
 refine wr_done ?_
 refine wl_loop (σ := Nat) (fun (zz : Nat) (lf : List AV) (st' : St) => ∃ (xs1098 : Nat → AV) (v1106 : Int) (own1120 : EF.Own) (l1121 : List Int), lf = [(.ptr h 0), (lst own908 encI l909), (.fn 8 [] []), .junk, .junk, .junk, (.int (v1106)), (.ptr h 0), (.ptr h 0), (.ptr h 0), (.ptr h 0), (.list .exact [] 0), (lst own908 encI l909), (.int ((l909.length : Int))), (lst .exact encI [(l909.length : Int)]), (lst own1094 encI l1096), (.ptr h 0), (.ptr h 0), (xs1098 18), (xs1098 19), (xs1098 20), (xs1098 21), (xs1098 22), (xs1098 23), (xs1098 24), (xs1098 25), (xs1098 26), (xs1098 27), (xs1098 28), (xs1098 29), (xs1098 30)] ∧ SP st [⟨a919, .cells [(lst own908 encI l909)], true⟩, ⟨h, .cells [(lst own1120 encI l1121), (.list .exact [] 0)], false⟩] [(own1120, 1), (own908, 1)] st' ∧ (0 ≤ v1106) ∧ (0 ≤ v1106) ∧ (-1 ≤ v1106) ∧ (-9223372036854775808 ≤ v1106 ∧ v1106 ≤ 9223372036854775807) ∧ (v1106 ≤ (l909.length : Int)) ∧ (v1106 ≤ 1048576) ∧ ((l1121.length : Int) ≤ (l1096.length : Int) + v1106) ∧ (own1120 = .exact → l1121 = []) ∧ zz = (-v1106 + 9223372036854775808).toNat) (fun z => z) _ ⟨(LX [(18, .junk), (19, .junk), (20, .junk), (21, .junk), (22, .junk), (23, .junk), (24, .junk), (25, .junk), (26, .junk), (27, .junk), (28, .junk), (29, .junk), (30, .junk)]), 0, own1094, l1096, by kernel_rfl, H, by first | omega | (simp; omega) | simp, by first | omega | (simp; omega) | simp, by first | omega | (simp; omega) | simp, by first | omega | (simp; omega) | simp, by first | omega | (simp; omega) | simp, by first | omega | (simp; omega) | simp, by first | omega | (simp; omega) | simp, hx_l1096, rfl⟩ ?_
 clear H
 intro zz1098 lf st1098 hI1098 Q1098 hN1098 hE1098 hX1098
 obtain ⟨xs1098, v1106, own1120, l1121, rfl, H, hi1098_0, hi1098_1, hi1098_2, hi1098_3, hi1098_5, hi1098_6, hi1098_7, hx_l1121, hz1098⟩ := hI1098
 refine wl_tail ?_
 refine wl_assoc ?_
 refine wl_assoc ?_
 refine wl_ops ?_
 refine wr_run 4 [(18, (.int (v1106))), (19, (lst own908 encI l909)), (20, (.int ((l909.length : Int)))), (21, (.bool (decide ((v1106 : Int) < ((l909.length : Int) : Int)))))] (by kernel_rfl) ?_
 refine wr_done ?_
 refine wl_cond (decide ((v1106 : Int) < ((l909.length : Int) : Int))) (by kernel_rfl) (fun c1143 => ?_) (fun c1143 => ?_)
 ·skip
  have c1143' : (v1106 : Int) < (l909.length : Int) := of_decide_eq_true c1143
  refine wl_skip_seq ?_
  refine wl_assoc ?_
  refine wl_block fun Q1144 hN1144 hE1144 hX1144 => ?_
  refine wl_tail ?_
  refine wl_ops ?_
  refine wr_run 4 [(24, (.fn 8 [] [])), (25, (.ptr h 0)), (26, (lst own908 encI l909)), (27, (.int (v1106)))] (by kernel_rfl) ?_
  refine wr_iaddre encI_len own908 l909 (by kernel_rfl) (v1106) (by kernel_rfl) (by omega) (by kernel_rfl) fun y1145 hy1145 => ?_
  refine wr_loade encI_len l909 ((v1106 : Int).toNat) 0 y1145 hy1145 (by kernel_rfl) (.int (y1145)) (by kernel_rfl) (by decide) (by decide) (by kernel_rfl) ?_
  refine wr_callv (.fn 8 [] []) (by kernel_rfl) [(.ptr h 0), (.int (y1145))] (by kernel_rfl) (by kernel_rfl) ?_
  refine wf_L c8 rfl ?_
  refine wl_tail ?_
  refine wl_ops ?_
  refine wr_run 4 [(4, (.ptr h 0)), (5, (.ptr h 0)), (6, (.ptr h 0)), (7, (.ptr h 0))] (by kernel_rfl) ?_
  refine wr_load H 1 h 0 _ false rfl (by kernel_rfl) (lst own1120 encI l1121) (by kernel_rfl) (by kernel_rfl) ?_
  refine wr_run 2 [(9, (.int (y1145))), (10, (lst .exact encI [y1145]))] (by kernel_rfl) ?_
  refine wr_appendX encI_len encI_one H rfl 0 own1120 rfl l1121 [y1145] (by kernel_rfl) .exact (by kernel_rfl) hx_l1121 (by first | omega | (simp; done) | (simp; omega)) rfl (by kernel_rfl) fun own1146 l1148 st1147 hl1148 el1148 hx_l1148 H => ?_
  simp only [List.length_cons, List.length_nil] at hl1148
  refine wr_run 2 [(12, (.ptr h 0)), (13, (.ptr h 0))] (by kernel_rfl) ?_
  refine wr_store H 1 h 0 _ false rfl (by kernel_rfl) (lst own1146 encI l1148) (by kernel_rfl) [(lst own1146 encI l1148), (.list .exact [] 0)] (by kernel_rfl) (by kernel_rfl) (by kernel_rfl) (Nat.le_of_ble_eq_true rfl) (by kernel_rfl) (by kernel_rfl) fun st1149 H => ?_
  refine wr_done ?_
  refine wl_skip ?_
  refine post_i (Or.inl rfl) (.tup []) (by kernel_rfl) ?_
  refine wr_done ?_
  refine wl_skip ?_
  refine hN1144 _ _ ?_
  refine wl_ops ?_
  refine wr_run 1 [(22, (.int (v1106)))] (by kernel_rfl) ?_
  refine wr_bin (.int (v1106)) (.int (1)) (.int (v1106 + 1)) (by kernel_rfl) (by kernel_rfl) (add64e _ (by unfold I64; omega)) (by kernel_rfl) ?_
  refine wr_run 1 [(6, (.int (v1106 + 1)))] (by kernel_rfl) ?_
  refine wr_done ?_
  refine wl_skip ?_
  refine hN1098 _ _ _ ⟨(LX [(18, (.int (v1106))), (19, (lst own908 encI l909)), (20, (.int ((l909.length : Int)))), (21, (.bool (decide ((v1106 : Int) < ((l909.length : Int) : Int))))), (22, (.int (v1106))), (23, (.int (v1106 + 1))), (24, (.fn 8 [] [])), (25, (.ptr h 0)), (26, (lst own908 encI l909)), (27, (.int (v1106))), (28, (.lptr (l909.flatMap encI) ((v1106 : Int).toNat * 1))), (29, (.int (y1145))), (30, (.tup []))]), v1106 + 1, own1146, l1148, by kernel_rfl, H, by first | omega | (simp; omega) | simp, by first | omega | (simp; omega) | simp, by first | omega | (simp; omega) | simp, by first | omega | (simp; omega) | simp, by first | omega | (simp; omega) | simp, by first | omega | (simp; omega) | simp, by first | omega | (simp; omega) | simp, hx_l1148, rfl⟩ (by first | omega | (simp only; omega))
 ·skip
  have c1143' : ¬ ((v1106 : Int) < (l909.length : Int)) := of_decide_eq_false c1143
  refine wl_exit ?_
  refine hE1098 _ _ ?_
  refine wl_skip ?_
  refine post_i (Or.inl rfl) (.tup []) (by kernel_rfl) ?_
  refine wr_done ?_
  refine wl_skip ?_
  refine post_i (Or.inl rfl) (.tup []) (by kernel_rfl) ?_
  refine wr_done ?_
  refine wl_assoc ?_
  refine wl_ops ?_
  refine wr_run 2 [(17, (.ptr h 0)), (18, (.int (e910)))] (by kernel_rfl) ?_
  refine wr_call [(.ptr h 0), (.int (e910))] (by kernel_rfl) (by kernel_rfl) ?_
  refine wf_L c9 rfl ?_
  refine wl_tail ?_
  refine wl_ops ?_
  refine wr_run 4 [(4, (.ptr h 0)), (5, (.ptr h 0)), (6, (.ptr h 0)), (7, (.ptr h 0))] (by kernel_rfl) ?_
  refine wr_load H 1 h 0 _ false rfl (by kernel_rfl) (lst own1120 encI l1121) (by kernel_rfl) (by kernel_rfl) ?_
  refine wr_run 2 [(9, (.int (e910))), (10, (lst .exact encI [e910]))] (by kernel_rfl) ?_
  refine wr_appendX encI_len encI_one H rfl 0 own1120 rfl l1121 [e910] (by kernel_rfl) .exact (by kernel_rfl) hx_l1121 (by first | omega | (simp; done) | (simp; omega)) rfl (by kernel_rfl) fun own1150 l1152 st1151 hl1152 el1152 hx_l1152 H => ?_
  simp only [List.length_cons, List.length_nil] at hl1152
  refine wr_run 2 [(12, (.ptr h 0)), (13, (.ptr h 0))] (by kernel_rfl) ?_
  refine wr_store H 1 h 0 _ false rfl (by kernel_rfl) (lst own1150 encI l1152) (by kernel_rfl) [(lst own1150 encI l1152), (.list .exact [] 0)] (by kernel_rfl) (by kernel_rfl) (by kernel_rfl) (Nat.le_of_ble_eq_true rfl) (by kernel_rfl) (by kernel_rfl) fun st1153 H => ?_
  refine wr_done ?_
  refine wl_skip ?_
  refine post_i (Or.inl rfl) (.tup []) (by kernel_rfl) ?_
  refine wr_done ?_
  refine wl_assoc ?_
  refine wl_ops ?_
  refine wr_run 2 [(20, (.fn 24 [] [(.ptr a919 0)])), (3, (.fn 24 [] [(.ptr a919 0)]))] (by kernel_rfl) ?_
  refine wr_done ?_
  refine wl_ret ?_
  refine post_i (Or.inr rfl) (.fn 24 [] [(.ptr a919 0)]) (by kernel_rfl) ?_
  exact ⟨own1150, l1152, .exact, [], own908, l909, a919, rfl, ⟨H.tok 0 rfl, hx_l1152⟩, ⟨True.intro, fun _ => rfl⟩, by first | omega | (simp; omega) | simp, by first | omega | (simp; omega) | simp, by first | omega | (simp; omega) | simp, ⟨H.tok 1 rfl, hx918⟩, (H.apart2 1 0 rfl rfl (by decide)), (fun a _ e => nomatch e), H.news [0] (by decide) _ rfl, H.eff _ (List.forall_mem_cons.2 ⟨(fun e => nomatch e), (List.forall_mem_cons.2 ⟨(fun _ => Or.inl (by simp)), (by simp)⟩)⟩) (List.forall_mem_cons.2 ⟨⟨_, List.mem_of_getElem? (i := 1) rfl, rfl, rfl⟩, (by simp)⟩)⟩

set_option maxHeartbeats 4000000 in
theorem clos6 (x : AnewChest) (h : Nat) (st : St) (hc_h : st.get h = some (.cells [(.list .exact [] 0), (.list .exact [] 0)])) (hp : (x.Chest.People.length : Int) ≤ 1048576) (hc : (x.Chest.Copies.length : Int) ≤ 1048576) (hr : (x.Chest.Rules.length : Int) ≤ 1048576) (hw : (x.Words.length : Int) ≤ 1048576) (hq : (x.Copies.length : Int) ≤ 1048576) : WF Try.prog 25 [(.ptr h 0), (.lptr [(.int (x.Chest.Words)), (.int (x.Chest.Facts)), (lst .any encS x.Chest.People), (.int (x.Chest.Last)), (lst .any encCopy x.Chest.Copies), (lst .any encRule x.Chest.Rules), (.int (x.Person)), (lst .any encI x.Words), (lst .any encI x.Copies), (.int (x.Number)), (.int (x.Fact))] 0)] st fun r st' => ∃ (o1154 : EF.Own) (N1155 : List Int) (o1156 : EF.Own) (Z1157 : List ByteArray) (o1158 : EF.Own) (l1159 : List Int) (c1160 : Nat), r = (.fn 27 [] [(.ptr c1160 0)]) ∧ (Grown st st' (o1154, 1) ∧ (o1154 = .exact → N1155 = [])) ∧ (Grown st st' (o1156, 1) ∧ (o1156 = .exact → Z1157 = [])) ∧ ((N1155.length : Int) ≤ 4503599627370496) ∧ ((Z1157.length : Int) ≤ 4503599627370496) ∧ ((l1159.length : Int) ≤ 4503599627370496) ∧ (Grown st st' (o1158, 1) ∧ (o1158 = .exact → l1159 = [])) ∧ (∀ a, o1158 = .tok a → o1154 ≠ .tok a) ∧ (∀ a, o1158 = .tok a → o1156 ≠ .tok a) ∧ New [(c1160, .cells [(lst o1158 encI l1159)])] st st' ∧ Eff [(h, .cells [(lst o1154 encI N1155), (lst o1156 encS Z1157)])] st st' := by
 refine wf_L c25 rfl ?_
 have H : SP st [⟨h, .cells [(.list .exact [] 0), (.list .exact [] 0)], false⟩] [] st := SP.startm _ (List.forall_mem_cons.2 ⟨⟨hc_h, rfl⟩, (by simp)⟩) (by simp)
 refine wl_tail ?_
 refine wl_assoc ?_
 refine wl_ops ?_
 refine wr_run 1 [(3, (.v .nilFunc))] (by kernel_rfl) ?_
 refine wr_done ?_
 refine wl_assoc ?_
 refine wl_ops ?_
 refine wr_run 1 [(7, (.lptr [(.int (x.Chest.Words)), (.int (x.Chest.Facts)), (lst .any encS x.Chest.People), (.int (x.Chest.Last)), (lst .any encCopy x.Chest.Copies), (lst .any encRule x.Chest.Rules), (.int (x.Person)), (lst .any encI x.Words), (lst .any encI x.Copies), (.int (x.Number)), (.int (x.Fact))] 0))] (by kernel_rfl) ?_
 refine wr_loadl [(.int (x.Chest.Words)), (.int (x.Chest.Facts)), (lst .any encS x.Chest.People), (.int (x.Chest.Last)), (lst .any encCopy x.Chest.Copies), (lst .any encRule x.Chest.Rules), (.int (x.Person)), (lst .any encI x.Words), (lst .any encI x.Copies), (.int (x.Number)), (.int (x.Fact))] 0 (by kernel_rfl) (.agg [(.int (x.Chest.Words)), (.int (x.Chest.Facts)), (lst .any encS x.Chest.People), (.int (x.Chest.Last)), (lst .any encCopy x.Chest.Copies), (lst .any encRule x.Chest.Rules)]) (by kernel_rfl) (by kernel_rfl) ?_
 refine wr_run 1 [(9, (.lptr [(.int (x.Chest.Words)), (.int (x.Chest.Facts)), (lst .any encS x.Chest.People), (.int (x.Chest.Last)), (lst .any encCopy x.Chest.Copies), (lst .any encRule x.Chest.Rules), (.int (x.Person)), (lst .any encI x.Words), (lst .any encI x.Copies), (.int (x.Number)), (.int (x.Fact))] 8))] (by kernel_rfl) ?_
 refine wr_loadl [(.int (x.Chest.Words)), (.int (x.Chest.Facts)), (lst .any encS x.Chest.People), (.int (x.Chest.Last)), (lst .any encCopy x.Chest.Copies), (lst .any encRule x.Chest.Rules), (.int (x.Person)), (lst .any encI x.Words), (lst .any encI x.Copies), (.int (x.Number)), (.int (x.Fact))] 8 (by kernel_rfl) (lst .any encI x.Copies) (by kernel_rfl) (by kernel_rfl) ?_
 refine wr_run 1 [(11, (.lptr [(.int (x.Chest.Words)), (.int (x.Chest.Facts)), (lst .any encS x.Chest.People), (.int (x.Chest.Last)), (lst .any encCopy x.Chest.Copies), (lst .any encRule x.Chest.Rules), (.int (x.Person)), (lst .any encI x.Words), (lst .any encI x.Copies), (.int (x.Number)), (.int (x.Fact))] 10))] (by kernel_rfl) ?_
 refine wr_loadl [(.int (x.Chest.Words)), (.int (x.Chest.Facts)), (lst .any encS x.Chest.People), (.int (x.Chest.Last)), (lst .any encCopy x.Chest.Copies), (lst .any encRule x.Chest.Rules), (.int (x.Person)), (lst .any encI x.Words), (lst .any encI x.Copies), (.int (x.Number)), (.int (x.Fact))] 10 (by kernel_rfl) (.int (x.Fact)) (by kernel_rfl) (by kernel_rfl) ?_
 refine wr_call [(.agg [(.int (x.Chest.Words)), (.int (x.Chest.Facts)), (lst .any encS x.Chest.People), (.int (x.Chest.Last)), (lst .any encCopy x.Chest.Copies), (lst .any encRule x.Chest.Rules)]), (lst .any encI x.Copies), (.int (x.Fact))] (by kernel_rfl) (by kernel_rfl) (WF.mono (Why_ok x.Chest .any x.Copies x.Fact _ (by omega) (by omega) (by omega) (by omega)) ?_)
 rintro r1161 st1162 ⟨own1163, l1164, e1165, rfl, hf1168, hf1169, E1166⟩
 have H1170 := H
 replace H := H.then E1166
 obtain ⟨hg1172, hx1173⟩ := hf1169
 replace H := H.addtok H1170 _ _ hg1172
 refine wr_run 3 [(6, (.tup [(lst own1163 encI l1164), (.int (e1165))])), (14, (lst own1163 encI l1164)), (15, (.int (e1165)))] (by kernel_rfl) ?_
 refine wr_alloc H (by kernel_rfl) fun a1174 st1175 H => ?_
 refine wr_store H 0 a1174 0 _ true rfl (by kernel_rfl) (lst own1163 encI l1164) (by kernel_rfl) [(lst own1163 encI l1164)] (by kernel_rfl) (by kernel_rfl) (by kernel_rfl) (Nat.le_of_ble_eq_true rfl) (by kernel_rfl) (by kernel_rfl) fun st1176 H => ?_
 refine wr_run 1 [(5, (.int (e1165)))] (by kernel_rfl) ?_
 refine wr_done ?_
 refine wl_assoc ?_
 refine wl_ops ?_
 refine wr_run 1 [(16, (.ptr h 0))] (by kernel_rfl) ?_
 refine wr_load H 0 a1174 0 _ true rfl (by kernel_rfl) (lst own1163 encI l1164) (by kernel_rfl) (by kernel_rfl) ?_
 refine wr_call [(.ptr h 0), (lst own1163 encI l1164)] (by kernel_rfl) (by kernel_rfl) ?_
 refine wf_L c13 rfl ?_
 refine wl_tail ?_
 refine wl_ops ?_
 refine wr_run 2 [(4, (.ptr h 0)), (5, (lst own1163 encI l1164))] (by kernel_rfl) ?_
 refine wr_call [(.ptr h 0), (lst own1163 encI l1164), (.fn 8 [] [])] (by kernel_rfl) (by kernel_rfl) ?_
 refine wf_L c47 rfl ?_
 refine wl_tail ?_
 refine wl_assoc ?_
 refine wl_ops ?_
 refine wr_run 4 [(7, (.ptr h 0)), (8, (.ptr h 0)), (9, (.ptr h 0)), (10, (.ptr h 0))] (by kernel_rfl) ?_
 refine wr_load H 1 h 0 _ false rfl (by kernel_rfl) (.list .exact [] 0) (by kernel_rfl) (by kernel_rfl) ?_
 refine wr_run 3 [(12, (lst own1163 encI l1164)), (13, (.int ((l1164.length : Int)))), (14, (lst .exact encI [(l1164.length : Int)]))] (by kernel_rfl) ?_
 replace H := H.grow 1
 refine wr_appendX encI_len encI_one H rfl 0 .exact rfl ([] : List Int) [(l1164.length : Int)] (by kernel_rfl) .exact (by kernel_rfl) (fun _ => rfl) (by first | omega | (simp; done) | (simp; omega)) rfl (by kernel_rfl) fun own1349 l1351 st1350 hl1351 el1351 hx_l1351 H => ?_
 simp only [List.length_cons, List.length_nil] at hl1351
 refine wr_run 2 [(16, (.ptr h 0)), (17, (.ptr h 0))] (by kernel_rfl) ?_
 refine wr_store H 1 h 0 _ false rfl (by kernel_rfl) (lst own1349 encI l1351) (by kernel_rfl) [(lst own1349 encI l1351), (.list .exact [] 0)] (by kernel_rfl) (by kernel_rfl) (by kernel_rfl) (Nat.le_of_ble_eq_true rfl) (by kernel_rfl) (by kernel_rfl) fun st1352 H => ?_
 refine wr_done ?_
 refine wl_assoc ?_
 refine wl_ops ?_
 refine wr_run 1 [(6, (.int (0)))] (by kernel_rfl) ?_
 refine wr_done ?_
 refine wl_loop (σ := Nat) (fun (zz : Nat) (lf : List AV) (st' : St) => ∃ (xs1353 : Nat → AV) (v1361 : Int) (own1375 : EF.Own) (l1376 : List Int), lf = [(.ptr h 0), (lst own1163 encI l1164), (.fn 8 [] []), .junk, .junk, .junk, (.int (v1361)), (.ptr h 0), (.ptr h 0), (.ptr h 0), (.ptr h 0), (.list .exact [] 0), (lst own1163 encI l1164), (.int ((l1164.length : Int))), (lst .exact encI [(l1164.length : Int)]), (lst own1349 encI l1351), (.ptr h 0), (.ptr h 0), (xs1353 18), (xs1353 19), (xs1353 20), (xs1353 21), (xs1353 22), (xs1353 23), (xs1353 24), (xs1353 25), (xs1353 26), (xs1353 27), (xs1353 28), (xs1353 29), (xs1353 30)] ∧ SP st [⟨a1174, .cells [(lst own1163 encI l1164)], true⟩, ⟨h, .cells [(lst own1375 encI l1376), (.list .exact [] 0)], false⟩] [(own1375, 1), (own1163, 1)] st' ∧ (0 ≤ v1361) ∧ (0 ≤ v1361) ∧ (-1 ≤ v1361) ∧ (-9223372036854775808 ≤ v1361 ∧ v1361 ≤ 9223372036854775807) ∧ (v1361 ≤ (l1164.length : Int)) ∧ (v1361 ≤ 1048576) ∧ ((l1376.length : Int) ≤ (l1351.length : Int) + v1361) ∧ (own1375 = .exact → l1376 = []) ∧ zz = (-v1361 + 9223372036854775808).toNat) (fun z => z) _ ⟨(LX [(18, .junk), (19, .junk), (20, .junk), (21, .junk), (22, .junk), (23, .junk), (24, .junk), (25, .junk), (26, .junk), (27, .junk), (28, .junk), (29, .junk), (30, .junk)]), 0, own1349, l1351, by kernel_rfl, H, by first | omega | (simp; omega) | simp, by first | omega | (simp; omega) | simp, by first | omega | (simp; omega) | simp, by first | omega | (simp; omega) | simp, by first | omega | (simp; omega) | simp, by first | omega | (simp; omega) | simp, by first | omega | (simp; omega) | simp, hx_l1351, rfl⟩ ?_
 clear H
 intro zz1353 lf st1353 hI1353 Q1353 hN1353 hE1353 hX1353
 obtain ⟨xs1353, v1361, own1375, l1376, rfl, H, hi1353_0, hi1353_1, hi1353_2, hi1353_3, hi1353_5, hi1353_6, hi1353_7, hx_l1376, hz1353⟩ := hI1353
 refine wl_tail ?_
 refine wl_assoc ?_
 refine wl_assoc ?_
 refine wl_ops ?_
 refine wr_run 4 [(18, (.int (v1361))), (19, (lst own1163 encI l1164)), (20, (.int ((l1164.length : Int)))), (21, (.bool (decide ((v1361 : Int) < ((l1164.length : Int) : Int)))))] (by kernel_rfl) ?_
 refine wr_done ?_
 refine wl_cond (decide ((v1361 : Int) < ((l1164.length : Int) : Int))) (by kernel_rfl) (fun c1398 => ?_) (fun c1398 => ?_)
 ·skip
  have c1398' : (v1361 : Int) < (l1164.length : Int) := of_decide_eq_true c1398
  refine wl_skip_seq ?_
  refine wl_assoc ?_
  refine wl_block fun Q1399 hN1399 hE1399 hX1399 => ?_
  refine wl_tail ?_
  refine wl_ops ?_
  refine wr_run 4 [(24, (.fn 8 [] [])), (25, (.ptr h 0)), (26, (lst own1163 encI l1164)), (27, (.int (v1361)))] (by kernel_rfl) ?_
  refine wr_iaddre encI_len own1163 l1164 (by kernel_rfl) (v1361) (by kernel_rfl) (by omega) (by kernel_rfl) fun y1400 hy1400 => ?_
  refine wr_loade encI_len l1164 ((v1361 : Int).toNat) 0 y1400 hy1400 (by kernel_rfl) (.int (y1400)) (by kernel_rfl) (by decide) (by decide) (by kernel_rfl) ?_
  refine wr_callv (.fn 8 [] []) (by kernel_rfl) [(.ptr h 0), (.int (y1400))] (by kernel_rfl) (by kernel_rfl) ?_
  refine wf_L c8 rfl ?_
  refine wl_tail ?_
  refine wl_ops ?_
  refine wr_run 4 [(4, (.ptr h 0)), (5, (.ptr h 0)), (6, (.ptr h 0)), (7, (.ptr h 0))] (by kernel_rfl) ?_
  refine wr_load H 1 h 0 _ false rfl (by kernel_rfl) (lst own1375 encI l1376) (by kernel_rfl) (by kernel_rfl) ?_
  refine wr_run 2 [(9, (.int (y1400))), (10, (lst .exact encI [y1400]))] (by kernel_rfl) ?_
  refine wr_appendX encI_len encI_one H rfl 0 own1375 rfl l1376 [y1400] (by kernel_rfl) .exact (by kernel_rfl) hx_l1376 (by first | omega | (simp; done) | (simp; omega)) rfl (by kernel_rfl) fun own1401 l1403 st1402 hl1403 el1403 hx_l1403 H => ?_
  simp only [List.length_cons, List.length_nil] at hl1403
  refine wr_run 2 [(12, (.ptr h 0)), (13, (.ptr h 0))] (by kernel_rfl) ?_
  refine wr_store H 1 h 0 _ false rfl (by kernel_rfl) (lst own1401 encI l1403) (by kernel_rfl) [(lst own1401 encI l1403), (.list .exact [] 0)] (by kernel_rfl) (by kernel_rfl) (by kernel_rfl) (Nat.le_of_ble_eq_true rfl) (by kernel_rfl) (by kernel_rfl) fun st1404 H => ?_
  refine wr_done ?_
  refine wl_skip ?_
  refine post_i (Or.inl rfl) (.tup []) (by kernel_rfl) ?_
  refine wr_done ?_
  refine wl_skip ?_
  refine hN1399 _ _ ?_
  refine wl_ops ?_
  refine wr_run 1 [(22, (.int (v1361)))] (by kernel_rfl) ?_
  refine wr_bin (.int (v1361)) (.int (1)) (.int (v1361 + 1)) (by kernel_rfl) (by kernel_rfl) (add64e _ (by unfold I64; omega)) (by kernel_rfl) ?_
  refine wr_run 1 [(6, (.int (v1361 + 1)))] (by kernel_rfl) ?_
  refine wr_done ?_
  refine wl_skip ?_
  refine hN1353 _ _ _ ⟨(LX [(18, (.int (v1361))), (19, (lst own1163 encI l1164)), (20, (.int ((l1164.length : Int)))), (21, (.bool (decide ((v1361 : Int) < ((l1164.length : Int) : Int))))), (22, (.int (v1361))), (23, (.int (v1361 + 1))), (24, (.fn 8 [] [])), (25, (.ptr h 0)), (26, (lst own1163 encI l1164)), (27, (.int (v1361))), (28, (.lptr (l1164.flatMap encI) ((v1361 : Int).toNat * 1))), (29, (.int (y1400))), (30, (.tup []))]), v1361 + 1, own1401, l1403, by kernel_rfl, H, by first | omega | (simp; omega) | simp, by first | omega | (simp; omega) | simp, by first | omega | (simp; omega) | simp, by first | omega | (simp; omega) | simp, by first | omega | (simp; omega) | simp, by first | omega | (simp; omega) | simp, by first | omega | (simp; omega) | simp, hx_l1403, rfl⟩ (by first | omega | (simp only; omega))
 ·skip
  have c1398' : ¬ ((v1361 : Int) < (l1164.length : Int)) := of_decide_eq_false c1398
  refine wl_exit ?_
  refine hE1353 _ _ ?_
  refine wl_skip ?_
  refine post_i (Or.inl rfl) (.tup []) (by kernel_rfl) ?_
  refine wr_done ?_
  refine wl_skip ?_
  refine post_i (Or.inl rfl) (.tup []) (by kernel_rfl) ?_
  refine wr_done ?_
  refine wl_assoc ?_
  refine wl_ops ?_
  refine wr_run 2 [(19, (.ptr h 0)), (20, (.int (e1165)))] (by kernel_rfl) ?_
  refine wr_call [(.ptr h 0), (.int (e1165))] (by kernel_rfl) (by kernel_rfl) ?_
  refine wf_L c9 rfl ?_
  refine wl_tail ?_
  refine wl_ops ?_
  refine wr_run 4 [(4, (.ptr h 0)), (5, (.ptr h 0)), (6, (.ptr h 0)), (7, (.ptr h 0))] (by kernel_rfl) ?_
  refine wr_load H 1 h 0 _ false rfl (by kernel_rfl) (lst own1375 encI l1376) (by kernel_rfl) (by kernel_rfl) ?_
  refine wr_run 2 [(9, (.int (e1165))), (10, (lst .exact encI [e1165]))] (by kernel_rfl) ?_
  refine wr_appendX encI_len encI_one H rfl 0 own1375 rfl l1376 [e1165] (by kernel_rfl) .exact (by kernel_rfl) hx_l1376 (by first | omega | (simp; done) | (simp; omega)) rfl (by kernel_rfl) fun own1405 l1407 st1406 hl1407 el1407 hx_l1407 H => ?_
  simp only [List.length_cons, List.length_nil] at hl1407
  refine wr_run 2 [(12, (.ptr h 0)), (13, (.ptr h 0))] (by kernel_rfl) ?_
  refine wr_store H 1 h 0 _ false rfl (by kernel_rfl) (lst own1405 encI l1407) (by kernel_rfl) [(lst own1405 encI l1407), (.list .exact [] 0)] (by kernel_rfl) (by kernel_rfl) (by kernel_rfl) (Nat.le_of_ble_eq_true rfl) (by kernel_rfl) (by kernel_rfl) fun st1408 H => ?_
  refine wr_done ?_
  refine wl_skip ?_
  refine post_i (Or.inl rfl) (.tup []) (by kernel_rfl) ?_
  refine wr_done ?_
  refine wl_assoc ?_
  refine wl_ops ?_
  refine wr_run 2 [(22, (.fn 27 [] [(.ptr a1174 0)])), (3, (.fn 27 [] [(.ptr a1174 0)]))] (by kernel_rfl) ?_
  refine wr_done ?_
  refine wl_ret ?_
  refine post_i (Or.inr rfl) (.fn 27 [] [(.ptr a1174 0)]) (by kernel_rfl) ?_
  exact ⟨own1405, l1407, .exact, [], own1163, l1164, a1174, rfl, ⟨H.tok 0 rfl, hx_l1407⟩, ⟨True.intro, fun _ => rfl⟩, by first | omega | (simp; omega) | simp, by first | omega | (simp; omega) | simp, by first | omega | (simp; omega) | simp, ⟨H.tok 1 rfl, hx1173⟩, (H.apart2 1 0 rfl rfl (by decide)), (fun a _ e => nomatch e), H.news [0] (by decide) _ rfl, H.eff _ (List.forall_mem_cons.2 ⟨(fun e => nomatch e), (List.forall_mem_cons.2 ⟨(fun _ => Or.inl (by simp)), (by simp)⟩)⟩) (List.forall_mem_cons.2 ⟨⟨_, List.mem_of_getElem? (i := 1) rfl, rfl, rfl⟩, (by simp)⟩)⟩

set_option maxHeartbeats 4000000 in
theorem clos7 (x : AnewChest) (h : Nat) (st : St) (hc_h : st.get h = some (.cells [(.list .exact [] 0), (.list .exact [] 0)])) (hp : (x.Chest.People.length : Int) ≤ 1048576) (hc : (x.Chest.Copies.length : Int) ≤ 1048576) (hr : (x.Chest.Rules.length : Int) ≤ 1048576) (hw : (x.Words.length : Int) ≤ 1048576) (hq : (x.Copies.length : Int) ≤ 1048576) : WF Try.prog 28 [(.ptr h 0), (.lptr [(.int (x.Chest.Words)), (.int (x.Chest.Facts)), (lst .any encS x.Chest.People), (.int (x.Chest.Last)), (lst .any encCopy x.Chest.Copies), (lst .any encRule x.Chest.Rules), (.int (x.Person)), (lst .any encI x.Words), (lst .any encI x.Copies), (.int (x.Number)), (.int (x.Fact))] 0)] st fun r st' => ∃ (o1409 : EF.Own) (N1410 : List Int) (o1411 : EF.Own) (Z1412 : List ByteArray) (o1413 : EF.Own) (l1414 : List Int) (c1415 : Nat), r = (.fn 30 [] [(.ptr c1415 0)]) ∧ (Grown st st' (o1409, 1) ∧ (o1409 = .exact → N1410 = [])) ∧ (Grown st st' (o1411, 1) ∧ (o1411 = .exact → Z1412 = [])) ∧ ((N1410.length : Int) ≤ 4503599627370496) ∧ ((Z1412.length : Int) ≤ 4503599627370496) ∧ ((l1414.length : Int) ≤ 4503599627370496) ∧ (Grown st st' (o1413, 1) ∧ (o1413 = .exact → l1414 = [])) ∧ (∀ a, o1413 = .tok a → o1409 ≠ .tok a) ∧ (∀ a, o1413 = .tok a → o1411 ≠ .tok a) ∧ New [(c1415, .cells [(lst o1413 encI l1414)])] st st' ∧ Eff [(h, .cells [(lst o1409 encI N1410), (lst o1411 encS Z1412)])] st st' := by
 refine wf_L c28 rfl ?_
 have H : SP st [⟨h, .cells [(.list .exact [] 0), (.list .exact [] 0)], false⟩] [] st := SP.startm _ (List.forall_mem_cons.2 ⟨⟨hc_h, rfl⟩, (by simp)⟩) (by simp)
 refine wl_tail ?_
 refine wl_assoc ?_
 refine wl_ops ?_
 refine wr_run 1 [(3, (.v .nilFunc))] (by kernel_rfl) ?_
 refine wr_done ?_
 refine wl_assoc ?_
 refine wl_ops ?_
 refine wr_run 1 [(7, (.lptr [(.int (x.Chest.Words)), (.int (x.Chest.Facts)), (lst .any encS x.Chest.People), (.int (x.Chest.Last)), (lst .any encCopy x.Chest.Copies), (lst .any encRule x.Chest.Rules), (.int (x.Person)), (lst .any encI x.Words), (lst .any encI x.Copies), (.int (x.Number)), (.int (x.Fact))] 0))] (by kernel_rfl) ?_
 refine wr_loadl [(.int (x.Chest.Words)), (.int (x.Chest.Facts)), (lst .any encS x.Chest.People), (.int (x.Chest.Last)), (lst .any encCopy x.Chest.Copies), (lst .any encRule x.Chest.Rules), (.int (x.Person)), (lst .any encI x.Words), (lst .any encI x.Copies), (.int (x.Number)), (.int (x.Fact))] 0 (by kernel_rfl) (.agg [(.int (x.Chest.Words)), (.int (x.Chest.Facts)), (lst .any encS x.Chest.People), (.int (x.Chest.Last)), (lst .any encCopy x.Chest.Copies), (lst .any encRule x.Chest.Rules)]) (by kernel_rfl) (by kernel_rfl) ?_
 refine wr_run 1 [(9, (.lptr [(.int (x.Chest.Words)), (.int (x.Chest.Facts)), (lst .any encS x.Chest.People), (.int (x.Chest.Last)), (lst .any encCopy x.Chest.Copies), (lst .any encRule x.Chest.Rules), (.int (x.Person)), (lst .any encI x.Words), (lst .any encI x.Copies), (.int (x.Number)), (.int (x.Fact))] 6))] (by kernel_rfl) ?_
 refine wr_loadl [(.int (x.Chest.Words)), (.int (x.Chest.Facts)), (lst .any encS x.Chest.People), (.int (x.Chest.Last)), (lst .any encCopy x.Chest.Copies), (lst .any encRule x.Chest.Rules), (.int (x.Person)), (lst .any encI x.Words), (lst .any encI x.Copies), (.int (x.Number)), (.int (x.Fact))] 6 (by kernel_rfl) (.int (x.Person)) (by kernel_rfl) (by kernel_rfl) ?_
 refine wr_run 1 [(11, (.lptr [(.int (x.Chest.Words)), (.int (x.Chest.Facts)), (lst .any encS x.Chest.People), (.int (x.Chest.Last)), (lst .any encCopy x.Chest.Copies), (lst .any encRule x.Chest.Rules), (.int (x.Person)), (lst .any encI x.Words), (lst .any encI x.Copies), (.int (x.Number)), (.int (x.Fact))] 10))] (by kernel_rfl) ?_
 refine wr_loadl [(.int (x.Chest.Words)), (.int (x.Chest.Facts)), (lst .any encS x.Chest.People), (.int (x.Chest.Last)), (lst .any encCopy x.Chest.Copies), (lst .any encRule x.Chest.Rules), (.int (x.Person)), (lst .any encI x.Words), (lst .any encI x.Copies), (.int (x.Number)), (.int (x.Fact))] 10 (by kernel_rfl) (.int (x.Fact)) (by kernel_rfl) (by kernel_rfl) ?_
 refine wr_call [(.agg [(.int (x.Chest.Words)), (.int (x.Chest.Facts)), (lst .any encS x.Chest.People), (.int (x.Chest.Last)), (lst .any encCopy x.Chest.Copies), (lst .any encRule x.Chest.Rules)]), (.int (x.Person)), (.int (x.Fact))] (by kernel_rfl) (by kernel_rfl) (WF.mono (Lock_ok x.Chest x.Person x.Fact _ (by omega) (by omega) (by omega)) ?_)
 rintro r1416 st1417 ⟨own1418, l1419, e1420, rfl, hf1423, hf1424, E1421⟩
 have H1425 := H
 replace H := H.then E1421
 obtain ⟨hg1427, hx1428⟩ := hf1424
 replace H := H.addtok H1425 _ _ hg1427
 refine wr_run 3 [(6, (.tup [(lst own1418 encI l1419), (.int (e1420))])), (14, (lst own1418 encI l1419)), (15, (.int (e1420)))] (by kernel_rfl) ?_
 refine wr_alloc H (by kernel_rfl) fun a1429 st1430 H => ?_
 refine wr_store H 0 a1429 0 _ true rfl (by kernel_rfl) (lst own1418 encI l1419) (by kernel_rfl) [(lst own1418 encI l1419)] (by kernel_rfl) (by kernel_rfl) (by kernel_rfl) (Nat.le_of_ble_eq_true rfl) (by kernel_rfl) (by kernel_rfl) fun st1431 H => ?_
 refine wr_run 1 [(5, (.int (e1420)))] (by kernel_rfl) ?_
 refine wr_done ?_
 refine wl_assoc ?_
 refine wl_ops ?_
 refine wr_run 1 [(16, (.ptr h 0))] (by kernel_rfl) ?_
 refine wr_load H 0 a1429 0 _ true rfl (by kernel_rfl) (lst own1418 encI l1419) (by kernel_rfl) (by kernel_rfl) ?_
 refine wr_call [(.ptr h 0), (lst own1418 encI l1419)] (by kernel_rfl) (by kernel_rfl) ?_
 refine wf_L c13 rfl ?_
 refine wl_tail ?_
 refine wl_ops ?_
 refine wr_run 2 [(4, (.ptr h 0)), (5, (lst own1418 encI l1419))] (by kernel_rfl) ?_
 refine wr_call [(.ptr h 0), (lst own1418 encI l1419), (.fn 8 [] [])] (by kernel_rfl) (by kernel_rfl) ?_
 refine wf_L c47 rfl ?_
 refine wl_tail ?_
 refine wl_assoc ?_
 refine wl_ops ?_
 refine wr_run 4 [(7, (.ptr h 0)), (8, (.ptr h 0)), (9, (.ptr h 0)), (10, (.ptr h 0))] (by kernel_rfl) ?_
 refine wr_load H 1 h 0 _ false rfl (by kernel_rfl) (.list .exact [] 0) (by kernel_rfl) (by kernel_rfl) ?_
 refine wr_run 3 [(12, (lst own1418 encI l1419)), (13, (.int ((l1419.length : Int)))), (14, (lst .exact encI [(l1419.length : Int)]))] (by kernel_rfl) ?_
 replace H := H.grow 1
 refine wr_appendX encI_len encI_one H rfl 0 .exact rfl ([] : List Int) [(l1419.length : Int)] (by kernel_rfl) .exact (by kernel_rfl) (fun _ => rfl) (by first | omega | (simp; done) | (simp; omega)) rfl (by kernel_rfl) fun own1604 l1606 st1605 hl1606 el1606 hx_l1606 H => ?_
 simp only [List.length_cons, List.length_nil] at hl1606
 refine wr_run 2 [(16, (.ptr h 0)), (17, (.ptr h 0))] (by kernel_rfl) ?_
 refine wr_store H 1 h 0 _ false rfl (by kernel_rfl) (lst own1604 encI l1606) (by kernel_rfl) [(lst own1604 encI l1606), (.list .exact [] 0)] (by kernel_rfl) (by kernel_rfl) (by kernel_rfl) (Nat.le_of_ble_eq_true rfl) (by kernel_rfl) (by kernel_rfl) fun st1607 H => ?_
 refine wr_done ?_
 refine wl_assoc ?_
 refine wl_ops ?_
 refine wr_run 1 [(6, (.int (0)))] (by kernel_rfl) ?_
 refine wr_done ?_
 refine wl_loop (σ := Nat) (fun (zz : Nat) (lf : List AV) (st' : St) => ∃ (xs1608 : Nat → AV) (v1616 : Int) (own1630 : EF.Own) (l1631 : List Int), lf = [(.ptr h 0), (lst own1418 encI l1419), (.fn 8 [] []), .junk, .junk, .junk, (.int (v1616)), (.ptr h 0), (.ptr h 0), (.ptr h 0), (.ptr h 0), (.list .exact [] 0), (lst own1418 encI l1419), (.int ((l1419.length : Int))), (lst .exact encI [(l1419.length : Int)]), (lst own1604 encI l1606), (.ptr h 0), (.ptr h 0), (xs1608 18), (xs1608 19), (xs1608 20), (xs1608 21), (xs1608 22), (xs1608 23), (xs1608 24), (xs1608 25), (xs1608 26), (xs1608 27), (xs1608 28), (xs1608 29), (xs1608 30)] ∧ SP st [⟨a1429, .cells [(lst own1418 encI l1419)], true⟩, ⟨h, .cells [(lst own1630 encI l1631), (.list .exact [] 0)], false⟩] [(own1630, 1), (own1418, 1)] st' ∧ (0 ≤ v1616) ∧ (0 ≤ v1616) ∧ (-1 ≤ v1616) ∧ (-9223372036854775808 ≤ v1616 ∧ v1616 ≤ 9223372036854775807) ∧ (v1616 ≤ (l1419.length : Int)) ∧ (v1616 ≤ 1048576) ∧ ((l1631.length : Int) ≤ (l1606.length : Int) + v1616) ∧ (own1630 = .exact → l1631 = []) ∧ zz = (-v1616 + 9223372036854775808).toNat) (fun z => z) _ ⟨(LX [(18, .junk), (19, .junk), (20, .junk), (21, .junk), (22, .junk), (23, .junk), (24, .junk), (25, .junk), (26, .junk), (27, .junk), (28, .junk), (29, .junk), (30, .junk)]), 0, own1604, l1606, by kernel_rfl, H, by first | omega | (simp; omega) | simp, by first | omega | (simp; omega) | simp, by first | omega | (simp; omega) | simp, by first | omega | (simp; omega) | simp, by first | omega | (simp; omega) | simp, by first | omega | (simp; omega) | simp, by first | omega | (simp; omega) | simp, hx_l1606, rfl⟩ ?_
 clear H
 intro zz1608 lf st1608 hI1608 Q1608 hN1608 hE1608 hX1608
 obtain ⟨xs1608, v1616, own1630, l1631, rfl, H, hi1608_0, hi1608_1, hi1608_2, hi1608_3, hi1608_5, hi1608_6, hi1608_7, hx_l1631, hz1608⟩ := hI1608
 refine wl_tail ?_
 refine wl_assoc ?_
 refine wl_assoc ?_
 refine wl_ops ?_
 refine wr_run 4 [(18, (.int (v1616))), (19, (lst own1418 encI l1419)), (20, (.int ((l1419.length : Int)))), (21, (.bool (decide ((v1616 : Int) < ((l1419.length : Int) : Int)))))] (by kernel_rfl) ?_
 refine wr_done ?_
 refine wl_cond (decide ((v1616 : Int) < ((l1419.length : Int) : Int))) (by kernel_rfl) (fun c1653 => ?_) (fun c1653 => ?_)
 ·skip
  have c1653' : (v1616 : Int) < (l1419.length : Int) := of_decide_eq_true c1653
  refine wl_skip_seq ?_
  refine wl_assoc ?_
  refine wl_block fun Q1654 hN1654 hE1654 hX1654 => ?_
  refine wl_tail ?_
  refine wl_ops ?_
  refine wr_run 4 [(24, (.fn 8 [] [])), (25, (.ptr h 0)), (26, (lst own1418 encI l1419)), (27, (.int (v1616)))] (by kernel_rfl) ?_
  refine wr_iaddre encI_len own1418 l1419 (by kernel_rfl) (v1616) (by kernel_rfl) (by omega) (by kernel_rfl) fun y1655 hy1655 => ?_
  refine wr_loade encI_len l1419 ((v1616 : Int).toNat) 0 y1655 hy1655 (by kernel_rfl) (.int (y1655)) (by kernel_rfl) (by decide) (by decide) (by kernel_rfl) ?_
  refine wr_callv (.fn 8 [] []) (by kernel_rfl) [(.ptr h 0), (.int (y1655))] (by kernel_rfl) (by kernel_rfl) ?_
  refine wf_L c8 rfl ?_
  refine wl_tail ?_
  refine wl_ops ?_
  refine wr_run 4 [(4, (.ptr h 0)), (5, (.ptr h 0)), (6, (.ptr h 0)), (7, (.ptr h 0))] (by kernel_rfl) ?_
  refine wr_load H 1 h 0 _ false rfl (by kernel_rfl) (lst own1630 encI l1631) (by kernel_rfl) (by kernel_rfl) ?_
  refine wr_run 2 [(9, (.int (y1655))), (10, (lst .exact encI [y1655]))] (by kernel_rfl) ?_
  refine wr_appendX encI_len encI_one H rfl 0 own1630 rfl l1631 [y1655] (by kernel_rfl) .exact (by kernel_rfl) hx_l1631 (by first | omega | (simp; done) | (simp; omega)) rfl (by kernel_rfl) fun own1656 l1658 st1657 hl1658 el1658 hx_l1658 H => ?_
  simp only [List.length_cons, List.length_nil] at hl1658
  refine wr_run 2 [(12, (.ptr h 0)), (13, (.ptr h 0))] (by kernel_rfl) ?_
  refine wr_store H 1 h 0 _ false rfl (by kernel_rfl) (lst own1656 encI l1658) (by kernel_rfl) [(lst own1656 encI l1658), (.list .exact [] 0)] (by kernel_rfl) (by kernel_rfl) (by kernel_rfl) (Nat.le_of_ble_eq_true rfl) (by kernel_rfl) (by kernel_rfl) fun st1659 H => ?_
  refine wr_done ?_
  refine wl_skip ?_
  refine post_i (Or.inl rfl) (.tup []) (by kernel_rfl) ?_
  refine wr_done ?_
  refine wl_skip ?_
  refine hN1654 _ _ ?_
  refine wl_ops ?_
  refine wr_run 1 [(22, (.int (v1616)))] (by kernel_rfl) ?_
  refine wr_bin (.int (v1616)) (.int (1)) (.int (v1616 + 1)) (by kernel_rfl) (by kernel_rfl) (add64e _ (by unfold I64; omega)) (by kernel_rfl) ?_
  refine wr_run 1 [(6, (.int (v1616 + 1)))] (by kernel_rfl) ?_
  refine wr_done ?_
  refine wl_skip ?_
  refine hN1608 _ _ _ ⟨(LX [(18, (.int (v1616))), (19, (lst own1418 encI l1419)), (20, (.int ((l1419.length : Int)))), (21, (.bool (decide ((v1616 : Int) < ((l1419.length : Int) : Int))))), (22, (.int (v1616))), (23, (.int (v1616 + 1))), (24, (.fn 8 [] [])), (25, (.ptr h 0)), (26, (lst own1418 encI l1419)), (27, (.int (v1616))), (28, (.lptr (l1419.flatMap encI) ((v1616 : Int).toNat * 1))), (29, (.int (y1655))), (30, (.tup []))]), v1616 + 1, own1656, l1658, by kernel_rfl, H, by first | omega | (simp; omega) | simp, by first | omega | (simp; omega) | simp, by first | omega | (simp; omega) | simp, by first | omega | (simp; omega) | simp, by first | omega | (simp; omega) | simp, by first | omega | (simp; omega) | simp, by first | omega | (simp; omega) | simp, hx_l1658, rfl⟩ (by first | omega | (simp only; omega))
 ·skip
  have c1653' : ¬ ((v1616 : Int) < (l1419.length : Int)) := of_decide_eq_false c1653
  refine wl_exit ?_
  refine hE1608 _ _ ?_
  refine wl_skip ?_
  refine post_i (Or.inl rfl) (.tup []) (by kernel_rfl) ?_
  refine wr_done ?_
  refine wl_skip ?_
  refine post_i (Or.inl rfl) (.tup []) (by kernel_rfl) ?_
  refine wr_done ?_
  refine wl_assoc ?_
  refine wl_ops ?_
  refine wr_run 2 [(19, (.ptr h 0)), (20, (.int (e1420)))] (by kernel_rfl) ?_
  refine wr_call [(.ptr h 0), (.int (e1420))] (by kernel_rfl) (by kernel_rfl) ?_
  refine wf_L c9 rfl ?_
  refine wl_tail ?_
  refine wl_ops ?_
  refine wr_run 4 [(4, (.ptr h 0)), (5, (.ptr h 0)), (6, (.ptr h 0)), (7, (.ptr h 0))] (by kernel_rfl) ?_
  refine wr_load H 1 h 0 _ false rfl (by kernel_rfl) (lst own1630 encI l1631) (by kernel_rfl) (by kernel_rfl) ?_
  refine wr_run 2 [(9, (.int (e1420))), (10, (lst .exact encI [e1420]))] (by kernel_rfl) ?_
  refine wr_appendX encI_len encI_one H rfl 0 own1630 rfl l1631 [e1420] (by kernel_rfl) .exact (by kernel_rfl) hx_l1631 (by first | omega | (simp; done) | (simp; omega)) rfl (by kernel_rfl) fun own1660 l1662 st1661 hl1662 el1662 hx_l1662 H => ?_
  simp only [List.length_cons, List.length_nil] at hl1662
  refine wr_run 2 [(12, (.ptr h 0)), (13, (.ptr h 0))] (by kernel_rfl) ?_
  refine wr_store H 1 h 0 _ false rfl (by kernel_rfl) (lst own1660 encI l1662) (by kernel_rfl) [(lst own1660 encI l1662), (.list .exact [] 0)] (by kernel_rfl) (by kernel_rfl) (by kernel_rfl) (Nat.le_of_ble_eq_true rfl) (by kernel_rfl) (by kernel_rfl) fun st1663 H => ?_
  refine wr_done ?_
  refine wl_skip ?_
  refine post_i (Or.inl rfl) (.tup []) (by kernel_rfl) ?_
  refine wr_done ?_
  refine wl_assoc ?_
  refine wl_ops ?_
  refine wr_run 2 [(22, (.fn 30 [] [(.ptr a1429 0)])), (3, (.fn 30 [] [(.ptr a1429 0)]))] (by kernel_rfl) ?_
  refine wr_done ?_
  refine wl_ret ?_
  refine post_i (Or.inr rfl) (.fn 30 [] [(.ptr a1429 0)]) (by kernel_rfl) ?_
  exact ⟨own1660, l1662, .exact, [], own1418, l1419, a1429, rfl, ⟨H.tok 0 rfl, hx_l1662⟩, ⟨True.intro, fun _ => rfl⟩, by first | omega | (simp; omega) | simp, by first | omega | (simp; omega) | simp, by first | omega | (simp; omega) | simp, ⟨H.tok 1 rfl, hx1428⟩, (H.apart2 1 0 rfl rfl (by decide)), (fun a _ e => nomatch e), H.news [0] (by decide) _ rfl, H.eff _ (List.forall_mem_cons.2 ⟨(fun e => nomatch e), (List.forall_mem_cons.2 ⟨(fun _ => Or.inl (by simp)), (by simp)⟩)⟩) (List.forall_mem_cons.2 ⟨⟨_, List.mem_of_getElem? (i := 1) rfl, rfl, rfl⟩, (by simp)⟩)⟩

set_option maxHeartbeats 4000000 in
theorem clos8 (x : AnewChest) (h : Nat) (st : St) (hc_h : st.get h = some (.cells [(.list .exact [] 0), (.list .exact [] 0)])) (hp : (x.Chest.People.length : Int) ≤ 1048576) (hc : (x.Chest.Copies.length : Int) ≤ 1048576) (hr : (x.Chest.Rules.length : Int) ≤ 1048576) (hw : (x.Words.length : Int) ≤ 1048576) (hq : (x.Copies.length : Int) ≤ 1048576) : WF Try.prog 31 [(.ptr h 0), (.lptr [(.int (x.Chest.Words)), (.int (x.Chest.Facts)), (lst .any encS x.Chest.People), (.int (x.Chest.Last)), (lst .any encCopy x.Chest.Copies), (lst .any encRule x.Chest.Rules), (.int (x.Person)), (lst .any encI x.Words), (lst .any encI x.Copies), (.int (x.Number)), (.int (x.Fact))] 0)] st fun r st' => ∃ (o1664 : EF.Own) (N1665 : List Int) (o1666 : EF.Own) (Z1667 : List ByteArray) (o1668 : EF.Own) (l1669 : List Int) (c1670 : Nat), r = (.fn 33 [] [(.ptr c1670 0)]) ∧ (Grown st st' (o1664, 1) ∧ (o1664 = .exact → N1665 = [])) ∧ (Grown st st' (o1666, 1) ∧ (o1666 = .exact → Z1667 = [])) ∧ ((N1665.length : Int) ≤ 4503599627370496) ∧ ((Z1667.length : Int) ≤ 4503599627370496) ∧ ((l1669.length : Int) ≤ 4503599627370496) ∧ (Grown st st' (o1668, 1) ∧ (o1668 = .exact → l1669 = [])) ∧ (∀ a, o1668 = .tok a → o1664 ≠ .tok a) ∧ (∀ a, o1668 = .tok a → o1666 ≠ .tok a) ∧ New [(c1670, .cells [(lst o1668 encI l1669)])] st st' ∧ Eff [(h, .cells [(lst o1664 encI N1665), (lst o1666 encS Z1667)])] st st' := by
 refine wf_L c31 rfl ?_
 have H : SP st [⟨h, .cells [(.list .exact [] 0), (.list .exact [] 0)], false⟩] [] st := SP.startm _ (List.forall_mem_cons.2 ⟨⟨hc_h, rfl⟩, (by simp)⟩) (by simp)
 refine wl_tail ?_
 refine wl_assoc ?_
 refine wl_ops ?_
 refine wr_run 1 [(3, (.v .nilFunc))] (by kernel_rfl) ?_
 refine wr_done ?_
 refine wl_assoc ?_
 refine wl_ops ?_
 refine wr_run 1 [(7, (.lptr [(.int (x.Chest.Words)), (.int (x.Chest.Facts)), (lst .any encS x.Chest.People), (.int (x.Chest.Last)), (lst .any encCopy x.Chest.Copies), (lst .any encRule x.Chest.Rules), (.int (x.Person)), (lst .any encI x.Words), (lst .any encI x.Copies), (.int (x.Number)), (.int (x.Fact))] 0))] (by kernel_rfl) ?_
 refine wr_loadl [(.int (x.Chest.Words)), (.int (x.Chest.Facts)), (lst .any encS x.Chest.People), (.int (x.Chest.Last)), (lst .any encCopy x.Chest.Copies), (lst .any encRule x.Chest.Rules), (.int (x.Person)), (lst .any encI x.Words), (lst .any encI x.Copies), (.int (x.Number)), (.int (x.Fact))] 0 (by kernel_rfl) (.agg [(.int (x.Chest.Words)), (.int (x.Chest.Facts)), (lst .any encS x.Chest.People), (.int (x.Chest.Last)), (lst .any encCopy x.Chest.Copies), (lst .any encRule x.Chest.Rules)]) (by kernel_rfl) (by kernel_rfl) ?_
 refine wr_run 1 [(9, (.lptr [(.int (x.Chest.Words)), (.int (x.Chest.Facts)), (lst .any encS x.Chest.People), (.int (x.Chest.Last)), (lst .any encCopy x.Chest.Copies), (lst .any encRule x.Chest.Rules), (.int (x.Person)), (lst .any encI x.Words), (lst .any encI x.Copies), (.int (x.Number)), (.int (x.Fact))] 6))] (by kernel_rfl) ?_
 refine wr_loadl [(.int (x.Chest.Words)), (.int (x.Chest.Facts)), (lst .any encS x.Chest.People), (.int (x.Chest.Last)), (lst .any encCopy x.Chest.Copies), (lst .any encRule x.Chest.Rules), (.int (x.Person)), (lst .any encI x.Words), (lst .any encI x.Copies), (.int (x.Number)), (.int (x.Fact))] 6 (by kernel_rfl) (.int (x.Person)) (by kernel_rfl) (by kernel_rfl) ?_
 refine wr_call [(.agg [(.int (x.Chest.Words)), (.int (x.Chest.Facts)), (lst .any encS x.Chest.People), (.int (x.Chest.Last)), (lst .any encCopy x.Chest.Copies), (lst .any encRule x.Chest.Rules)]), (.int (x.Person))] (by kernel_rfl) (by kernel_rfl) (WF.mono (Least_ok x.Chest x.Person _ (by omega) (by omega) (by omega)) ?_)
 rintro r1671 st1672 ⟨own1673, l1674, e1675, rfl, hf1678, hf1679, E1676⟩
 have H1680 := H
 replace H := H.then E1676
 obtain ⟨hg1682, hx1683⟩ := hf1679
 replace H := H.addtok H1680 _ _ hg1682
 refine wr_run 3 [(6, (.tup [(lst own1673 encI l1674), (.int (e1675))])), (12, (lst own1673 encI l1674)), (13, (.int (e1675)))] (by kernel_rfl) ?_
 refine wr_alloc H (by kernel_rfl) fun a1684 st1685 H => ?_
 refine wr_store H 0 a1684 0 _ true rfl (by kernel_rfl) (lst own1673 encI l1674) (by kernel_rfl) [(lst own1673 encI l1674)] (by kernel_rfl) (by kernel_rfl) (by kernel_rfl) (Nat.le_of_ble_eq_true rfl) (by kernel_rfl) (by kernel_rfl) fun st1686 H => ?_
 refine wr_run 1 [(5, (.int (e1675)))] (by kernel_rfl) ?_
 refine wr_done ?_
 refine wl_assoc ?_
 refine wl_ops ?_
 refine wr_run 1 [(14, (.ptr h 0))] (by kernel_rfl) ?_
 refine wr_load H 0 a1684 0 _ true rfl (by kernel_rfl) (lst own1673 encI l1674) (by kernel_rfl) (by kernel_rfl) ?_
 refine wr_call [(.ptr h 0), (lst own1673 encI l1674)] (by kernel_rfl) (by kernel_rfl) ?_
 refine wf_L c13 rfl ?_
 refine wl_tail ?_
 refine wl_ops ?_
 refine wr_run 2 [(4, (.ptr h 0)), (5, (lst own1673 encI l1674))] (by kernel_rfl) ?_
 refine wr_call [(.ptr h 0), (lst own1673 encI l1674), (.fn 8 [] [])] (by kernel_rfl) (by kernel_rfl) ?_
 refine wf_L c47 rfl ?_
 refine wl_tail ?_
 refine wl_assoc ?_
 refine wl_ops ?_
 refine wr_run 4 [(7, (.ptr h 0)), (8, (.ptr h 0)), (9, (.ptr h 0)), (10, (.ptr h 0))] (by kernel_rfl) ?_
 refine wr_load H 1 h 0 _ false rfl (by kernel_rfl) (.list .exact [] 0) (by kernel_rfl) (by kernel_rfl) ?_
 refine wr_run 3 [(12, (lst own1673 encI l1674)), (13, (.int ((l1674.length : Int)))), (14, (lst .exact encI [(l1674.length : Int)]))] (by kernel_rfl) ?_
 replace H := H.grow 1
 refine wr_appendX encI_len encI_one H rfl 0 .exact rfl ([] : List Int) [(l1674.length : Int)] (by kernel_rfl) .exact (by kernel_rfl) (fun _ => rfl) (by first | omega | (simp; done) | (simp; omega)) rfl (by kernel_rfl) fun own1859 l1861 st1860 hl1861 el1861 hx_l1861 H => ?_
 simp only [List.length_cons, List.length_nil] at hl1861
 refine wr_run 2 [(16, (.ptr h 0)), (17, (.ptr h 0))] (by kernel_rfl) ?_
 refine wr_store H 1 h 0 _ false rfl (by kernel_rfl) (lst own1859 encI l1861) (by kernel_rfl) [(lst own1859 encI l1861), (.list .exact [] 0)] (by kernel_rfl) (by kernel_rfl) (by kernel_rfl) (Nat.le_of_ble_eq_true rfl) (by kernel_rfl) (by kernel_rfl) fun st1862 H => ?_
 refine wr_done ?_
 refine wl_assoc ?_
 refine wl_ops ?_
 refine wr_run 1 [(6, (.int (0)))] (by kernel_rfl) ?_
 refine wr_done ?_
 refine wl_loop (σ := Nat) (fun (zz : Nat) (lf : List AV) (st' : St) => ∃ (xs1863 : Nat → AV) (v1871 : Int) (own1885 : EF.Own) (l1886 : List Int), lf = [(.ptr h 0), (lst own1673 encI l1674), (.fn 8 [] []), .junk, .junk, .junk, (.int (v1871)), (.ptr h 0), (.ptr h 0), (.ptr h 0), (.ptr h 0), (.list .exact [] 0), (lst own1673 encI l1674), (.int ((l1674.length : Int))), (lst .exact encI [(l1674.length : Int)]), (lst own1859 encI l1861), (.ptr h 0), (.ptr h 0), (xs1863 18), (xs1863 19), (xs1863 20), (xs1863 21), (xs1863 22), (xs1863 23), (xs1863 24), (xs1863 25), (xs1863 26), (xs1863 27), (xs1863 28), (xs1863 29), (xs1863 30)] ∧ SP st [⟨a1684, .cells [(lst own1673 encI l1674)], true⟩, ⟨h, .cells [(lst own1885 encI l1886), (.list .exact [] 0)], false⟩] [(own1885, 1), (own1673, 1)] st' ∧ (0 ≤ v1871) ∧ (0 ≤ v1871) ∧ (-1 ≤ v1871) ∧ (-9223372036854775808 ≤ v1871 ∧ v1871 ≤ 9223372036854775807) ∧ (v1871 ≤ (l1674.length : Int)) ∧ (v1871 ≤ 1048576) ∧ ((l1886.length : Int) ≤ (l1861.length : Int) + v1871) ∧ (own1885 = .exact → l1886 = []) ∧ zz = (-v1871 + 9223372036854775808).toNat) (fun z => z) _ ⟨(LX [(18, .junk), (19, .junk), (20, .junk), (21, .junk), (22, .junk), (23, .junk), (24, .junk), (25, .junk), (26, .junk), (27, .junk), (28, .junk), (29, .junk), (30, .junk)]), 0, own1859, l1861, by kernel_rfl, H, by first | omega | (simp; omega) | simp, by first | omega | (simp; omega) | simp, by first | omega | (simp; omega) | simp, by first | omega | (simp; omega) | simp, by first | omega | (simp; omega) | simp, by first | omega | (simp; omega) | simp, by first | omega | (simp; omega) | simp, hx_l1861, rfl⟩ ?_
 clear H
 intro zz1863 lf st1863 hI1863 Q1863 hN1863 hE1863 hX1863
 obtain ⟨xs1863, v1871, own1885, l1886, rfl, H, hi1863_0, hi1863_1, hi1863_2, hi1863_3, hi1863_5, hi1863_6, hi1863_7, hx_l1886, hz1863⟩ := hI1863
 refine wl_tail ?_
 refine wl_assoc ?_
 refine wl_assoc ?_
 refine wl_ops ?_
 refine wr_run 4 [(18, (.int (v1871))), (19, (lst own1673 encI l1674)), (20, (.int ((l1674.length : Int)))), (21, (.bool (decide ((v1871 : Int) < ((l1674.length : Int) : Int)))))] (by kernel_rfl) ?_
 refine wr_done ?_
 refine wl_cond (decide ((v1871 : Int) < ((l1674.length : Int) : Int))) (by kernel_rfl) (fun c1908 => ?_) (fun c1908 => ?_)
 ·skip
  have c1908' : (v1871 : Int) < (l1674.length : Int) := of_decide_eq_true c1908
  refine wl_skip_seq ?_
  refine wl_assoc ?_
  refine wl_block fun Q1909 hN1909 hE1909 hX1909 => ?_
  refine wl_tail ?_
  refine wl_ops ?_
  refine wr_run 4 [(24, (.fn 8 [] [])), (25, (.ptr h 0)), (26, (lst own1673 encI l1674)), (27, (.int (v1871)))] (by kernel_rfl) ?_
  refine wr_iaddre encI_len own1673 l1674 (by kernel_rfl) (v1871) (by kernel_rfl) (by omega) (by kernel_rfl) fun y1910 hy1910 => ?_
  refine wr_loade encI_len l1674 ((v1871 : Int).toNat) 0 y1910 hy1910 (by kernel_rfl) (.int (y1910)) (by kernel_rfl) (by decide) (by decide) (by kernel_rfl) ?_
  refine wr_callv (.fn 8 [] []) (by kernel_rfl) [(.ptr h 0), (.int (y1910))] (by kernel_rfl) (by kernel_rfl) ?_
  refine wf_L c8 rfl ?_
  refine wl_tail ?_
  refine wl_ops ?_
  refine wr_run 4 [(4, (.ptr h 0)), (5, (.ptr h 0)), (6, (.ptr h 0)), (7, (.ptr h 0))] (by kernel_rfl) ?_
  refine wr_load H 1 h 0 _ false rfl (by kernel_rfl) (lst own1885 encI l1886) (by kernel_rfl) (by kernel_rfl) ?_
  refine wr_run 2 [(9, (.int (y1910))), (10, (lst .exact encI [y1910]))] (by kernel_rfl) ?_
  refine wr_appendX encI_len encI_one H rfl 0 own1885 rfl l1886 [y1910] (by kernel_rfl) .exact (by kernel_rfl) hx_l1886 (by first | omega | (simp; done) | (simp; omega)) rfl (by kernel_rfl) fun own1911 l1913 st1912 hl1913 el1913 hx_l1913 H => ?_
  simp only [List.length_cons, List.length_nil] at hl1913
  refine wr_run 2 [(12, (.ptr h 0)), (13, (.ptr h 0))] (by kernel_rfl) ?_
  refine wr_store H 1 h 0 _ false rfl (by kernel_rfl) (lst own1911 encI l1913) (by kernel_rfl) [(lst own1911 encI l1913), (.list .exact [] 0)] (by kernel_rfl) (by kernel_rfl) (by kernel_rfl) (Nat.le_of_ble_eq_true rfl) (by kernel_rfl) (by kernel_rfl) fun st1914 H => ?_
  refine wr_done ?_
  refine wl_skip ?_
  refine post_i (Or.inl rfl) (.tup []) (by kernel_rfl) ?_
  refine wr_done ?_
  refine wl_skip ?_
  refine hN1909 _ _ ?_
  refine wl_ops ?_
  refine wr_run 1 [(22, (.int (v1871)))] (by kernel_rfl) ?_
  refine wr_bin (.int (v1871)) (.int (1)) (.int (v1871 + 1)) (by kernel_rfl) (by kernel_rfl) (add64e _ (by unfold I64; omega)) (by kernel_rfl) ?_
  refine wr_run 1 [(6, (.int (v1871 + 1)))] (by kernel_rfl) ?_
  refine wr_done ?_
  refine wl_skip ?_
  refine hN1863 _ _ _ ⟨(LX [(18, (.int (v1871))), (19, (lst own1673 encI l1674)), (20, (.int ((l1674.length : Int)))), (21, (.bool (decide ((v1871 : Int) < ((l1674.length : Int) : Int))))), (22, (.int (v1871))), (23, (.int (v1871 + 1))), (24, (.fn 8 [] [])), (25, (.ptr h 0)), (26, (lst own1673 encI l1674)), (27, (.int (v1871))), (28, (.lptr (l1674.flatMap encI) ((v1871 : Int).toNat * 1))), (29, (.int (y1910))), (30, (.tup []))]), v1871 + 1, own1911, l1913, by kernel_rfl, H, by first | omega | (simp; omega) | simp, by first | omega | (simp; omega) | simp, by first | omega | (simp; omega) | simp, by first | omega | (simp; omega) | simp, by first | omega | (simp; omega) | simp, by first | omega | (simp; omega) | simp, by first | omega | (simp; omega) | simp, hx_l1913, rfl⟩ (by first | omega | (simp only; omega))
 ·skip
  have c1908' : ¬ ((v1871 : Int) < (l1674.length : Int)) := of_decide_eq_false c1908
  refine wl_exit ?_
  refine hE1863 _ _ ?_
  refine wl_skip ?_
  refine post_i (Or.inl rfl) (.tup []) (by kernel_rfl) ?_
  refine wr_done ?_
  refine wl_skip ?_
  refine post_i (Or.inl rfl) (.tup []) (by kernel_rfl) ?_
  refine wr_done ?_
  refine wl_assoc ?_
  refine wl_ops ?_
  refine wr_run 2 [(17, (.ptr h 0)), (18, (.int (e1675)))] (by kernel_rfl) ?_
  refine wr_call [(.ptr h 0), (.int (e1675))] (by kernel_rfl) (by kernel_rfl) ?_
  refine wf_L c9 rfl ?_
  refine wl_tail ?_
  refine wl_ops ?_
  refine wr_run 4 [(4, (.ptr h 0)), (5, (.ptr h 0)), (6, (.ptr h 0)), (7, (.ptr h 0))] (by kernel_rfl) ?_
  refine wr_load H 1 h 0 _ false rfl (by kernel_rfl) (lst own1885 encI l1886) (by kernel_rfl) (by kernel_rfl) ?_
  refine wr_run 2 [(9, (.int (e1675))), (10, (lst .exact encI [e1675]))] (by kernel_rfl) ?_
  refine wr_appendX encI_len encI_one H rfl 0 own1885 rfl l1886 [e1675] (by kernel_rfl) .exact (by kernel_rfl) hx_l1886 (by first | omega | (simp; done) | (simp; omega)) rfl (by kernel_rfl) fun own1915 l1917 st1916 hl1917 el1917 hx_l1917 H => ?_
  simp only [List.length_cons, List.length_nil] at hl1917
  refine wr_run 2 [(12, (.ptr h 0)), (13, (.ptr h 0))] (by kernel_rfl) ?_
  refine wr_store H 1 h 0 _ false rfl (by kernel_rfl) (lst own1915 encI l1917) (by kernel_rfl) [(lst own1915 encI l1917), (.list .exact [] 0)] (by kernel_rfl) (by kernel_rfl) (by kernel_rfl) (Nat.le_of_ble_eq_true rfl) (by kernel_rfl) (by kernel_rfl) fun st1918 H => ?_
  refine wr_done ?_
  refine wl_skip ?_
  refine post_i (Or.inl rfl) (.tup []) (by kernel_rfl) ?_
  refine wr_done ?_
  refine wl_assoc ?_
  refine wl_ops ?_
  refine wr_run 2 [(20, (.fn 33 [] [(.ptr a1684 0)])), (3, (.fn 33 [] [(.ptr a1684 0)]))] (by kernel_rfl) ?_
  refine wr_done ?_
  refine wl_ret ?_
  refine post_i (Or.inr rfl) (.fn 33 [] [(.ptr a1684 0)]) (by kernel_rfl) ?_
  exact ⟨own1915, l1917, .exact, [], own1673, l1674, a1684, rfl, ⟨H.tok 0 rfl, hx_l1917⟩, ⟨True.intro, fun _ => rfl⟩, by first | omega | (simp; omega) | simp, by first | omega | (simp; omega) | simp, by first | omega | (simp; omega) | simp, ⟨H.tok 1 rfl, hx1683⟩, (H.apart2 1 0 rfl rfl (by decide)), (fun a _ e => nomatch e), H.news [0] (by decide) _ rfl, H.eff _ (List.forall_mem_cons.2 ⟨(fun e => nomatch e), (List.forall_mem_cons.2 ⟨(fun _ => Or.inl (by simp)), (by simp)⟩)⟩) (List.forall_mem_cons.2 ⟨⟨_, List.mem_of_getElem? (i := 1) rfl, rfl, rfl⟩, (by simp)⟩)⟩

set_option maxHeartbeats 4000000 in
theorem all_ok (x : AnewChest) (h : Nat) (st : St) (hc_h : st.get h = some (.cells [(.list .exact [] 0), (.list .exact [] 0)])) (hp : (x.Chest.People.length : Int) ≤ 1048576) (hc : (x.Chest.Copies.length : Int) ≤ 1048576) (hr : (x.Chest.Rules.length : Int) ≤ 1048576) (hw : (x.Words.length : Int) ≤ 1048576) (hq : (x.Copies.length : Int) ≤ 1048576) : WF Try.prog 4 [(.agg [(.int (x.Chest.Words)), (.int (x.Chest.Facts)), (lst .any encS x.Chest.People), (.int (x.Chest.Last)), (lst .any encCopy x.Chest.Copies), (lst .any encRule x.Chest.Rules), (.int (x.Person)), (lst .any encI x.Words), (lst .any encI x.Copies), (.int (x.Number)), (.int (x.Fact))]), (.ptr h 0)] st fun r st' => ∃ (o1919 : EF.Own) (N1920 : List Int) (o1921 : EF.Own) (Z1922 : List ByteArray), r = (.tup []) ∧ (Grown st st' (o1919, 1) ∧ (o1919 = .exact → N1920 = [])) ∧ (Grown st st' (o1921, 1) ∧ (o1921 = .exact → Z1922 = [])) ∧ ((N1920.length : Int) ≤ 4503599627370496) ∧ ((Z1922.length : Int) ≤ 4503599627370496) ∧ Eff [(h, .cells [(lst o1919 encI N1920), (lst o1921 encS Z1922)])] st st' := by
 refine wf_L c4 rfl ?_
 have H : SP st [⟨h, .cells [(.list .exact [] 0), (.list .exact [] 0)], false⟩] [] st := SP.startm _ (List.forall_mem_cons.2 ⟨⟨hc_h, rfl⟩, (by simp)⟩) (by simp)
 refine wl_tail ?_
 refine wl_assoc ?_
 refine wl_ops ?_
 refine wr_box (.agg [(.int (x.Chest.Words)), (.int (x.Chest.Facts)), (lst .any encS x.Chest.People), (.int (x.Chest.Last)), (lst .any encCopy x.Chest.Copies), (lst .any encRule x.Chest.Rules), (.int (x.Person)), (lst .any encI x.Words), (lst .any encI x.Copies), (.int (x.Number)), (.int (x.Fact))]) (by kernel_rfl) [(.int (x.Chest.Words)), (.int (x.Chest.Facts)), (lst .any encS x.Chest.People), (.int (x.Chest.Last)), (lst .any encCopy x.Chest.Copies), (lst .any encRule x.Chest.Rules), (.int (x.Person)), (lst .any encI x.Words), (lst .any encI x.Copies), (.int (x.Number)), (.int (x.Fact))] (by kernel_rfl) (by kernel_rfl) H (by kernel_rfl) fun a1923 st1924 H => ?_
 refine wr_done ?_
 refine wl_assoc ?_
 refine wl_ops ?_
 refine wr_run 2 [(4, (.ptr h 0)), (5, (.ptr a1923 0))] (by kernel_rfl) ?_
 refine wr_load H 0 a1923 0 _ true rfl (by kernel_rfl) (.agg [(.int (x.Chest.Words)), (.int (x.Chest.Facts)), (lst .any encS x.Chest.People), (.int (x.Chest.Last)), (lst .any encCopy x.Chest.Copies), (lst .any encRule x.Chest.Rules)]) (by kernel_rfl) (by kernel_rfl) ?_
 refine wr_call [(.ptr h 0), (.agg [(.int (x.Chest.Words)), (.int (x.Chest.Facts)), (lst .any encS x.Chest.People), (.int (x.Chest.Last)), (lst .any encCopy x.Chest.Copies), (lst .any encRule x.Chest.Rules)])] (by kernel_rfl) (by kernel_rfl) ?_
 refine wf_L c36 rfl ?_
 refine wl_tail ?_
 refine wl_assoc ?_
 refine wl_ops ?_
 refine wr_box (.agg [(.int (x.Chest.Words)), (.int (x.Chest.Facts)), (lst .any encS x.Chest.People), (.int (x.Chest.Last)), (lst .any encCopy x.Chest.Copies), (lst .any encRule x.Chest.Rules)]) (by kernel_rfl) [(.int (x.Chest.Words)), (.int (x.Chest.Facts)), (lst .any encS x.Chest.People), (.int (x.Chest.Last)), (lst .any encCopy x.Chest.Copies), (lst .any encRule x.Chest.Rules)] (by kernel_rfl) (by kernel_rfl) H (by kernel_rfl) fun a3580 st3581 H => ?_
 refine wr_done ?_
 refine wl_assoc ?_
 refine wl_ops ?_
 refine wr_run 2 [(4, (.ptr h 0)), (5, (.ptr a3580 0))] (by kernel_rfl) ?_
 refine wr_load H 0 a3580 0 _ true rfl (by kernel_rfl) (.int (x.Chest.Words)) (by kernel_rfl) (by kernel_rfl) ?_
 refine wr_call [(.ptr h 0), (.int (x.Chest.Words))] (by kernel_rfl) (by kernel_rfl) ?_
 refine wf_L c8 rfl ?_
 refine wl_tail ?_
 refine wl_ops ?_
 refine wr_run 4 [(4, (.ptr h 0)), (5, (.ptr h 0)), (6, (.ptr h 0)), (7, (.ptr h 0))] (by kernel_rfl) ?_
 refine wr_load H 2 h 0 _ false rfl (by kernel_rfl) (.list .exact [] 0) (by kernel_rfl) (by kernel_rfl) ?_
 refine wr_run 2 [(9, (.int (x.Chest.Words))), (10, (lst .exact encI [x.Chest.Words]))] (by kernel_rfl) ?_
 replace H := H.grow 1
 refine wr_appendX encI_len encI_one H rfl 0 .exact rfl ([] : List Int) [x.Chest.Words] (by kernel_rfl) .exact (by kernel_rfl) (fun _ => rfl) (by first | omega | (simp; done) | (simp; omega)) rfl (by kernel_rfl) fun own3583 l3585 st3584 hl3585 el3585 hx_l3585 H => ?_
 simp only [List.length_cons, List.length_nil] at hl3585
 refine wr_run 2 [(12, (.ptr h 0)), (13, (.ptr h 0))] (by kernel_rfl) ?_
 refine wr_store H 2 h 0 _ false rfl (by kernel_rfl) (lst own3583 encI l3585) (by kernel_rfl) [(lst own3583 encI l3585), (.list .exact [] 0)] (by kernel_rfl) (by kernel_rfl) (by kernel_rfl) (Nat.le_of_ble_eq_true rfl) (by kernel_rfl) (by kernel_rfl) fun st3586 H => ?_
 refine wr_done ?_
 refine wl_skip ?_
 refine post_i (Or.inl rfl) (.tup []) (by kernel_rfl) ?_
 refine wr_done ?_
 refine wl_assoc ?_
 refine wl_ops ?_
 refine wr_run 2 [(8, (.ptr h 0)), (9, (.ptr a3580 1))] (by kernel_rfl) ?_
 refine wr_load H 0 a3580 1 _ true rfl (by kernel_rfl) (.int (x.Chest.Facts)) (by kernel_rfl) (by kernel_rfl) ?_
 refine wr_call [(.ptr h 0), (.int (x.Chest.Facts))] (by kernel_rfl) (by kernel_rfl) ?_
 refine wf_L c8 rfl ?_
 refine wl_tail ?_
 refine wl_ops ?_
 refine wr_run 4 [(4, (.ptr h 0)), (5, (.ptr h 0)), (6, (.ptr h 0)), (7, (.ptr h 0))] (by kernel_rfl) ?_
 refine wr_load H 2 h 0 _ false rfl (by kernel_rfl) (lst own3583 encI l3585) (by kernel_rfl) (by kernel_rfl) ?_
 refine wr_run 2 [(9, (.int (x.Chest.Facts))), (10, (lst .exact encI [x.Chest.Facts]))] (by kernel_rfl) ?_
 refine wr_appendX encI_len encI_one H rfl 0 own3583 rfl l3585 [x.Chest.Facts] (by kernel_rfl) .exact (by kernel_rfl) hx_l3585 (by first | omega | (simp; done) | (simp; omega)) rfl (by kernel_rfl) fun own3587 l3589 st3588 hl3589 el3589 hx_l3589 H => ?_
 simp only [List.length_cons, List.length_nil] at hl3589
 refine wr_run 2 [(12, (.ptr h 0)), (13, (.ptr h 0))] (by kernel_rfl) ?_
 refine wr_store H 2 h 0 _ false rfl (by kernel_rfl) (lst own3587 encI l3589) (by kernel_rfl) [(lst own3587 encI l3589), (.list .exact [] 0)] (by kernel_rfl) (by kernel_rfl) (by kernel_rfl) (Nat.le_of_ble_eq_true rfl) (by kernel_rfl) (by kernel_rfl) fun st3590 H => ?_
 refine wr_done ?_
 refine wl_skip ?_
 refine post_i (Or.inl rfl) (.tup []) (by kernel_rfl) ?_
 refine wr_done ?_
 refine wl_assoc ?_
 refine wl_ops ?_
 refine wr_run 2 [(12, (.ptr h 0)), (13, (.ptr a3580 2))] (by kernel_rfl) ?_
 refine wr_load H 0 a3580 2 _ true rfl (by kernel_rfl) (lst .any encS x.Chest.People) (by kernel_rfl) (by kernel_rfl) ?_
 refine wr_call [(.ptr h 0), (lst .any encS x.Chest.People)] (by kernel_rfl) (by kernel_rfl) ?_
 refine wf_L c64 rfl ?_
 refine wl_tail ?_
 refine wl_ops ?_
 refine wr_run 2 [(4, (.ptr h 0)), (5, (lst .any encS x.Chest.People))] (by kernel_rfl) ?_
 refine wr_call [(.ptr h 0), (lst .any encS x.Chest.People), (.fn 76 [] [])] (by kernel_rfl) (by kernel_rfl) ?_
 refine wf_L c75 rfl ?_
 refine wl_tail ?_
 refine wl_assoc ?_
 refine wl_ops ?_
 refine wr_run 4 [(7, (.ptr h 0)), (8, (.ptr h 0)), (9, (.ptr h 0)), (10, (.ptr h 0))] (by kernel_rfl) ?_
 refine wr_frame [(.ptr h 0), (lst .any encS x.Chest.People), (.fn 76 [] []), .junk, .junk, .junk, .junk, (.ptr h 0), (.ptr h 0), (.ptr h 0), (.ptr h 0), .junk, .junk, .junk, .junk, .junk, .junk, .junk, .junk, .junk, .junk, .junk, .junk, .junk, .junk, .junk, .junk, .junk, .junk, .junk, .junk] (by kernel_rfl) ?_
 refine wr_load H 2 h 0 _ false rfl (by kernel_rfl) (lst own3587 encI l3589) (by kernel_rfl) (by kernel_rfl) ?_
 refine wr_run 3 [(12, (lst .any encS x.Chest.People)), (13, (.int ((x.Chest.People.length : Int)))), (14, (lst .exact encI [(x.Chest.People.length : Int)]))] (by kernel_rfl) ?_
 refine wr_appendX encI_len encI_one H rfl 0 own3587 rfl l3589 [(x.Chest.People.length : Int)] (by kernel_rfl) .exact (by kernel_rfl) hx_l3589 (by first | omega | (simp; done) | (simp; omega)) rfl (by kernel_rfl) fun own3765 l3767 st3766 hl3767 el3767 hx_l3767 H => ?_
 simp only [List.length_cons, List.length_nil] at hl3767
 refine wr_run 2 [(16, (.ptr h 0)), (17, (.ptr h 0))] (by kernel_rfl) ?_
 refine wr_store H 2 h 0 _ false rfl (by kernel_rfl) (lst own3765 encI l3767) (by kernel_rfl) [(lst own3765 encI l3767), (.list .exact [] 0)] (by kernel_rfl) (by kernel_rfl) (by kernel_rfl) (Nat.le_of_ble_eq_true rfl) (by kernel_rfl) (by kernel_rfl) fun st3768 H => ?_
 refine wr_done ?_
 refine wl_assoc ?_
 refine wl_ops ?_
 refine wr_run 1 [(6, (.int (0)))] (by kernel_rfl) ?_
 refine wr_done ?_
 replace H := H.grow 1
 refine wl_loop (σ := Nat) (fun (zz : Nat) (lf : List AV) (st' : St) => ∃ (xs3769 : Nat → AV) (v3786 : Int) (own3800 : EF.Own) (l3801 : List ByteArray), lf = [(.ptr h 0), (lst .any encS x.Chest.People), (.fn 76 [] []), .junk, .junk, .junk, (.int (v3786)), (.ptr h 0), (.ptr h 0), (.ptr h 0), (.ptr h 0), (lst own3587 encI l3589), (lst .any encS x.Chest.People), (.int ((x.Chest.People.length : Int))), (lst .exact encI [(x.Chest.People.length : Int)]), (lst own3765 encI l3767), (.ptr h 0), (.ptr h 0), (xs3769 18), (xs3769 19), (xs3769 20), (xs3769 21), (xs3769 22), (xs3769 23), (xs3769 24), (xs3769 25), (xs3769 26), (xs3769 27), (xs3769 28), (xs3769 29), (xs3769 30)] ∧ SP st [⟨a3580, .cells [(.int (x.Chest.Words)), (.int (x.Chest.Facts)), (lst .any encS x.Chest.People), (.int (x.Chest.Last)), (lst .any encCopy x.Chest.Copies), (lst .any encRule x.Chest.Rules)], true⟩, ⟨a1923, .cells [(.int (x.Chest.Words)), (.int (x.Chest.Facts)), (lst .any encS x.Chest.People), (.int (x.Chest.Last)), (lst .any encCopy x.Chest.Copies), (lst .any encRule x.Chest.Rules), (.int (x.Person)), (lst .any encI x.Words), (lst .any encI x.Copies), (.int (x.Number)), (.int (x.Fact))], true⟩, ⟨h, .cells [(lst own3765 encI l3767), (lst own3800 encS l3801)], false⟩] [(own3800, 1), (own3765, 1)] st' ∧ (0 ≤ v3786) ∧ (0 ≤ v3786) ∧ (-1 ≤ v3786) ∧ (-9223372036854775808 ≤ v3786 ∧ v3786 ≤ 9223372036854775807) ∧ (v3786 ≤ (x.Chest.People.length : Int)) ∧ (v3786 ≤ 1048576) ∧ ((l3801.length : Int) ≤ v3786) ∧ (own3800 = .exact → l3801 = []) ∧ zz = (-v3786 + 9223372036854775808).toNat) (fun z => z) _ ⟨(LX [(18, .junk), (19, .junk), (20, .junk), (21, .junk), (22, .junk), (23, .junk), (24, .junk), (25, .junk), (26, .junk), (27, .junk), (28, .junk), (29, .junk), (30, .junk)]), 0, .exact, ([] : List ByteArray), by kernel_rfl, H, by first | omega | (simp; omega) | simp, by first | omega | (simp; omega) | simp, by first | omega | (simp; omega) | simp, by first | omega | (simp; omega) | simp, by first | omega | (simp; omega) | simp, by first | omega | (simp; omega) | simp, by first | omega | (simp; omega) | simp, (fun _ => rfl), rfl⟩ ?_
 clear H
 intro zz3769 lf st3769 hI3769 Q3769 hN3769 hE3769 hX3769
 obtain ⟨xs3769, v3786, own3800, l3801, rfl, H, hi3769_0, hi3769_1, hi3769_2, hi3769_3, hi3769_5, hi3769_6, hi3769_7, hx_l3801, hz3769⟩ := hI3769
 refine wl_tail ?_
 refine wl_assoc ?_
 refine wl_assoc ?_
 refine wl_ops ?_
 refine wr_run 4 [(18, (.int (v3786))), (19, (lst .any encS x.Chest.People)), (20, (.int ((x.Chest.People.length : Int)))), (21, (.bool (decide ((v3786 : Int) < ((x.Chest.People.length : Int) : Int)))))] (by kernel_rfl) ?_
 refine wr_done ?_
 refine wl_cond (decide ((v3786 : Int) < ((x.Chest.People.length : Int) : Int))) (by kernel_rfl) (fun c3816 => ?_) (fun c3816 => ?_)
 ·skip
  have c3816' : (v3786 : Int) < (x.Chest.People.length : Int) := of_decide_eq_true c3816
  refine wl_skip_seq ?_
  refine wl_assoc ?_
  refine wl_block fun Q3817 hN3817 hE3817 hX3817 => ?_
  refine wl_tail ?_
  refine wl_ops ?_
  refine wr_run 4 [(24, (.fn 76 [] [])), (25, (.ptr h 0)), (26, (lst .any encS x.Chest.People)), (27, (.int (v3786)))] (by kernel_rfl) ?_
  refine wr_iaddre encS_len .any x.Chest.People (by kernel_rfl) (v3786) (by kernel_rfl) (by omega) (by kernel_rfl) fun y3818 hy3818 => ?_
  refine wr_loade encS_len x.Chest.People ((v3786 : Int).toNat) 0 y3818 hy3818 (by kernel_rfl) (.str y3818) (by kernel_rfl) (by decide) (by decide) (by kernel_rfl) ?_
  refine wr_callv (.fn 76 [] []) (by kernel_rfl) [(.ptr h 0), (.str y3818)] (by kernel_rfl) (by kernel_rfl) ?_
  refine wf_L c76 rfl ?_
  refine wl_tail ?_
  refine wl_ops ?_
  refine wr_run 4 [(4, (.ptr h 0)), (5, (.ptr h 0)), (6, (.ptr h 0)), (7, (.ptr h 1))] (by kernel_rfl) ?_
  refine wr_load H 2 h 1 _ false rfl (by kernel_rfl) (lst own3800 encS l3801) (by kernel_rfl) (by kernel_rfl) ?_
  refine wr_run 2 [(9, (.str y3818)), (10, (lst .exact encS [y3818]))] (by kernel_rfl) ?_
  refine wr_appendX encS_len encS_one H rfl 0 own3800 rfl l3801 [y3818] (by kernel_rfl) .exact (by kernel_rfl) hx_l3801 (by first | omega | (simp; done) | (simp; omega)) rfl (by kernel_rfl) fun own3819 l3821 st3820 hl3821 el3821 hx_l3821 H => ?_
  simp only [List.length_cons, List.length_nil] at hl3821
  refine wr_run 2 [(12, (.ptr h 0)), (13, (.ptr h 1))] (by kernel_rfl) ?_
  refine wr_store H 2 h 1 _ false rfl (by kernel_rfl) (lst own3819 encS l3821) (by kernel_rfl) [(lst own3765 encI l3767), (lst own3819 encS l3821)] (by kernel_rfl) (by kernel_rfl) (by kernel_rfl) (Nat.le_of_ble_eq_true rfl) (by kernel_rfl) (by kernel_rfl) fun st3822 H => ?_
  refine wr_done ?_
  refine wl_skip ?_
  refine post_i (Or.inl rfl) (.tup []) (by kernel_rfl) ?_
  refine wr_done ?_
  refine wl_skip ?_
  refine hN3817 _ _ ?_
  refine wl_ops ?_
  refine wr_run 1 [(22, (.int (v3786)))] (by kernel_rfl) ?_
  refine wr_bin (.int (v3786)) (.int (1)) (.int (v3786 + 1)) (by kernel_rfl) (by kernel_rfl) (add64e _ (by unfold I64; omega)) (by kernel_rfl) ?_
  refine wr_run 1 [(6, (.int (v3786 + 1)))] (by kernel_rfl) ?_
  refine wr_done ?_
  refine wl_skip ?_
  refine hN3769 _ _ _ ⟨(LX [(18, (.int (v3786))), (19, (lst .any encS x.Chest.People)), (20, (.int ((x.Chest.People.length : Int)))), (21, (.bool (decide ((v3786 : Int) < ((x.Chest.People.length : Int) : Int))))), (22, (.int (v3786))), (23, (.int (v3786 + 1))), (24, (.fn 76 [] [])), (25, (.ptr h 0)), (26, (lst .any encS x.Chest.People)), (27, (.int (v3786))), (28, (.lptr (x.Chest.People.flatMap encS) ((v3786 : Int).toNat * 1))), (29, (.str y3818)), (30, (.tup []))]), v3786 + 1, own3819, l3821, by kernel_rfl, H, by first | omega | (simp; omega) | simp, by first | omega | (simp; omega) | simp, by first | omega | (simp; omega) | simp, by first | omega | (simp; omega) | simp, by first | omega | (simp; omega) | simp, by first | omega | (simp; omega) | simp, by first | omega | (simp; omega) | simp, hx_l3821, rfl⟩ (by first | omega | (simp only; omega))
 ·skip
  have c3816' : ¬ ((v3786 : Int) < (x.Chest.People.length : Int)) := of_decide_eq_false c3816
  refine wl_exit ?_
  refine hE3769 _ _ ?_
  refine wl_skip ?_
  refine post_i (Or.inl rfl) (.tup []) (by kernel_rfl) ?_
  refine wr_done ?_
  refine wl_skip ?_
  refine post_i (Or.inl rfl) (.tup []) (by kernel_rfl) ?_
  refine wr_done ?_
  refine wl_assoc ?_
  refine wl_ops ?_
  refine wr_run 2 [(16, (.ptr h 0)), (17, (.ptr a3580 3))] (by kernel_rfl) ?_
  refine wr_load H 0 a3580 3 _ true rfl (by kernel_rfl) (.int (x.Chest.Last)) (by kernel_rfl) (by kernel_rfl) ?_
  refine wr_call [(.ptr h 0), (.int (x.Chest.Last))] (by kernel_rfl) (by kernel_rfl) ?_
  refine wf_L c8 rfl ?_
  refine wl_tail ?_
  refine wl_ops ?_
  refine wr_run 4 [(4, (.ptr h 0)), (5, (.ptr h 0)), (6, (.ptr h 0)), (7, (.ptr h 0))] (by kernel_rfl) ?_
  refine wr_load H 2 h 0 _ false rfl (by kernel_rfl) (lst own3765 encI l3767) (by kernel_rfl) (by kernel_rfl) ?_
  refine wr_run 2 [(9, (.int (x.Chest.Last))), (10, (lst .exact encI [x.Chest.Last]))] (by kernel_rfl) ?_
  refine wr_appendX encI_len encI_one H rfl 1 own3765 rfl l3767 [x.Chest.Last] (by kernel_rfl) .exact (by kernel_rfl) hx_l3767 (by first | omega | (simp; done) | (simp; omega)) rfl (by kernel_rfl) fun own3823 l3825 st3824 hl3825 el3825 hx_l3825 H => ?_
  simp only [List.length_cons, List.length_nil] at hl3825
  refine wr_run 2 [(12, (.ptr h 0)), (13, (.ptr h 0))] (by kernel_rfl) ?_
  refine wr_store H 2 h 0 _ false rfl (by kernel_rfl) (lst own3823 encI l3825) (by kernel_rfl) [(lst own3823 encI l3825), (lst own3800 encS l3801)] (by kernel_rfl) (by kernel_rfl) (by kernel_rfl) (Nat.le_of_ble_eq_true rfl) (by kernel_rfl) (by kernel_rfl) fun st3826 H => ?_
  refine wr_done ?_
  refine wl_skip ?_
  refine post_i (Or.inl rfl) (.tup []) (by kernel_rfl) ?_
  refine wr_done ?_
  refine wl_assoc ?_
  refine wl_ops ?_
  refine wr_run 2 [(20, (.ptr h 0)), (21, (.ptr a3580 4))] (by kernel_rfl) ?_
  refine wr_load H 0 a3580 4 _ true rfl (by kernel_rfl) (lst .any encCopy x.Chest.Copies) (by kernel_rfl) (by kernel_rfl) ?_
  refine wr_call [(.ptr h 0), (lst .any encCopy x.Chest.Copies)] (by kernel_rfl) (by kernel_rfl) ?_
  refine wf_L c65 rfl ?_
  refine wl_tail ?_
  refine wl_ops ?_
  refine wr_run 2 [(4, (.ptr h 0)), (5, (lst .any encCopy x.Chest.Copies))] (by kernel_rfl) ?_
  refine wr_call [(.ptr h 0), (lst .any encCopy x.Chest.Copies), (.fn 78 [] [])] (by kernel_rfl) (by kernel_rfl) ?_
  refine wf_L c77 rfl ?_
  refine wl_tail ?_
  refine wl_assoc ?_
  refine wl_ops ?_
  refine wr_run 4 [(7, (.ptr h 0)), (8, (.ptr h 0)), (9, (.ptr h 0)), (10, (.ptr h 0))] (by kernel_rfl) ?_
  refine wr_load H 2 h 0 _ false rfl (by kernel_rfl) (lst own3823 encI l3825) (by kernel_rfl) (by kernel_rfl) ?_
  refine wr_run 3 [(12, (lst .any encCopy x.Chest.Copies)), (13, (.int ((x.Chest.Copies.length : Int)))), (14, (lst .exact encI [(x.Chest.Copies.length : Int)]))] (by kernel_rfl) ?_
  refine wr_appendX encI_len encI_one H rfl 1 own3823 rfl l3825 [(x.Chest.Copies.length : Int)] (by kernel_rfl) .exact (by kernel_rfl) hx_l3825 (by first | omega | (simp; done) | (simp; omega)) rfl (by kernel_rfl) fun own4475 l4477 st4476 hl4477 el4477 hx_l4477 H => ?_
  simp only [List.length_cons, List.length_nil] at hl4477
  refine wr_run 2 [(16, (.ptr h 0)), (17, (.ptr h 0))] (by kernel_rfl) ?_
  refine wr_store H 2 h 0 _ false rfl (by kernel_rfl) (lst own4475 encI l4477) (by kernel_rfl) [(lst own4475 encI l4477), (lst own3800 encS l3801)] (by kernel_rfl) (by kernel_rfl) (by kernel_rfl) (Nat.le_of_ble_eq_true rfl) (by kernel_rfl) (by kernel_rfl) fun st4478 H => ?_
  refine wr_done ?_
  refine wl_assoc ?_
  refine wl_ops ?_
  refine wr_run 1 [(6, (.int (0)))] (by kernel_rfl) ?_
  refine wr_done ?_
  refine wl_loop (σ := Nat) (fun (zz : Nat) (lf : List AV) (st' : St) => ∃ (xs4479 : Nat → AV) (v4519 : Int) (own4533 : EF.Own) (l4534 : List Int), lf = [(.ptr h 0), (lst .any encCopy x.Chest.Copies), (.fn 78 [] []), .junk, .junk, .junk, (.int (v4519)), (.ptr h 0), (.ptr h 0), (.ptr h 0), (.ptr h 0), (lst own3823 encI l3825), (lst .any encCopy x.Chest.Copies), (.int ((x.Chest.Copies.length : Int))), (lst .exact encI [(x.Chest.Copies.length : Int)]), (lst own4475 encI l4477), (.ptr h 0), (.ptr h 0), (xs4479 18), (xs4479 19), (xs4479 20), (xs4479 21), (xs4479 22), (xs4479 23), (xs4479 24), (xs4479 25), (xs4479 26), (xs4479 27), (xs4479 28), (xs4479 29), (xs4479 30)] ∧ SP st [⟨a3580, .cells [(.int (x.Chest.Words)), (.int (x.Chest.Facts)), (lst .any encS x.Chest.People), (.int (x.Chest.Last)), (lst .any encCopy x.Chest.Copies), (lst .any encRule x.Chest.Rules)], true⟩, ⟨a1923, .cells [(.int (x.Chest.Words)), (.int (x.Chest.Facts)), (lst .any encS x.Chest.People), (.int (x.Chest.Last)), (lst .any encCopy x.Chest.Copies), (lst .any encRule x.Chest.Rules), (.int (x.Person)), (lst .any encI x.Words), (lst .any encI x.Copies), (.int (x.Number)), (.int (x.Fact))], true⟩, ⟨h, .cells [(lst own4533 encI l4534), (lst own3800 encS l3801)], false⟩] [(own3800, 1), (own4533, 1)] st' ∧ (0 ≤ v4519) ∧ (0 ≤ v4519) ∧ (-1 ≤ v4519) ∧ (-9223372036854775808 ≤ v4519 ∧ v4519 ≤ 9223372036854775807) ∧ (v4519 ≤ (x.Chest.Copies.length : Int)) ∧ (v4519 ≤ 1048576) ∧ ((l4534.length : Int) ≤ (l4477.length : Int) + 4 * v4519) ∧ (own4533 = .exact → l4534 = []) ∧ zz = (-v4519 + 9223372036854775808).toNat) (fun z => z) _ ⟨(LX [(18, .junk), (19, .junk), (20, .junk), (21, .junk), (22, .junk), (23, .junk), (24, .junk), (25, .junk), (26, .junk), (27, .junk), (28, .junk), (29, .junk), (30, .junk)]), 0, own4475, l4477, by kernel_rfl, H, by first | omega | (simp; omega) | simp, by first | omega | (simp; omega) | simp, by first | omega | (simp; omega) | simp, by first | omega | (simp; omega) | simp, by first | omega | (simp; omega) | simp, by first | omega | (simp; omega) | simp, by first | omega | (simp; omega) | simp, hx_l4477, rfl⟩ ?_
  clear H
  intro zz4479 lf st4479 hI4479 Q4479 hN4479 hE4479 hX4479
  obtain ⟨xs4479, v4519, own4533, l4534, rfl, H, hi4479_0, hi4479_1, hi4479_2, hi4479_3, hi4479_5, hi4479_6, hi4479_8, hx_l4534, hz4479⟩ := hI4479
  refine wl_tail ?_
  refine wl_assoc ?_
  refine wl_assoc ?_
  refine wl_ops ?_
  refine wr_run 4 [(18, (.int (v4519))), (19, (lst .any encCopy x.Chest.Copies)), (20, (.int ((x.Chest.Copies.length : Int)))), (21, (.bool (decide ((v4519 : Int) < ((x.Chest.Copies.length : Int) : Int)))))] (by kernel_rfl) ?_
  refine wr_done ?_
  refine wl_cond (decide ((v4519 : Int) < ((x.Chest.Copies.length : Int) : Int))) (by kernel_rfl) (fun c4652 => ?_) (fun c4652 => ?_)
  ·skip
   have c4652' : (v4519 : Int) < (x.Chest.Copies.length : Int) := of_decide_eq_true c4652
   refine wl_skip_seq ?_
   refine wl_assoc ?_
   refine wl_block fun Q4653 hN4653 hE4653 hX4653 => ?_
   refine wl_tail ?_
   refine wl_ops ?_
   refine wr_run 4 [(24, (.fn 78 [] [])), (25, (.ptr h 0)), (26, (lst .any encCopy x.Chest.Copies)), (27, (.int (v4519)))] (by kernel_rfl) ?_
   refine wr_iaddre encCopy_len .any x.Chest.Copies (by kernel_rfl) (v4519) (by kernel_rfl) (by omega) (by kernel_rfl) fun y4654 hy4654 => ?_
   refine wr_loade encCopy_len x.Chest.Copies ((v4519 : Int).toNat) 0 y4654 hy4654 (by kernel_rfl) (.agg [(.int (y4654.Number)), (.int (y4654.Words)), (.int (y4654.Facts)), (.int (y4654.May))]) (by kernel_rfl) (by decide) (by decide) (by kernel_rfl) ?_
   refine wr_callv (.fn 78 [] []) (by kernel_rfl) [(.ptr h 0), (.agg [(.int (y4654.Number)), (.int (y4654.Words)), (.int (y4654.Facts)), (.int (y4654.May))])] (by kernel_rfl) (by kernel_rfl) ?_
   refine wf_L c78 rfl ?_
   refine wl_tail ?_
   refine wl_assoc ?_
   refine wl_ops ?_
   refine wr_box (.agg [(.int (y4654.Number)), (.int (y4654.Words)), (.int (y4654.Facts)), (.int (y4654.May))]) (by kernel_rfl) [(.int (y4654.Number)), (.int (y4654.Words)), (.int (y4654.Facts)), (.int (y4654.May))] (by kernel_rfl) (by kernel_rfl) H (by kernel_rfl) fun a4673 st4674 H => ?_
   refine wr_done ?_
   refine wl_assoc ?_
   refine wl_ops ?_
   refine wr_run 2 [(4, (.ptr h 0)), (5, (.ptr a4673 0))] (by kernel_rfl) ?_
   refine wr_load H 0 a4673 0 _ true rfl (by kernel_rfl) (.int (y4654.Number)) (by kernel_rfl) (by kernel_rfl) ?_
   refine wr_call [(.ptr h 0), (.int (y4654.Number))] (by kernel_rfl) (by kernel_rfl) ?_
   refine wf_L c8 rfl ?_
   refine wl_tail ?_
   refine wl_ops ?_
   refine wr_run 4 [(4, (.ptr h 0)), (5, (.ptr h 0)), (6, (.ptr h 0)), (7, (.ptr h 0))] (by kernel_rfl) ?_
   refine wr_load H 3 h 0 _ false rfl (by kernel_rfl) (lst own4533 encI l4534) (by kernel_rfl) (by kernel_rfl) ?_
   refine wr_run 2 [(9, (.int (y4654.Number))), (10, (lst .exact encI [y4654.Number]))] (by kernel_rfl) ?_
   refine wr_appendX encI_len encI_one H rfl 1 own4533 rfl l4534 [y4654.Number] (by kernel_rfl) .exact (by kernel_rfl) hx_l4534 (by first | omega | (simp; done) | (simp; omega)) rfl (by kernel_rfl) fun own4675 l4677 st4676 hl4677 el4677 hx_l4677 H => ?_
   simp only [List.length_cons, List.length_nil] at hl4677
   refine wr_run 2 [(12, (.ptr h 0)), (13, (.ptr h 0))] (by kernel_rfl) ?_
   refine wr_store H 3 h 0 _ false rfl (by kernel_rfl) (lst own4675 encI l4677) (by kernel_rfl) [(lst own4675 encI l4677), (lst own3800 encS l3801)] (by kernel_rfl) (by kernel_rfl) (by kernel_rfl) (Nat.le_of_ble_eq_true rfl) (by kernel_rfl) (by kernel_rfl) fun st4678 H => ?_
   refine wr_done ?_
   refine wl_skip ?_
   refine post_i (Or.inl rfl) (.tup []) (by kernel_rfl) ?_
   refine wr_done ?_
   refine wl_assoc ?_
   refine wl_ops ?_
   refine wr_run 2 [(8, (.ptr h 0)), (9, (.ptr a4673 1))] (by kernel_rfl) ?_
   refine wr_load H 0 a4673 1 _ true rfl (by kernel_rfl) (.int (y4654.Words)) (by kernel_rfl) (by kernel_rfl) ?_
   refine wr_call [(.ptr h 0), (.int (y4654.Words))] (by kernel_rfl) (by kernel_rfl) ?_
   refine wf_L c8 rfl ?_
   refine wl_tail ?_
   refine wl_ops ?_
   refine wr_run 4 [(4, (.ptr h 0)), (5, (.ptr h 0)), (6, (.ptr h 0)), (7, (.ptr h 0))] (by kernel_rfl) ?_
   refine wr_load H 3 h 0 _ false rfl (by kernel_rfl) (lst own4675 encI l4677) (by kernel_rfl) (by kernel_rfl) ?_
   refine wr_run 2 [(9, (.int (y4654.Words))), (10, (lst .exact encI [y4654.Words]))] (by kernel_rfl) ?_
   refine wr_appendX encI_len encI_one H rfl 1 own4675 rfl l4677 [y4654.Words] (by kernel_rfl) .exact (by kernel_rfl) hx_l4677 (by first | omega | (simp; done) | (simp; omega)) rfl (by kernel_rfl) fun own4679 l4681 st4680 hl4681 el4681 hx_l4681 H => ?_
   simp only [List.length_cons, List.length_nil] at hl4681
   refine wr_run 2 [(12, (.ptr h 0)), (13, (.ptr h 0))] (by kernel_rfl) ?_
   refine wr_store H 3 h 0 _ false rfl (by kernel_rfl) (lst own4679 encI l4681) (by kernel_rfl) [(lst own4679 encI l4681), (lst own3800 encS l3801)] (by kernel_rfl) (by kernel_rfl) (by kernel_rfl) (Nat.le_of_ble_eq_true rfl) (by kernel_rfl) (by kernel_rfl) fun st4682 H => ?_
   refine wr_done ?_
   refine wl_skip ?_
   refine post_i (Or.inl rfl) (.tup []) (by kernel_rfl) ?_
   refine wr_done ?_
   refine wl_assoc ?_
   refine wl_ops ?_
   refine wr_run 2 [(12, (.ptr h 0)), (13, (.ptr a4673 2))] (by kernel_rfl) ?_
   refine wr_load H 0 a4673 2 _ true rfl (by kernel_rfl) (.int (y4654.Facts)) (by kernel_rfl) (by kernel_rfl) ?_
   refine wr_call [(.ptr h 0), (.int (y4654.Facts))] (by kernel_rfl) (by kernel_rfl) ?_
   refine wf_L c8 rfl ?_
   refine wl_tail ?_
   refine wl_ops ?_
   refine wr_run 4 [(4, (.ptr h 0)), (5, (.ptr h 0)), (6, (.ptr h 0)), (7, (.ptr h 0))] (by kernel_rfl) ?_
   refine wr_load H 3 h 0 _ false rfl (by kernel_rfl) (lst own4679 encI l4681) (by kernel_rfl) (by kernel_rfl) ?_
   refine wr_run 2 [(9, (.int (y4654.Facts))), (10, (lst .exact encI [y4654.Facts]))] (by kernel_rfl) ?_
   refine wr_frame [(.ptr h 0), (.int (y4654.Facts)), .junk, .junk, (.ptr h 0), (.ptr h 0), (.ptr h 0), (.ptr h 0), (lst own4679 encI l4681), (.int (y4654.Facts)), (lst .exact encI [y4654.Facts]), .junk, .junk, .junk] (by kernel_rfl) ?_
   refine wr_appendX encI_len encI_one H rfl 1 own4679 rfl l4681 [y4654.Facts] (by kernel_rfl) .exact (by kernel_rfl) hx_l4681 (by first | omega | (simp; done) | (simp; omega)) rfl (by kernel_rfl) fun own4683 l4685 st4684 hl4685 el4685 hx_l4685 H => ?_
   simp only [List.length_cons, List.length_nil] at hl4685
   refine wr_run 2 [(12, (.ptr h 0)), (13, (.ptr h 0))] (by kernel_rfl) ?_
   refine wr_store H 3 h 0 _ false rfl (by kernel_rfl) (lst own4683 encI l4685) (by kernel_rfl) [(lst own4683 encI l4685), (lst own3800 encS l3801)] (by kernel_rfl) (by kernel_rfl) (by kernel_rfl) (Nat.le_of_ble_eq_true rfl) (by kernel_rfl) (by kernel_rfl) fun st4686 H => ?_
   refine wr_done ?_
   refine wl_skip ?_
   refine post_i (Or.inl rfl) (.tup []) (by kernel_rfl) ?_
   refine wr_done ?_
   refine wl_ops ?_
   refine wr_run 2 [(16, (.ptr h 0)), (17, (.ptr a4673 3))] (by kernel_rfl) ?_
   refine wr_load H 0 a4673 3 _ true rfl (by kernel_rfl) (.int (y4654.May)) (by kernel_rfl) (by kernel_rfl) ?_
   refine wr_call [(.ptr h 0), (.int (y4654.May))] (by kernel_rfl) (by kernel_rfl) ?_
   refine wf_L c8 rfl ?_
   refine wl_tail ?_
   refine wl_ops ?_
   refine wr_run 4 [(4, (.ptr h 0)), (5, (.ptr h 0)), (6, (.ptr h 0)), (7, (.ptr h 0))] (by kernel_rfl) ?_
   refine wr_load H 3 h 0 _ false rfl (by kernel_rfl) (lst own4683 encI l4685) (by kernel_rfl) (by kernel_rfl) ?_
   refine wr_run 2 [(9, (.int (y4654.May))), (10, (lst .exact encI [y4654.May]))] (by kernel_rfl) ?_
   refine wr_appendX encI_len encI_one H rfl 1 own4683 rfl l4685 [y4654.May] (by kernel_rfl) .exact (by kernel_rfl) hx_l4685 (by first | omega | (simp; done) | (simp; omega)) rfl (by kernel_rfl) fun own4687 l4689 st4688 hl4689 el4689 hx_l4689 H => ?_
   simp only [List.length_cons, List.length_nil] at hl4689
   refine wr_run 2 [(12, (.ptr h 0)), (13, (.ptr h 0))] (by kernel_rfl) ?_
   refine wr_store H 3 h 0 _ false rfl (by kernel_rfl) (lst own4687 encI l4689) (by kernel_rfl) [(lst own4687 encI l4689), (lst own3800 encS l3801)] (by kernel_rfl) (by kernel_rfl) (by kernel_rfl) (Nat.le_of_ble_eq_true rfl) (by kernel_rfl) (by kernel_rfl) fun st4690 H => ?_
   refine wr_done ?_
   refine wl_skip ?_
   refine post_i (Or.inl rfl) (.tup []) (by kernel_rfl) ?_
   refine wr_done ?_
   refine wl_skip ?_
   refine post_i (Or.inl rfl) (.tup []) (by kernel_rfl) ?_
   refine wr_done ?_
   refine wl_skip ?_
   refine hN4653 _ _ ?_
   refine wl_ops ?_
   refine wr_run 1 [(22, (.int (v4519)))] (by kernel_rfl) ?_
   refine wr_bin (.int (v4519)) (.int (1)) (.int (v4519 + 1)) (by kernel_rfl) (by kernel_rfl) (add64e _ (by unfold I64; omega)) (by kernel_rfl) ?_
   refine wr_run 1 [(6, (.int (v4519 + 1)))] (by kernel_rfl) ?_
   refine wr_done ?_
   refine wl_skip ?_
   replace H := H.tail rfl
   refine hN4479 _ _ _ ⟨(LX [(18, (.int (v4519))), (19, (lst .any encCopy x.Chest.Copies)), (20, (.int ((x.Chest.Copies.length : Int)))), (21, (.bool (decide ((v4519 : Int) < ((x.Chest.Copies.length : Int) : Int))))), (22, (.int (v4519))), (23, (.int (v4519 + 1))), (24, (.fn 78 [] [])), (25, (.ptr h 0)), (26, (lst .any encCopy x.Chest.Copies)), (27, (.int (v4519))), (28, (.lptr (x.Chest.Copies.flatMap encCopy) ((v4519 : Int).toNat * 4))), (29, (.agg [(.int (y4654.Number)), (.int (y4654.Words)), (.int (y4654.Facts)), (.int (y4654.May))])), (30, (.tup []))]), v4519 + 1, own4687, l4689, by kernel_rfl, H, by first | omega | (simp; omega) | simp, by first | omega | (simp; omega) | simp, by first | omega | (simp; omega) | simp, by first | omega | (simp; omega) | simp, by first | omega | (simp; omega) | simp, by first | omega | (simp; omega) | simp, by first | omega | (simp; omega) | simp, hx_l4689, rfl⟩ (by first | omega | (simp only; omega))
  ·skip
   have c4652' : ¬ ((v4519 : Int) < (x.Chest.Copies.length : Int)) := of_decide_eq_false c4652
   refine wl_exit ?_
   refine hE4479 _ _ ?_
   refine wl_skip ?_
   refine post_i (Or.inl rfl) (.tup []) (by kernel_rfl) ?_
   refine wr_done ?_
   refine wl_skip ?_
   refine post_i (Or.inl rfl) (.tup []) (by kernel_rfl) ?_
   refine wr_done ?_
   refine wl_ops ?_
   refine wr_run 2 [(24, (.ptr h 0)), (25, (.ptr a3580 5))] (by kernel_rfl) ?_
   refine wr_load H 0 a3580 5 _ true rfl (by kernel_rfl) (lst .any encRule x.Chest.Rules) (by kernel_rfl) (by kernel_rfl) ?_
   refine wr_call [(.ptr h 0), (lst .any encRule x.Chest.Rules)] (by kernel_rfl) (by kernel_rfl) ?_
   refine wf_L c66 rfl ?_
   refine wl_tail ?_
   refine wl_ops ?_
   refine wr_run 2 [(4, (.ptr h 0)), (5, (lst .any encRule x.Chest.Rules))] (by kernel_rfl) ?_
   refine wr_call [(.ptr h 0), (lst .any encRule x.Chest.Rules), (.fn 80 [] [])] (by kernel_rfl) (by kernel_rfl) ?_
   refine wf_L c79 rfl ?_
   refine wl_tail ?_
   refine wl_assoc ?_
   refine wl_ops ?_
   refine wr_run 4 [(7, (.ptr h 0)), (8, (.ptr h 0)), (9, (.ptr h 0)), (10, (.ptr h 0))] (by kernel_rfl) ?_
   refine wr_load H 2 h 0 _ false rfl (by kernel_rfl) (lst own4533 encI l4534) (by kernel_rfl) (by kernel_rfl) ?_
   refine wr_run 3 [(12, (lst .any encRule x.Chest.Rules)), (13, (.int ((x.Chest.Rules.length : Int)))), (14, (lst .exact encI [(x.Chest.Rules.length : Int)]))] (by kernel_rfl) ?_
   refine wr_appendX encI_len encI_one H rfl 1 own4533 rfl l4534 [(x.Chest.Rules.length : Int)] (by kernel_rfl) .exact (by kernel_rfl) hx_l4534 (by first | omega | (simp; done) | (simp; omega)) rfl (by kernel_rfl) fun own5099 l5101 st5100 hl5101 el5101 hx_l5101 H => ?_
   simp only [List.length_cons, List.length_nil] at hl5101
   refine wr_run 2 [(16, (.ptr h 0)), (17, (.ptr h 0))] (by kernel_rfl) ?_
   refine wr_store H 2 h 0 _ false rfl (by kernel_rfl) (lst own5099 encI l5101) (by kernel_rfl) [(lst own5099 encI l5101), (lst own3800 encS l3801)] (by kernel_rfl) (by kernel_rfl) (by kernel_rfl) (Nat.le_of_ble_eq_true rfl) (by kernel_rfl) (by kernel_rfl) fun st5102 H => ?_
   refine wr_done ?_
   refine wl_assoc ?_
   refine wl_ops ?_
   refine wr_run 1 [(6, (.int (0)))] (by kernel_rfl) ?_
   refine wr_done ?_
   refine wl_loop (σ := Nat) (fun (zz : Nat) (lf : List AV) (st' : St) => ∃ (xs5103 : Nat → AV) (v5127 : Int) (own5141 : EF.Own) (l5142 : List Int), lf = [(.ptr h 0), (lst .any encRule x.Chest.Rules), (.fn 80 [] []), .junk, .junk, .junk, (.int (v5127)), (.ptr h 0), (.ptr h 0), (.ptr h 0), (.ptr h 0), (lst own4533 encI l4534), (lst .any encRule x.Chest.Rules), (.int ((x.Chest.Rules.length : Int))), (lst .exact encI [(x.Chest.Rules.length : Int)]), (lst own5099 encI l5101), (.ptr h 0), (.ptr h 0), (xs5103 18), (xs5103 19), (xs5103 20), (xs5103 21), (xs5103 22), (xs5103 23), (xs5103 24), (xs5103 25), (xs5103 26), (xs5103 27), (xs5103 28), (xs5103 29), (xs5103 30)] ∧ SP st [⟨a3580, .cells [(.int (x.Chest.Words)), (.int (x.Chest.Facts)), (lst .any encS x.Chest.People), (.int (x.Chest.Last)), (lst .any encCopy x.Chest.Copies), (lst .any encRule x.Chest.Rules)], true⟩, ⟨a1923, .cells [(.int (x.Chest.Words)), (.int (x.Chest.Facts)), (lst .any encS x.Chest.People), (.int (x.Chest.Last)), (lst .any encCopy x.Chest.Copies), (lst .any encRule x.Chest.Rules), (.int (x.Person)), (lst .any encI x.Words), (lst .any encI x.Copies), (.int (x.Number)), (.int (x.Fact))], true⟩, ⟨h, .cells [(lst own5141 encI l5142), (lst own3800 encS l3801)], false⟩] [(own3800, 1), (own5141, 1)] st' ∧ (0 ≤ v5127) ∧ (0 ≤ v5127) ∧ (-1 ≤ v5127) ∧ (-9223372036854775808 ≤ v5127 ∧ v5127 ≤ 9223372036854775807) ∧ (v5127 ≤ (x.Chest.Rules.length : Int)) ∧ (v5127 ≤ 1048576) ∧ ((l5142.length : Int) ≤ (l5101.length : Int) + 2 * v5127) ∧ (own5141 = .exact → l5142 = []) ∧ zz = (-v5127 + 9223372036854775808).toNat) (fun z => z) _ ⟨(LX [(18, .junk), (19, .junk), (20, .junk), (21, .junk), (22, .junk), (23, .junk), (24, .junk), (25, .junk), (26, .junk), (27, .junk), (28, .junk), (29, .junk), (30, .junk)]), 0, own5099, l5101, by kernel_rfl, H, by first | omega | (simp; omega) | simp, by first | omega | (simp; omega) | simp, by first | omega | (simp; omega) | simp, by first | omega | (simp; omega) | simp, by first | omega | (simp; omega) | simp, by first | omega | (simp; omega) | simp, by first | omega | (simp; omega) | simp, hx_l5101, rfl⟩ ?_
   clear H
   intro zz5103 lf st5103 hI5103 Q5103 hN5103 hE5103 hX5103
   obtain ⟨xs5103, v5127, own5141, l5142, rfl, H, hi5103_0, hi5103_1, hi5103_2, hi5103_3, hi5103_5, hi5103_6, hi5103_8, hx_l5142, hz5103⟩ := hI5103
   refine wl_tail ?_
   refine wl_assoc ?_
   refine wl_assoc ?_
   refine wl_ops ?_
   refine wr_run 4 [(18, (.int (v5127))), (19, (lst .any encRule x.Chest.Rules)), (20, (.int ((x.Chest.Rules.length : Int)))), (21, (.bool (decide ((v5127 : Int) < ((x.Chest.Rules.length : Int) : Int)))))] (by kernel_rfl) ?_
   refine wr_done ?_
   refine wl_cond (decide ((v5127 : Int) < ((x.Chest.Rules.length : Int) : Int))) (by kernel_rfl) (fun c5212 => ?_) (fun c5212 => ?_)
   ·skip
    have c5212' : (v5127 : Int) < (x.Chest.Rules.length : Int) := of_decide_eq_true c5212
    refine wl_skip_seq ?_
    refine wl_assoc ?_
    refine wl_block fun Q5213 hN5213 hE5213 hX5213 => ?_
    refine wl_tail ?_
    refine wl_ops ?_
    refine wr_run 4 [(24, (.fn 80 [] [])), (25, (.ptr h 0)), (26, (lst .any encRule x.Chest.Rules)), (27, (.int (v5127)))] (by kernel_rfl) ?_
    refine wr_iaddre encRule_len .any x.Chest.Rules (by kernel_rfl) (v5127) (by kernel_rfl) (by omega) (by kernel_rfl) fun y5214 hy5214 => ?_
    refine wr_loade encRule_len x.Chest.Rules ((v5127 : Int).toNat) 0 y5214 hy5214 (by kernel_rfl) (.agg [(.int (y5214.If)), (.int (y5214.Then))]) (by kernel_rfl) (by decide) (by decide) (by kernel_rfl) ?_
    refine wr_callv (.fn 80 [] []) (by kernel_rfl) [(.ptr h 0), (.agg [(.int (y5214.If)), (.int (y5214.Then))])] (by kernel_rfl) (by kernel_rfl) ?_
    refine wf_L c80 rfl ?_
    refine wl_tail ?_
    refine wl_assoc ?_
    refine wl_ops ?_
    refine wr_box (.agg [(.int (y5214.If)), (.int (y5214.Then))]) (by kernel_rfl) [(.int (y5214.If)), (.int (y5214.Then))] (by kernel_rfl) (by kernel_rfl) H (by kernel_rfl) fun a5225 st5226 H => ?_
    refine wr_done ?_
    refine wl_assoc ?_
    refine wl_ops ?_
    refine wr_run 2 [(4, (.ptr h 0)), (5, (.ptr a5225 0))] (by kernel_rfl) ?_
    refine wr_load H 0 a5225 0 _ true rfl (by kernel_rfl) (.int (y5214.If)) (by kernel_rfl) (by kernel_rfl) ?_
    refine wr_call [(.ptr h 0), (.int (y5214.If))] (by kernel_rfl) (by kernel_rfl) ?_
    refine wf_L c8 rfl ?_
    refine wl_tail ?_
    refine wl_ops ?_
    refine wr_run 4 [(4, (.ptr h 0)), (5, (.ptr h 0)), (6, (.ptr h 0)), (7, (.ptr h 0))] (by kernel_rfl) ?_
    refine wr_load H 3 h 0 _ false rfl (by kernel_rfl) (lst own5141 encI l5142) (by kernel_rfl) (by kernel_rfl) ?_
    refine wr_run 2 [(9, (.int (y5214.If))), (10, (lst .exact encI [y5214.If]))] (by kernel_rfl) ?_
    refine wr_appendX encI_len encI_one H rfl 1 own5141 rfl l5142 [y5214.If] (by kernel_rfl) .exact (by kernel_rfl) hx_l5142 (by first | omega | (simp; done) | (simp; omega)) rfl (by kernel_rfl) fun own5227 l5229 st5228 hl5229 el5229 hx_l5229 H => ?_
    simp only [List.length_cons, List.length_nil] at hl5229
    refine wr_run 2 [(12, (.ptr h 0)), (13, (.ptr h 0))] (by kernel_rfl) ?_
    refine wr_store H 3 h 0 _ false rfl (by kernel_rfl) (lst own5227 encI l5229) (by kernel_rfl) [(lst own5227 encI l5229), (lst own3800 encS l3801)] (by kernel_rfl) (by kernel_rfl) (by kernel_rfl) (Nat.le_of_ble_eq_true rfl) (by kernel_rfl) (by kernel_rfl) fun st5230 H => ?_
    refine wr_done ?_
    refine wl_skip ?_
    refine post_i (Or.inl rfl) (.tup []) (by kernel_rfl) ?_
    refine wr_done ?_
    refine wl_ops ?_
    refine wr_run 2 [(8, (.ptr h 0)), (9, (.ptr a5225 1))] (by kernel_rfl) ?_
    refine wr_load H 0 a5225 1 _ true rfl (by kernel_rfl) (.int (y5214.Then)) (by kernel_rfl) (by kernel_rfl) ?_
    refine wr_call [(.ptr h 0), (.int (y5214.Then))] (by kernel_rfl) (by kernel_rfl) ?_
    refine wf_L c8 rfl ?_
    refine wl_tail ?_
    refine wl_ops ?_
    refine wr_run 4 [(4, (.ptr h 0)), (5, (.ptr h 0)), (6, (.ptr h 0)), (7, (.ptr h 0))] (by kernel_rfl) ?_
    refine wr_load H 3 h 0 _ false rfl (by kernel_rfl) (lst own5227 encI l5229) (by kernel_rfl) (by kernel_rfl) ?_
    refine wr_run 2 [(9, (.int (y5214.Then))), (10, (lst .exact encI [y5214.Then]))] (by kernel_rfl) ?_
    refine wr_appendX encI_len encI_one H rfl 1 own5227 rfl l5229 [y5214.Then] (by kernel_rfl) .exact (by kernel_rfl) hx_l5229 (by first | omega | (simp; done) | (simp; omega)) rfl (by kernel_rfl) fun own5231 l5233 st5232 hl5233 el5233 hx_l5233 H => ?_
    simp only [List.length_cons, List.length_nil] at hl5233
    refine wr_run 2 [(12, (.ptr h 0)), (13, (.ptr h 0))] (by kernel_rfl) ?_
    refine wr_store H 3 h 0 _ false rfl (by kernel_rfl) (lst own5231 encI l5233) (by kernel_rfl) [(lst own5231 encI l5233), (lst own3800 encS l3801)] (by kernel_rfl) (by kernel_rfl) (by kernel_rfl) (Nat.le_of_ble_eq_true rfl) (by kernel_rfl) (by kernel_rfl) fun st5234 H => ?_
    refine wr_done ?_
    refine wl_skip ?_
    refine post_i (Or.inl rfl) (.tup []) (by kernel_rfl) ?_
    refine wr_done ?_
    refine wl_skip ?_
    refine post_i (Or.inl rfl) (.tup []) (by kernel_rfl) ?_
    refine wr_done ?_
    refine wl_skip ?_
    refine hN5213 _ _ ?_
    refine wl_ops ?_
    refine wr_run 1 [(22, (.int (v5127)))] (by kernel_rfl) ?_
    refine wr_bin (.int (v5127)) (.int (1)) (.int (v5127 + 1)) (by kernel_rfl) (by kernel_rfl) (add64e _ (by unfold I64; omega)) (by kernel_rfl) ?_
    refine wr_run 1 [(6, (.int (v5127 + 1)))] (by kernel_rfl) ?_
    refine wr_done ?_
    refine wl_skip ?_
    replace H := H.tail rfl
    refine hN5103 _ _ _ ⟨(LX [(18, (.int (v5127))), (19, (lst .any encRule x.Chest.Rules)), (20, (.int ((x.Chest.Rules.length : Int)))), (21, (.bool (decide ((v5127 : Int) < ((x.Chest.Rules.length : Int) : Int))))), (22, (.int (v5127))), (23, (.int (v5127 + 1))), (24, (.fn 80 [] [])), (25, (.ptr h 0)), (26, (lst .any encRule x.Chest.Rules)), (27, (.int (v5127))), (28, (.lptr (x.Chest.Rules.flatMap encRule) ((v5127 : Int).toNat * 2))), (29, (.agg [(.int (y5214.If)), (.int (y5214.Then))])), (30, (.tup []))]), v5127 + 1, own5231, l5233, by kernel_rfl, H, by first | omega | (simp; omega) | simp, by first | omega | (simp; omega) | simp, by first | omega | (simp; omega) | simp, by first | omega | (simp; omega) | simp, by first | omega | (simp; omega) | simp, by first | omega | (simp; omega) | simp, by first | omega | (simp; omega) | simp, hx_l5233, rfl⟩ (by first | omega | (simp only; omega))
   ·skip
    have c5212' : ¬ ((v5127 : Int) < (x.Chest.Rules.length : Int)) := of_decide_eq_false c5212
    refine wl_exit ?_
    refine hE5103 _ _ ?_
    refine wl_skip ?_
    refine post_i (Or.inl rfl) (.tup []) (by kernel_rfl) ?_
    refine wr_done ?_
    refine wl_skip ?_
    refine post_i (Or.inl rfl) (.tup []) (by kernel_rfl) ?_
    refine wr_done ?_
    refine wl_skip ?_
    refine post_i (Or.inl rfl) (.tup []) (by kernel_rfl) ?_
    refine wr_done ?_
    refine wl_assoc ?_
    refine wl_ops ?_
    refine wr_run 2 [(8, (.ptr h 0)), (9, (.ptr a1923 6))] (by kernel_rfl) ?_
    refine wr_load H 1 a1923 6 _ true rfl (by kernel_rfl) (.int (x.Person)) (by kernel_rfl) (by kernel_rfl) ?_
    refine wr_call [(.ptr h 0), (.int (x.Person))] (by kernel_rfl) (by kernel_rfl) ?_
    refine wf_L c8 rfl ?_
    refine wl_tail ?_
    refine wl_ops ?_
    refine wr_run 4 [(4, (.ptr h 0)), (5, (.ptr h 0)), (6, (.ptr h 0)), (7, (.ptr h 0))] (by kernel_rfl) ?_
    refine wr_load H 2 h 0 _ false rfl (by kernel_rfl) (lst own5141 encI l5142) (by kernel_rfl) (by kernel_rfl) ?_
    refine wr_run 2 [(9, (.int (x.Person))), (10, (lst .exact encI [x.Person]))] (by kernel_rfl) ?_
    refine wr_appendX encI_len encI_one H rfl 1 own5141 rfl l5142 [x.Person] (by kernel_rfl) .exact (by kernel_rfl) hx_l5142 (by first | omega | (simp; done) | (simp; omega)) rfl (by kernel_rfl) fun own5235 l5237 st5236 hl5237 el5237 hx_l5237 H => ?_
    simp only [List.length_cons, List.length_nil] at hl5237
    refine wr_run 2 [(12, (.ptr h 0)), (13, (.ptr h 0))] (by kernel_rfl) ?_
    refine wr_store H 2 h 0 _ false rfl (by kernel_rfl) (lst own5235 encI l5237) (by kernel_rfl) [(lst own5235 encI l5237), (lst own3800 encS l3801)] (by kernel_rfl) (by kernel_rfl) (by kernel_rfl) (Nat.le_of_ble_eq_true rfl) (by kernel_rfl) (by kernel_rfl) fun st5238 H => ?_
    refine wr_done ?_
    refine wl_skip ?_
    refine post_i (Or.inl rfl) (.tup []) (by kernel_rfl) ?_
    refine wr_done ?_
    refine wl_assoc ?_
    refine wl_ops ?_
    refine wr_run 2 [(12, (.ptr h 0)), (13, (.ptr a1923 7))] (by kernel_rfl) ?_
    refine wr_load H 1 a1923 7 _ true rfl (by kernel_rfl) (lst .any encI x.Words) (by kernel_rfl) (by kernel_rfl) ?_
    refine wr_call [(.ptr h 0), (lst .any encI x.Words)] (by kernel_rfl) (by kernel_rfl) ?_
    refine wf_L c13 rfl ?_
    refine wl_tail ?_
    refine wl_ops ?_
    refine wr_run 2 [(4, (.ptr h 0)), (5, (lst .any encI x.Words))] (by kernel_rfl) ?_
    refine wr_call [(.ptr h 0), (lst .any encI x.Words), (.fn 8 [] [])] (by kernel_rfl) (by kernel_rfl) ?_
    refine wf_L c47 rfl ?_
    refine wl_tail ?_
    refine wl_assoc ?_
    refine wl_ops ?_
    refine wr_run 4 [(7, (.ptr h 0)), (8, (.ptr h 0)), (9, (.ptr h 0)), (10, (.ptr h 0))] (by kernel_rfl) ?_
    refine wr_load H 2 h 0 _ false rfl (by kernel_rfl) (lst own5235 encI l5237) (by kernel_rfl) (by kernel_rfl) ?_
    refine wr_run 3 [(12, (lst .any encI x.Words)), (13, (.int ((x.Words.length : Int)))), (14, (lst .exact encI [(x.Words.length : Int)]))] (by kernel_rfl) ?_
    refine wr_appendX encI_len encI_one H rfl 1 own5235 rfl l5237 [(x.Words.length : Int)] (by kernel_rfl) .exact (by kernel_rfl) hx_l5237 (by first | omega | (simp; done) | (simp; omega)) rfl (by kernel_rfl) fun own5386 l5388 st5387 hl5388 el5388 hx_l5388 H => ?_
    simp only [List.length_cons, List.length_nil] at hl5388
    refine wr_run 2 [(16, (.ptr h 0)), (17, (.ptr h 0))] (by kernel_rfl) ?_
    refine wr_store H 2 h 0 _ false rfl (by kernel_rfl) (lst own5386 encI l5388) (by kernel_rfl) [(lst own5386 encI l5388), (lst own3800 encS l3801)] (by kernel_rfl) (by kernel_rfl) (by kernel_rfl) (Nat.le_of_ble_eq_true rfl) (by kernel_rfl) (by kernel_rfl) fun st5389 H => ?_
    refine wr_done ?_
    refine wl_assoc ?_
    refine wl_ops ?_
    refine wr_run 1 [(6, (.int (0)))] (by kernel_rfl) ?_
    refine wr_done ?_
    refine wl_loop (σ := Nat) (fun (zz : Nat) (lf : List AV) (st' : St) => ∃ (xs5390 : Nat → AV) (v5398 : Int) (own5412 : EF.Own) (l5413 : List Int), lf = [(.ptr h 0), (lst .any encI x.Words), (.fn 8 [] []), .junk, .junk, .junk, (.int (v5398)), (.ptr h 0), (.ptr h 0), (.ptr h 0), (.ptr h 0), (lst own5235 encI l5237), (lst .any encI x.Words), (.int ((x.Words.length : Int))), (lst .exact encI [(x.Words.length : Int)]), (lst own5386 encI l5388), (.ptr h 0), (.ptr h 0), (xs5390 18), (xs5390 19), (xs5390 20), (xs5390 21), (xs5390 22), (xs5390 23), (xs5390 24), (xs5390 25), (xs5390 26), (xs5390 27), (xs5390 28), (xs5390 29), (xs5390 30)] ∧ SP st [⟨a3580, .cells [(.int (x.Chest.Words)), (.int (x.Chest.Facts)), (lst .any encS x.Chest.People), (.int (x.Chest.Last)), (lst .any encCopy x.Chest.Copies), (lst .any encRule x.Chest.Rules)], true⟩, ⟨a1923, .cells [(.int (x.Chest.Words)), (.int (x.Chest.Facts)), (lst .any encS x.Chest.People), (.int (x.Chest.Last)), (lst .any encCopy x.Chest.Copies), (lst .any encRule x.Chest.Rules), (.int (x.Person)), (lst .any encI x.Words), (lst .any encI x.Copies), (.int (x.Number)), (.int (x.Fact))], true⟩, ⟨h, .cells [(lst own5412 encI l5413), (lst own3800 encS l3801)], false⟩] [(own3800, 1), (own5412, 1)] st' ∧ (0 ≤ v5398) ∧ (0 ≤ v5398) ∧ (-1 ≤ v5398) ∧ (-9223372036854775808 ≤ v5398 ∧ v5398 ≤ 9223372036854775807) ∧ (v5398 ≤ (x.Words.length : Int)) ∧ (v5398 ≤ 1048576) ∧ ((l5413.length : Int) ≤ (l5388.length : Int) + v5398) ∧ (own5412 = .exact → l5413 = []) ∧ zz = (-v5398 + 9223372036854775808).toNat) (fun z => z) _ ⟨(LX [(18, .junk), (19, .junk), (20, .junk), (21, .junk), (22, .junk), (23, .junk), (24, .junk), (25, .junk), (26, .junk), (27, .junk), (28, .junk), (29, .junk), (30, .junk)]), 0, own5386, l5388, by kernel_rfl, H, by first | omega | (simp; omega) | simp, by first | omega | (simp; omega) | simp, by first | omega | (simp; omega) | simp, by first | omega | (simp; omega) | simp, by first | omega | (simp; omega) | simp, by first | omega | (simp; omega) | simp, by first | omega | (simp; omega) | simp, hx_l5388, rfl⟩ ?_
    clear H
    intro zz5390 lf st5390 hI5390 Q5390 hN5390 hE5390 hX5390
    obtain ⟨xs5390, v5398, own5412, l5413, rfl, H, hi5390_0, hi5390_1, hi5390_2, hi5390_3, hi5390_5, hi5390_6, hi5390_7, hx_l5413, hz5390⟩ := hI5390
    refine wl_tail ?_
    refine wl_assoc ?_
    refine wl_assoc ?_
    refine wl_ops ?_
    refine wr_run 4 [(18, (.int (v5398))), (19, (lst .any encI x.Words)), (20, (.int ((x.Words.length : Int)))), (21, (.bool (decide ((v5398 : Int) < ((x.Words.length : Int) : Int)))))] (by kernel_rfl) ?_
    refine wr_done ?_
    refine wl_cond (decide ((v5398 : Int) < ((x.Words.length : Int) : Int))) (by kernel_rfl) (fun c5428 => ?_) (fun c5428 => ?_)
    ·skip
     have c5428' : (v5398 : Int) < (x.Words.length : Int) := of_decide_eq_true c5428
     refine wl_skip_seq ?_
     refine wl_assoc ?_
     refine wl_block fun Q5429 hN5429 hE5429 hX5429 => ?_
     refine wl_tail ?_
     refine wl_ops ?_
     refine wr_run 4 [(24, (.fn 8 [] [])), (25, (.ptr h 0)), (26, (lst .any encI x.Words)), (27, (.int (v5398)))] (by kernel_rfl) ?_
     refine wr_iaddre encI_len .any x.Words (by kernel_rfl) (v5398) (by kernel_rfl) (by omega) (by kernel_rfl) fun y5430 hy5430 => ?_
     refine wr_loade encI_len x.Words ((v5398 : Int).toNat) 0 y5430 hy5430 (by kernel_rfl) (.int (y5430)) (by kernel_rfl) (by decide) (by decide) (by kernel_rfl) ?_
     refine wr_callv (.fn 8 [] []) (by kernel_rfl) [(.ptr h 0), (.int (y5430))] (by kernel_rfl) (by kernel_rfl) ?_
     refine wf_L c8 rfl ?_
     refine wl_tail ?_
     refine wl_ops ?_
     refine wr_run 4 [(4, (.ptr h 0)), (5, (.ptr h 0)), (6, (.ptr h 0)), (7, (.ptr h 0))] (by kernel_rfl) ?_
     refine wr_load H 2 h 0 _ false rfl (by kernel_rfl) (lst own5412 encI l5413) (by kernel_rfl) (by kernel_rfl) ?_
     refine wr_run 2 [(9, (.int (y5430))), (10, (lst .exact encI [y5430]))] (by kernel_rfl) ?_
     refine wr_appendX encI_len encI_one H rfl 1 own5412 rfl l5413 [y5430] (by kernel_rfl) .exact (by kernel_rfl) hx_l5413 (by first | omega | (simp; done) | (simp; omega)) rfl (by kernel_rfl) fun own5431 l5433 st5432 hl5433 el5433 hx_l5433 H => ?_
     simp only [List.length_cons, List.length_nil] at hl5433
     refine wr_run 2 [(12, (.ptr h 0)), (13, (.ptr h 0))] (by kernel_rfl) ?_
     refine wr_store H 2 h 0 _ false rfl (by kernel_rfl) (lst own5431 encI l5433) (by kernel_rfl) [(lst own5431 encI l5433), (lst own3800 encS l3801)] (by kernel_rfl) (by kernel_rfl) (by kernel_rfl) (Nat.le_of_ble_eq_true rfl) (by kernel_rfl) (by kernel_rfl) fun st5434 H => ?_
     refine wr_done ?_
     refine wl_skip ?_
     refine post_i (Or.inl rfl) (.tup []) (by kernel_rfl) ?_
     refine wr_done ?_
     refine wl_skip ?_
     refine hN5429 _ _ ?_
     refine wl_ops ?_
     refine wr_run 1 [(22, (.int (v5398)))] (by kernel_rfl) ?_
     refine wr_bin (.int (v5398)) (.int (1)) (.int (v5398 + 1)) (by kernel_rfl) (by kernel_rfl) (add64e _ (by unfold I64; omega)) (by kernel_rfl) ?_
     refine wr_run 1 [(6, (.int (v5398 + 1)))] (by kernel_rfl) ?_
     refine wr_done ?_
     refine wl_skip ?_
     refine hN5390 _ _ _ ⟨(LX [(18, (.int (v5398))), (19, (lst .any encI x.Words)), (20, (.int ((x.Words.length : Int)))), (21, (.bool (decide ((v5398 : Int) < ((x.Words.length : Int) : Int))))), (22, (.int (v5398))), (23, (.int (v5398 + 1))), (24, (.fn 8 [] [])), (25, (.ptr h 0)), (26, (lst .any encI x.Words)), (27, (.int (v5398))), (28, (.lptr (x.Words.flatMap encI) ((v5398 : Int).toNat * 1))), (29, (.int (y5430))), (30, (.tup []))]), v5398 + 1, own5431, l5433, by kernel_rfl, H, by first | omega | (simp; omega) | simp, by first | omega | (simp; omega) | simp, by first | omega | (simp; omega) | simp, by first | omega | (simp; omega) | simp, by first | omega | (simp; omega) | simp, by first | omega | (simp; omega) | simp, by first | omega | (simp; omega) | simp, hx_l5433, rfl⟩ (by first | omega | (simp only; omega))
    ·skip
     have c5428' : ¬ ((v5398 : Int) < (x.Words.length : Int)) := of_decide_eq_false c5428
     refine wl_exit ?_
     refine hE5390 _ _ ?_
     refine wl_skip ?_
     refine post_i (Or.inl rfl) (.tup []) (by kernel_rfl) ?_
     refine wr_done ?_
     refine wl_skip ?_
     refine post_i (Or.inl rfl) (.tup []) (by kernel_rfl) ?_
     refine wr_done ?_
     refine wl_assoc ?_
     refine wl_ops ?_
     refine wr_run 2 [(16, (.ptr h 0)), (17, (.ptr a1923 8))] (by kernel_rfl) ?_
     refine wr_load H 1 a1923 8 _ true rfl (by kernel_rfl) (lst .any encI x.Copies) (by kernel_rfl) (by kernel_rfl) ?_
     refine wr_call [(.ptr h 0), (lst .any encI x.Copies)] (by kernel_rfl) (by kernel_rfl) ?_
     refine wf_L c13 rfl ?_
     refine wl_tail ?_
     refine wl_ops ?_
     refine wr_run 2 [(4, (.ptr h 0)), (5, (lst .any encI x.Copies))] (by kernel_rfl) ?_
     refine wr_call [(.ptr h 0), (lst .any encI x.Copies), (.fn 8 [] [])] (by kernel_rfl) (by kernel_rfl) ?_
     refine wf_L c47 rfl ?_
     refine wl_tail ?_
     refine wl_assoc ?_
     refine wl_ops ?_
     refine wr_run 4 [(7, (.ptr h 0)), (8, (.ptr h 0)), (9, (.ptr h 0)), (10, (.ptr h 0))] (by kernel_rfl) ?_
     refine wr_load H 2 h 0 _ false rfl (by kernel_rfl) (lst own5412 encI l5413) (by kernel_rfl) (by kernel_rfl) ?_
     refine wr_run 3 [(12, (lst .any encI x.Copies)), (13, (.int ((x.Copies.length : Int)))), (14, (lst .exact encI [(x.Copies.length : Int)]))] (by kernel_rfl) ?_
     refine wr_appendX encI_len encI_one H rfl 1 own5412 rfl l5413 [(x.Copies.length : Int)] (by kernel_rfl) .exact (by kernel_rfl) hx_l5413 (by first | omega | (simp; done) | (simp; omega)) rfl (by kernel_rfl) fun own5582 l5584 st5583 hl5584 el5584 hx_l5584 H => ?_
     simp only [List.length_cons, List.length_nil] at hl5584
     refine wr_run 2 [(16, (.ptr h 0)), (17, (.ptr h 0))] (by kernel_rfl) ?_
     refine wr_store H 2 h 0 _ false rfl (by kernel_rfl) (lst own5582 encI l5584) (by kernel_rfl) [(lst own5582 encI l5584), (lst own3800 encS l3801)] (by kernel_rfl) (by kernel_rfl) (by kernel_rfl) (Nat.le_of_ble_eq_true rfl) (by kernel_rfl) (by kernel_rfl) fun st5585 H => ?_
     refine wr_done ?_
     refine wl_assoc ?_
     refine wl_ops ?_
     refine wr_run 1 [(6, (.int (0)))] (by kernel_rfl) ?_
     refine wr_done ?_
     refine wl_loop (σ := Nat) (fun (zz : Nat) (lf : List AV) (st' : St) => ∃ (xs5586 : Nat → AV) (v5594 : Int) (own5608 : EF.Own) (l5609 : List Int), lf = [(.ptr h 0), (lst .any encI x.Copies), (.fn 8 [] []), .junk, .junk, .junk, (.int (v5594)), (.ptr h 0), (.ptr h 0), (.ptr h 0), (.ptr h 0), (lst own5412 encI l5413), (lst .any encI x.Copies), (.int ((x.Copies.length : Int))), (lst .exact encI [(x.Copies.length : Int)]), (lst own5582 encI l5584), (.ptr h 0), (.ptr h 0), (xs5586 18), (xs5586 19), (xs5586 20), (xs5586 21), (xs5586 22), (xs5586 23), (xs5586 24), (xs5586 25), (xs5586 26), (xs5586 27), (xs5586 28), (xs5586 29), (xs5586 30)] ∧ SP st [⟨a3580, .cells [(.int (x.Chest.Words)), (.int (x.Chest.Facts)), (lst .any encS x.Chest.People), (.int (x.Chest.Last)), (lst .any encCopy x.Chest.Copies), (lst .any encRule x.Chest.Rules)], true⟩, ⟨a1923, .cells [(.int (x.Chest.Words)), (.int (x.Chest.Facts)), (lst .any encS x.Chest.People), (.int (x.Chest.Last)), (lst .any encCopy x.Chest.Copies), (lst .any encRule x.Chest.Rules), (.int (x.Person)), (lst .any encI x.Words), (lst .any encI x.Copies), (.int (x.Number)), (.int (x.Fact))], true⟩, ⟨h, .cells [(lst own5608 encI l5609), (lst own3800 encS l3801)], false⟩] [(own3800, 1), (own5608, 1)] st' ∧ (0 ≤ v5594) ∧ (0 ≤ v5594) ∧ (-1 ≤ v5594) ∧ (-9223372036854775808 ≤ v5594 ∧ v5594 ≤ 9223372036854775807) ∧ (v5594 ≤ (x.Copies.length : Int)) ∧ (v5594 ≤ 1048576) ∧ ((l5609.length : Int) ≤ (l5584.length : Int) + v5594) ∧ (own5608 = .exact → l5609 = []) ∧ zz = (-v5594 + 9223372036854775808).toNat) (fun z => z) _ ⟨(LX [(18, .junk), (19, .junk), (20, .junk), (21, .junk), (22, .junk), (23, .junk), (24, .junk), (25, .junk), (26, .junk), (27, .junk), (28, .junk), (29, .junk), (30, .junk)]), 0, own5582, l5584, by kernel_rfl, H, by first | omega | (simp; omega) | simp, by first | omega | (simp; omega) | simp, by first | omega | (simp; omega) | simp, by first | omega | (simp; omega) | simp, by first | omega | (simp; omega) | simp, by first | omega | (simp; omega) | simp, by first | omega | (simp; omega) | simp, hx_l5584, rfl⟩ ?_
     clear H
     intro zz5586 lf st5586 hI5586 Q5586 hN5586 hE5586 hX5586
     obtain ⟨xs5586, v5594, own5608, l5609, rfl, H, hi5586_0, hi5586_1, hi5586_2, hi5586_3, hi5586_5, hi5586_6, hi5586_7, hx_l5609, hz5586⟩ := hI5586
     refine wl_tail ?_
     refine wl_assoc ?_
     refine wl_assoc ?_
     refine wl_ops ?_
     refine wr_run 4 [(18, (.int (v5594))), (19, (lst .any encI x.Copies)), (20, (.int ((x.Copies.length : Int)))), (21, (.bool (decide ((v5594 : Int) < ((x.Copies.length : Int) : Int)))))] (by kernel_rfl) ?_
     refine wr_done ?_
     refine wl_cond (decide ((v5594 : Int) < ((x.Copies.length : Int) : Int))) (by kernel_rfl) (fun c5624 => ?_) (fun c5624 => ?_)
     ·skip
      have c5624' : (v5594 : Int) < (x.Copies.length : Int) := of_decide_eq_true c5624
      refine wl_skip_seq ?_
      refine wl_assoc ?_
      refine wl_block fun Q5625 hN5625 hE5625 hX5625 => ?_
      refine wl_tail ?_
      refine wl_ops ?_
      refine wr_run 4 [(24, (.fn 8 [] [])), (25, (.ptr h 0)), (26, (lst .any encI x.Copies)), (27, (.int (v5594)))] (by kernel_rfl) ?_
      refine wr_iaddre encI_len .any x.Copies (by kernel_rfl) (v5594) (by kernel_rfl) (by omega) (by kernel_rfl) fun y5626 hy5626 => ?_
      refine wr_loade encI_len x.Copies ((v5594 : Int).toNat) 0 y5626 hy5626 (by kernel_rfl) (.int (y5626)) (by kernel_rfl) (by decide) (by decide) (by kernel_rfl) ?_
      refine wr_callv (.fn 8 [] []) (by kernel_rfl) [(.ptr h 0), (.int (y5626))] (by kernel_rfl) (by kernel_rfl) ?_
      refine wf_L c8 rfl ?_
      refine wl_tail ?_
      refine wl_ops ?_
      refine wr_run 4 [(4, (.ptr h 0)), (5, (.ptr h 0)), (6, (.ptr h 0)), (7, (.ptr h 0))] (by kernel_rfl) ?_
      refine wr_load H 2 h 0 _ false rfl (by kernel_rfl) (lst own5608 encI l5609) (by kernel_rfl) (by kernel_rfl) ?_
      refine wr_run 2 [(9, (.int (y5626))), (10, (lst .exact encI [y5626]))] (by kernel_rfl) ?_
      refine wr_appendX encI_len encI_one H rfl 1 own5608 rfl l5609 [y5626] (by kernel_rfl) .exact (by kernel_rfl) hx_l5609 (by first | omega | (simp; done) | (simp; omega)) rfl (by kernel_rfl) fun own5627 l5629 st5628 hl5629 el5629 hx_l5629 H => ?_
      simp only [List.length_cons, List.length_nil] at hl5629
      refine wr_run 2 [(12, (.ptr h 0)), (13, (.ptr h 0))] (by kernel_rfl) ?_
      refine wr_store H 2 h 0 _ false rfl (by kernel_rfl) (lst own5627 encI l5629) (by kernel_rfl) [(lst own5627 encI l5629), (lst own3800 encS l3801)] (by kernel_rfl) (by kernel_rfl) (by kernel_rfl) (Nat.le_of_ble_eq_true rfl) (by kernel_rfl) (by kernel_rfl) fun st5630 H => ?_
      refine wr_done ?_
      refine wl_skip ?_
      refine post_i (Or.inl rfl) (.tup []) (by kernel_rfl) ?_
      refine wr_done ?_
      refine wl_skip ?_
      refine hN5625 _ _ ?_
      refine wl_ops ?_
      refine wr_run 1 [(22, (.int (v5594)))] (by kernel_rfl) ?_
      refine wr_bin (.int (v5594)) (.int (1)) (.int (v5594 + 1)) (by kernel_rfl) (by kernel_rfl) (add64e _ (by unfold I64; omega)) (by kernel_rfl) ?_
      refine wr_run 1 [(6, (.int (v5594 + 1)))] (by kernel_rfl) ?_
      refine wr_done ?_
      refine wl_skip ?_
      refine hN5586 _ _ _ ⟨(LX [(18, (.int (v5594))), (19, (lst .any encI x.Copies)), (20, (.int ((x.Copies.length : Int)))), (21, (.bool (decide ((v5594 : Int) < ((x.Copies.length : Int) : Int))))), (22, (.int (v5594))), (23, (.int (v5594 + 1))), (24, (.fn 8 [] [])), (25, (.ptr h 0)), (26, (lst .any encI x.Copies)), (27, (.int (v5594))), (28, (.lptr (x.Copies.flatMap encI) ((v5594 : Int).toNat * 1))), (29, (.int (y5626))), (30, (.tup []))]), v5594 + 1, own5627, l5629, by kernel_rfl, H, by first | omega | (simp; omega) | simp, by first | omega | (simp; omega) | simp, by first | omega | (simp; omega) | simp, by first | omega | (simp; omega) | simp, by first | omega | (simp; omega) | simp, by first | omega | (simp; omega) | simp, by first | omega | (simp; omega) | simp, hx_l5629, rfl⟩ (by first | omega | (simp only; omega))
     ·skip
      have c5624' : ¬ ((v5594 : Int) < (x.Copies.length : Int)) := of_decide_eq_false c5624
      refine wl_exit ?_
      refine hE5586 _ _ ?_
      refine wl_skip ?_
      refine post_i (Or.inl rfl) (.tup []) (by kernel_rfl) ?_
      refine wr_done ?_
      refine wl_skip ?_
      refine post_i (Or.inl rfl) (.tup []) (by kernel_rfl) ?_
      refine wr_done ?_
      refine wl_assoc ?_
      refine wl_ops ?_
      refine wr_run 2 [(20, (.ptr h 0)), (21, (.ptr a1923 9))] (by kernel_rfl) ?_
      refine wr_load H 1 a1923 9 _ true rfl (by kernel_rfl) (.int (x.Number)) (by kernel_rfl) (by kernel_rfl) ?_
      refine wr_call [(.ptr h 0), (.int (x.Number))] (by kernel_rfl) (by kernel_rfl) ?_
      refine wf_L c8 rfl ?_
      refine wl_tail ?_
      refine wl_ops ?_
      refine wr_run 4 [(4, (.ptr h 0)), (5, (.ptr h 0)), (6, (.ptr h 0)), (7, (.ptr h 0))] (by kernel_rfl) ?_
      refine wr_load H 2 h 0 _ false rfl (by kernel_rfl) (lst own5608 encI l5609) (by kernel_rfl) (by kernel_rfl) ?_
      refine wr_run 2 [(9, (.int (x.Number))), (10, (lst .exact encI [x.Number]))] (by kernel_rfl) ?_
      refine wr_appendX encI_len encI_one H rfl 1 own5608 rfl l5609 [x.Number] (by kernel_rfl) .exact (by kernel_rfl) hx_l5609 (by first | omega | (simp; done) | (simp; omega)) rfl (by kernel_rfl) fun own5631 l5633 st5632 hl5633 el5633 hx_l5633 H => ?_
      simp only [List.length_cons, List.length_nil] at hl5633
      refine wr_run 2 [(12, (.ptr h 0)), (13, (.ptr h 0))] (by kernel_rfl) ?_
      refine wr_store H 2 h 0 _ false rfl (by kernel_rfl) (lst own5631 encI l5633) (by kernel_rfl) [(lst own5631 encI l5633), (lst own3800 encS l3801)] (by kernel_rfl) (by kernel_rfl) (by kernel_rfl) (Nat.le_of_ble_eq_true rfl) (by kernel_rfl) (by kernel_rfl) fun st5634 H => ?_
      refine wr_done ?_
      refine wl_skip ?_
      refine post_i (Or.inl rfl) (.tup []) (by kernel_rfl) ?_
      refine wr_done ?_
      refine wl_ops ?_
      refine wr_run 2 [(24, (.ptr h 0)), (25, (.ptr a1923 10))] (by kernel_rfl) ?_
      refine wr_load H 1 a1923 10 _ true rfl (by kernel_rfl) (.int (x.Fact)) (by kernel_rfl) (by kernel_rfl) ?_
      refine wr_call [(.ptr h 0), (.int (x.Fact))] (by kernel_rfl) (by kernel_rfl) ?_
      refine wf_L c8 rfl ?_
      refine wl_tail ?_
      refine wl_ops ?_
      refine wr_run 4 [(4, (.ptr h 0)), (5, (.ptr h 0)), (6, (.ptr h 0)), (7, (.ptr h 0))] (by kernel_rfl) ?_
      refine wr_load H 2 h 0 _ false rfl (by kernel_rfl) (lst own5631 encI l5633) (by kernel_rfl) (by kernel_rfl) ?_
      refine wr_run 2 [(9, (.int (x.Fact))), (10, (lst .exact encI [x.Fact]))] (by kernel_rfl) ?_
      refine wr_appendX encI_len encI_one H rfl 1 own5631 rfl l5633 [x.Fact] (by kernel_rfl) .exact (by kernel_rfl) hx_l5633 (by first | omega | (simp; done) | (simp; omega)) rfl (by kernel_rfl) fun own5635 l5637 st5636 hl5637 el5637 hx_l5637 H => ?_
      simp only [List.length_cons, List.length_nil] at hl5637
      refine wr_run 2 [(12, (.ptr h 0)), (13, (.ptr h 0))] (by kernel_rfl) ?_
      refine wr_store H 2 h 0 _ false rfl (by kernel_rfl) (lst own5635 encI l5637) (by kernel_rfl) [(lst own5635 encI l5637), (lst own3800 encS l3801)] (by kernel_rfl) (by kernel_rfl) (by kernel_rfl) (Nat.le_of_ble_eq_true rfl) (by kernel_rfl) (by kernel_rfl) fun st5638 H => ?_
      refine wr_done ?_
      refine wl_skip ?_
      refine post_i (Or.inl rfl) (.tup []) (by kernel_rfl) ?_
      refine wr_done ?_
      refine wl_skip ?_
      refine post_i (Or.inl rfl) (.tup []) (by kernel_rfl) ?_
      exact ⟨own5635, l5637, own3800, l3801, rfl, ⟨H.tok 1 rfl, hx_l5637⟩, ⟨H.tok 0 rfl, hx_l3801⟩, by first | omega | (simp; omega) | simp, by first | omega | (simp; omega) | simp, H.eff _ (List.forall_mem_cons.2 ⟨(fun e => nomatch e), (List.forall_mem_cons.2 ⟨(fun e => nomatch e), (List.forall_mem_cons.2 ⟨(fun _ => Or.inl (by simp)), (by simp)⟩)⟩)⟩) (List.forall_mem_cons.2 ⟨⟨_, List.mem_of_getElem? (i := 2) rfl, rfl, rfl⟩, (by simp)⟩)⟩

set_option maxHeartbeats 4000000 in
theorem wipe2_0 (c : Nat) (st : St) (hc_c : st.get c = some (.cells [(lst .any encI ([] : List Int))])) : WF Try.prog 14 [(.ptr c 0)] st fun r st' => r = (.tup []) ∧ Ext st st' := by
 refine wf_L c14 rfl ?_
 have H : SP st [⟨c, .cells [(lst .any encI ([] : List Int))], false⟩] [] st := SP.startm _ (List.forall_mem_cons.2 ⟨⟨hc_c, rfl⟩, (by simp)⟩) (by simp)
 refine wl_tail ?_
 refine wl_ops ?_
 refine wr_call [(.ptr c 0)] (by kernel_rfl) (by kernel_rfl) ?_
 refine wf_L c15 rfl ?_
 refine wl_tail ?_
 refine wl_ops ?_
 refine wr_run 2 [(2, (.ptr c 0)), (3, (.ptr c 0))] (by kernel_rfl) ?_
 refine wr_load H 0 c 0 _ false rfl (by kernel_rfl) (lst .any encI ([] : List Int)) (by kernel_rfl) (by kernel_rfl) ?_
 refine wr_call [(lst .any encI ([] : List Int)), (.fn 49 [] [])] (by kernel_rfl) (by kernel_rfl) ?_
 refine wf_L c48 rfl ?_
 refine wl_tail ?_
 refine wl_assoc ?_
 refine wl_ops ?_
 refine wr_run 1 [(4, (.int (0)))] (by kernel_rfl) ?_
 refine wr_done ?_
 refine wl_loop (σ := Nat) (fun (zz : Nat) (lf : List AV) (st' : St) => lf = [(lst .any encI ([] : List Int)), (.fn 49 [] []), .junk, .junk, (.int (0)), .junk, .junk, .junk, .junk, .junk, .junk, .junk, .junk, .junk, .junk, .junk] ∧ SP st [⟨c, .cells [(lst .any encI ([] : List Int))], false⟩] [] st' ∧ zz = 0) (fun z => z) _ ⟨by kernel_rfl, H, rfl⟩ ?_
 clear H
 intro zz5651 lf st5651 hI5651 Q5651 hN5651 hE5651 hX5651
 obtain ⟨rfl, H, hz5651⟩ := hI5651
 refine wl_tail ?_
 refine wl_assoc ?_
 refine wl_assoc ?_
 refine wl_ops ?_
 refine wr_run 4 [(5, (.int (0))), (6, (lst .any encI ([] : List Int))), (7, (.int (0))), (8, (.bool (false)))] (by kernel_rfl) ?_
 refine wr_done ?_
 refine wl_cond false (by kernel_rfl) (fun c5654 => by cases c5654) (fun c5654 => ?_)
 clear c5654
 refine wl_exit ?_
 refine hE5651 _ _ ?_
 refine wl_skip ?_
 refine post_i (Or.inl rfl) (.tup []) (by kernel_rfl) ?_
 refine wr_done ?_
 refine wl_skip ?_
 refine post_i (Or.inl rfl) (.tup []) (by kernel_rfl) ?_
 refine wr_done ?_
 refine wl_skip ?_
 refine post_i (Or.inl rfl) (.tup []) (by kernel_rfl) ?_
 exact ⟨rfl, H.ext' (List.forall_mem_cons.2 ⟨(fun _ => hc_c), (by simp)⟩)⟩

set_option maxHeartbeats 4000000 in
theorem wipe2_1 (v : Nat) (c : Nat) (cs : List AV) (n : Nat) (st : St) (hc_v : st.get v = some (.vec cs)) (hc_c : st.get c = some (.cells [(.mx v n)])) (hnd : [v, c].Nodup) (hn : (cs.length : Int) = (n : Int) ∧ (n : Int) ≤ 4503599627370496) : WF Try.prog 14 [(.ptr c 0)] st fun r st' => ∃ (cs5655 : List AV), r = (.tup []) ∧ Eff [(v, .vec cs5655)] st st' := by
 refine wf_L c14 rfl ?_
 have H : SP st [⟨v, .vec cs, false⟩, ⟨c, .cells [(.mx v n)], false⟩] [] st := SP.startm _ (List.forall_mem_cons.2 ⟨⟨hc_v, rfl⟩, (List.forall_mem_cons.2 ⟨⟨hc_c, rfl⟩, (by simp)⟩)⟩) hnd
 refine wl_tail ?_
 refine wl_ops ?_
 refine wr_call [(.ptr c 0)] (by kernel_rfl) (by kernel_rfl) ?_
 refine wf_L c15 rfl ?_
 refine wl_tail ?_
 refine wl_ops ?_
 refine wr_run 2 [(2, (.ptr c 0)), (3, (.ptr c 0))] (by kernel_rfl) ?_
 refine wr_load H 1 c 0 _ false rfl (by kernel_rfl) (.mx v n) (by kernel_rfl) (by kernel_rfl) ?_
 refine wr_call [(.mx v n), (.fn 49 [] [])] (by kernel_rfl) (by kernel_rfl) ?_
 refine wf_L c48 rfl ?_
 refine wl_tail ?_
 refine wl_assoc ?_
 refine wl_ops ?_
 refine wr_run 1 [(4, (.int (0)))] (by kernel_rfl) ?_
 refine wr_done ?_
 refine wl_loop (σ := Nat) (fun (zz : Nat) (lf : List AV) (st' : St) => ∃ (xs5770 : Nat → AV) (v5777 : Int) (cs5789 : List AV), lf = [(.mx v n), (.fn 49 [] []), .junk, .junk, (.int (v5777)), (xs5770 5), (xs5770 6), (xs5770 7), (xs5770 8), (xs5770 9), (xs5770 10), (xs5770 11), (xs5770 12), (xs5770 13), (xs5770 14), (xs5770 15)] ∧ SP st [⟨v, .vec cs5789, false⟩, ⟨c, .cells [(.mx v n)], false⟩] [] st' ∧ (0 ≤ v5777) ∧ (0 ≤ v5777) ∧ (-1 ≤ v5777) ∧ (-9223372036854775808 ≤ v5777 ∧ v5777 ≤ 9223372036854775807) ∧ (v5777 ≤ (n : Int)) ∧ ((cs5789.length : Int) = (cs.length : Int)) ∧ zz = (-v5777 + 9223372036854775808).toNat) (fun z => z) _ ⟨(LX [(5, .junk), (6, .junk), (7, .junk), (8, .junk), (9, .junk), (10, .junk), (11, .junk), (12, .junk), (13, .junk), (14, .junk), (15, .junk)]), 0, cs, by kernel_rfl, H, by first | omega | (simp; omega) | simp, by first | omega | (simp; omega) | simp, by first | omega | (simp; omega) | simp, by first | omega | (simp; omega) | simp, by first | omega | (simp; omega) | simp, by first | omega | (simp; omega) | simp, rfl⟩ ?_
 clear H
 intro zz5770 lf st5770 hI5770 Q5770 hN5770 hE5770 hX5770
 obtain ⟨xs5770, v5777, cs5789, rfl, H, hi5770_0, hi5770_1, hi5770_2, hi5770_3, hi5770_5, hi5770_6, hz5770⟩ := hI5770
 refine wl_tail ?_
 refine wl_assoc ?_
 refine wl_assoc ?_
 refine wl_ops ?_
 refine wr_run 4 [(5, (.int (v5777))), (6, (.mx v n)), (7, (.int ((n : Int)))), (8, (.bool (decide ((v5777 : Int) < ((n : Int) : Int)))))] (by kernel_rfl) ?_
 refine wr_done ?_
 refine wl_cond (decide ((v5777 : Int) < ((n : Int) : Int))) (by kernel_rfl) (fun c5802 => ?_) (fun c5802 => ?_)
 ·skip
  have c5802' : (v5777 : Int) < (n : Int) := of_decide_eq_true c5802
  refine wl_skip_seq ?_
  refine wl_assoc ?_
  refine wl_block fun Q5803 hN5803 hE5803 hX5803 => ?_
  refine wl_tail ?_
  refine wl_ops ?_
  refine wr_run 3 [(11, (.fn 49 [] [])), (12, (.mx v n)), (13, (.int (v5777)))] (by kernel_rfl) ?_
  refine wr_iaddrx v n (by kernel_rfl) (v5777) (by kernel_rfl) (by omega) (by kernel_rfl) ?_
  refine wr_callv (.fn 49 [] []) (by kernel_rfl) [(.ptr v (0 + (v5777 : Int).toNat * 1))] (by kernel_rfl) (by kernel_rfl) ?_
  refine wf_L c49 rfl ?_
  refine wl_tail ?_
  refine wl_ops ?_
  refine wr_run 2 [(2, (.ptr v (0 + (v5777 : Int).toNat * 1))), (3, (.ptr v (0 + (v5777 : Int).toNat * 1)))] (by kernel_rfl) ?_
  refine wr_storex H 0 v (0 + (v5777 : Int).toNat * 1) cs5789 false rfl (by kernel_rfl) (.int (-77)) (by kernel_rfl) (by kernel_rfl) (by kernel_rfl) (by kernel_rfl) (by omega) (by kernel_rfl) fun st5806 cs5807 hcs5807 H => ?_
  refine wr_done ?_
  refine wl_skip ?_
  refine post_i (Or.inl rfl) (.tup []) (by kernel_rfl) ?_
  refine wr_done ?_
  refine wl_skip ?_
  refine hN5803 _ _ ?_
  refine wl_ops ?_
  refine wr_run 1 [(9, (.int (v5777)))] (by kernel_rfl) ?_
  refine wr_bin (.int (v5777)) (.int (1)) (.int (v5777 + 1)) (by kernel_rfl) (by kernel_rfl) (add64e _ (by unfold I64; omega)) (by kernel_rfl) ?_
  refine wr_run 1 [(4, (.int (v5777 + 1)))] (by kernel_rfl) ?_
  refine wr_done ?_
  refine wl_skip ?_
  refine hN5770 _ _ _ ⟨(LX [(5, (.int (v5777))), (6, (.mx v n)), (7, (.int ((n : Int)))), (8, (.bool (decide ((v5777 : Int) < ((n : Int) : Int))))), (9, (.int (v5777))), (10, (.int (v5777 + 1))), (11, (.fn 49 [] [])), (12, (.mx v n)), (13, (.int (v5777))), (14, (.ptr v (0 + (v5777 : Int).toNat * 1))), (15, (.tup []))]), v5777 + 1, cs5807, by kernel_rfl, H, by first | omega | (simp; omega) | simp, by first | omega | (simp; omega) | simp, by first | omega | (simp; omega) | simp, by first | omega | (simp; omega) | simp, by first | omega | (simp; omega) | simp, by first | omega | (simp; omega) | simp, rfl⟩ (by first | omega | (simp only; omega))
 ·skip
  have c5802' : ¬ ((v5777 : Int) < (n : Int)) := of_decide_eq_false c5802
  refine wl_exit ?_
  refine hE5770 _ _ ?_
  refine wl_skip ?_
  refine post_i (Or.inl rfl) (.tup []) (by kernel_rfl) ?_
  refine wr_done ?_
  refine wl_skip ?_
  refine post_i (Or.inl rfl) (.tup []) (by kernel_rfl) ?_
  refine wr_done ?_
  refine wl_skip ?_
  refine post_i (Or.inl rfl) (.tup []) (by kernel_rfl) ?_
  exact ⟨cs5789, rfl, H.eff _ (List.forall_mem_cons.2 ⟨(fun _ => Or.inl (by simp)), (List.forall_mem_cons.2 ⟨(fun _ => Or.inr hc_c), (by simp)⟩)⟩) (List.forall_mem_cons.2 ⟨⟨_, List.mem_of_getElem? (i := 0) rfl, rfl, rfl⟩, (by simp)⟩)⟩

set_option maxHeartbeats 4000000 in
theorem wipe3_0 (c : Nat) (st : St) (hc_c : st.get c = some (.cells [(lst .any encI ([] : List Int))])) : WF Try.prog 18 [(.ptr c 0)] st fun r st' => r = (.tup []) ∧ Ext st st' := by
 refine wf_L c18 rfl ?_
 have H : SP st [⟨c, .cells [(lst .any encI ([] : List Int))], false⟩] [] st := SP.startm _ (List.forall_mem_cons.2 ⟨⟨hc_c, rfl⟩, (by simp)⟩) (by simp)
 refine wl_tail ?_
 refine wl_ops ?_
 refine wr_call [(.ptr c 0)] (by kernel_rfl) (by kernel_rfl) ?_
 refine wf_L c15 rfl ?_
 refine wl_tail ?_
 refine wl_ops ?_
 refine wr_run 2 [(2, (.ptr c 0)), (3, (.ptr c 0))] (by kernel_rfl) ?_
 refine wr_load H 0 c 0 _ false rfl (by kernel_rfl) (lst .any encI ([] : List Int)) (by kernel_rfl) (by kernel_rfl) ?_
 refine wr_call [(lst .any encI ([] : List Int)), (.fn 49 [] [])] (by kernel_rfl) (by kernel_rfl) ?_
 refine wf_L c48 rfl ?_
 refine wl_tail ?_
 refine wl_assoc ?_
 refine wl_ops ?_
 refine wr_run 1 [(4, (.int (0)))] (by kernel_rfl) ?_
 refine wr_done ?_
 refine wl_loop (σ := Nat) (fun (zz : Nat) (lf : List AV) (st' : St) => lf = [(lst .any encI ([] : List Int)), (.fn 49 [] []), .junk, .junk, (.int (0)), .junk, .junk, .junk, .junk, .junk, .junk, .junk, .junk, .junk, .junk, .junk] ∧ SP st [⟨c, .cells [(lst .any encI ([] : List Int))], false⟩] [] st' ∧ zz = 0) (fun z => z) _ ⟨by kernel_rfl, H, rfl⟩ ?_
 clear H
 intro zz5820 lf st5820 hI5820 Q5820 hN5820 hE5820 hX5820
 obtain ⟨rfl, H, hz5820⟩ := hI5820
 refine wl_tail ?_
 refine wl_assoc ?_
 refine wl_assoc ?_
 refine wl_ops ?_
 refine wr_run 4 [(5, (.int (0))), (6, (lst .any encI ([] : List Int))), (7, (.int (0))), (8, (.bool (false)))] (by kernel_rfl) ?_
 refine wr_done ?_
 refine wl_cond false (by kernel_rfl) (fun c5823 => by cases c5823) (fun c5823 => ?_)
 clear c5823
 refine wl_exit ?_
 refine hE5820 _ _ ?_
 refine wl_skip ?_
 refine post_i (Or.inl rfl) (.tup []) (by kernel_rfl) ?_
 refine wr_done ?_
 refine wl_skip ?_
 refine post_i (Or.inl rfl) (.tup []) (by kernel_rfl) ?_
 refine wr_done ?_
 refine wl_skip ?_
 refine post_i (Or.inl rfl) (.tup []) (by kernel_rfl) ?_
 exact ⟨rfl, H.ext' (List.forall_mem_cons.2 ⟨(fun _ => hc_c), (by simp)⟩)⟩

set_option maxHeartbeats 4000000 in
theorem wipe3_1 (v : Nat) (c : Nat) (cs : List AV) (n : Nat) (st : St) (hc_v : st.get v = some (.vec cs)) (hc_c : st.get c = some (.cells [(.mx v n)])) (hnd : [v, c].Nodup) (hn : (cs.length : Int) = (n : Int) ∧ (n : Int) ≤ 4503599627370496) : WF Try.prog 18 [(.ptr c 0)] st fun r st' => ∃ (cs5824 : List AV), r = (.tup []) ∧ Eff [(v, .vec cs5824)] st st' := by
 refine wf_L c18 rfl ?_
 have H : SP st [⟨v, .vec cs, false⟩, ⟨c, .cells [(.mx v n)], false⟩] [] st := SP.startm _ (List.forall_mem_cons.2 ⟨⟨hc_v, rfl⟩, (List.forall_mem_cons.2 ⟨⟨hc_c, rfl⟩, (by simp)⟩)⟩) hnd
 refine wl_tail ?_
 refine wl_ops ?_
 refine wr_call [(.ptr c 0)] (by kernel_rfl) (by kernel_rfl) ?_
 refine wf_L c15 rfl ?_
 refine wl_tail ?_
 refine wl_ops ?_
 refine wr_run 2 [(2, (.ptr c 0)), (3, (.ptr c 0))] (by kernel_rfl) ?_
 refine wr_load H 1 c 0 _ false rfl (by kernel_rfl) (.mx v n) (by kernel_rfl) (by kernel_rfl) ?_
 refine wr_call [(.mx v n), (.fn 49 [] [])] (by kernel_rfl) (by kernel_rfl) ?_
 refine wf_L c48 rfl ?_
 refine wl_tail ?_
 refine wl_assoc ?_
 refine wl_ops ?_
 refine wr_run 1 [(4, (.int (0)))] (by kernel_rfl) ?_
 refine wr_done ?_
 refine wl_loop (σ := Nat) (fun (zz : Nat) (lf : List AV) (st' : St) => ∃ (xs5939 : Nat → AV) (v5946 : Int) (cs5958 : List AV), lf = [(.mx v n), (.fn 49 [] []), .junk, .junk, (.int (v5946)), (xs5939 5), (xs5939 6), (xs5939 7), (xs5939 8), (xs5939 9), (xs5939 10), (xs5939 11), (xs5939 12), (xs5939 13), (xs5939 14), (xs5939 15)] ∧ SP st [⟨v, .vec cs5958, false⟩, ⟨c, .cells [(.mx v n)], false⟩] [] st' ∧ (0 ≤ v5946) ∧ (0 ≤ v5946) ∧ (-1 ≤ v5946) ∧ (-9223372036854775808 ≤ v5946 ∧ v5946 ≤ 9223372036854775807) ∧ (v5946 ≤ (n : Int)) ∧ ((cs5958.length : Int) = (cs.length : Int)) ∧ zz = (-v5946 + 9223372036854775808).toNat) (fun z => z) _ ⟨(LX [(5, .junk), (6, .junk), (7, .junk), (8, .junk), (9, .junk), (10, .junk), (11, .junk), (12, .junk), (13, .junk), (14, .junk), (15, .junk)]), 0, cs, by kernel_rfl, H, by first | omega | (simp; omega) | simp, by first | omega | (simp; omega) | simp, by first | omega | (simp; omega) | simp, by first | omega | (simp; omega) | simp, by first | omega | (simp; omega) | simp, by first | omega | (simp; omega) | simp, rfl⟩ ?_
 clear H
 intro zz5939 lf st5939 hI5939 Q5939 hN5939 hE5939 hX5939
 obtain ⟨xs5939, v5946, cs5958, rfl, H, hi5939_0, hi5939_1, hi5939_2, hi5939_3, hi5939_5, hi5939_6, hz5939⟩ := hI5939
 refine wl_tail ?_
 refine wl_assoc ?_
 refine wl_assoc ?_
 refine wl_ops ?_
 refine wr_run 4 [(5, (.int (v5946))), (6, (.mx v n)), (7, (.int ((n : Int)))), (8, (.bool (decide ((v5946 : Int) < ((n : Int) : Int)))))] (by kernel_rfl) ?_
 refine wr_done ?_
 refine wl_cond (decide ((v5946 : Int) < ((n : Int) : Int))) (by kernel_rfl) (fun c5971 => ?_) (fun c5971 => ?_)
 ·skip
  have c5971' : (v5946 : Int) < (n : Int) := of_decide_eq_true c5971
  refine wl_skip_seq ?_
  refine wl_assoc ?_
  refine wl_block fun Q5972 hN5972 hE5972 hX5972 => ?_
  refine wl_tail ?_
  refine wl_ops ?_
  refine wr_run 3 [(11, (.fn 49 [] [])), (12, (.mx v n)), (13, (.int (v5946)))] (by kernel_rfl) ?_
  refine wr_iaddrx v n (by kernel_rfl) (v5946) (by kernel_rfl) (by omega) (by kernel_rfl) ?_
  refine wr_callv (.fn 49 [] []) (by kernel_rfl) [(.ptr v (0 + (v5946 : Int).toNat * 1))] (by kernel_rfl) (by kernel_rfl) ?_
  refine wf_L c49 rfl ?_
  refine wl_tail ?_
  refine wl_ops ?_
  refine wr_run 2 [(2, (.ptr v (0 + (v5946 : Int).toNat * 1))), (3, (.ptr v (0 + (v5946 : Int).toNat * 1)))] (by kernel_rfl) ?_
  refine wr_storex H 0 v (0 + (v5946 : Int).toNat * 1) cs5958 false rfl (by kernel_rfl) (.int (-77)) (by kernel_rfl) (by kernel_rfl) (by kernel_rfl) (by kernel_rfl) (by omega) (by kernel_rfl) fun st5975 cs5976 hcs5976 H => ?_
  refine wr_done ?_
  refine wl_skip ?_
  refine post_i (Or.inl rfl) (.tup []) (by kernel_rfl) ?_
  refine wr_done ?_
  refine wl_skip ?_
  refine hN5972 _ _ ?_
  refine wl_ops ?_
  refine wr_run 1 [(9, (.int (v5946)))] (by kernel_rfl) ?_
  refine wr_bin (.int (v5946)) (.int (1)) (.int (v5946 + 1)) (by kernel_rfl) (by kernel_rfl) (add64e _ (by unfold I64; omega)) (by kernel_rfl) ?_
  refine wr_run 1 [(4, (.int (v5946 + 1)))] (by kernel_rfl) ?_
  refine wr_done ?_
  refine wl_skip ?_
  refine hN5939 _ _ _ ⟨(LX [(5, (.int (v5946))), (6, (.mx v n)), (7, (.int ((n : Int)))), (8, (.bool (decide ((v5946 : Int) < ((n : Int) : Int))))), (9, (.int (v5946))), (10, (.int (v5946 + 1))), (11, (.fn 49 [] [])), (12, (.mx v n)), (13, (.int (v5946))), (14, (.ptr v (0 + (v5946 : Int).toNat * 1))), (15, (.tup []))]), v5946 + 1, cs5976, by kernel_rfl, H, by first | omega | (simp; omega) | simp, by first | omega | (simp; omega) | simp, by first | omega | (simp; omega) | simp, by first | omega | (simp; omega) | simp, by first | omega | (simp; omega) | simp, by first | omega | (simp; omega) | simp, rfl⟩ (by first | omega | (simp only; omega))
 ·skip
  have c5971' : ¬ ((v5946 : Int) < (n : Int)) := of_decide_eq_false c5971
  refine wl_exit ?_
  refine hE5939 _ _ ?_
  refine wl_skip ?_
  refine post_i (Or.inl rfl) (.tup []) (by kernel_rfl) ?_
  refine wr_done ?_
  refine wl_skip ?_
  refine post_i (Or.inl rfl) (.tup []) (by kernel_rfl) ?_
  refine wr_done ?_
  refine wl_skip ?_
  refine post_i (Or.inl rfl) (.tup []) (by kernel_rfl) ?_
  exact ⟨cs5958, rfl, H.eff _ (List.forall_mem_cons.2 ⟨(fun _ => Or.inl (by simp)), (List.forall_mem_cons.2 ⟨(fun _ => Or.inr hc_c), (by simp)⟩)⟩) (List.forall_mem_cons.2 ⟨⟨_, List.mem_of_getElem? (i := 0) rfl, rfl, rfl⟩, (by simp)⟩)⟩

set_option maxHeartbeats 4000000 in
theorem wipe4_0 (c : Nat) (st : St) (hc_c : st.get c = some (.cells [(lst .any encI ([] : List Int))])) : WF Try.prog 21 [(.ptr c 0)] st fun r st' => r = (.tup []) ∧ Ext st st' := by
 refine wf_L c21 rfl ?_
 have H : SP st [⟨c, .cells [(lst .any encI ([] : List Int))], false⟩] [] st := SP.startm _ (List.forall_mem_cons.2 ⟨⟨hc_c, rfl⟩, (by simp)⟩) (by simp)
 refine wl_tail ?_
 refine wl_ops ?_
 refine wr_call [(.ptr c 0)] (by kernel_rfl) (by kernel_rfl) ?_
 refine wf_L c15 rfl ?_
 refine wl_tail ?_
 refine wl_ops ?_
 refine wr_run 2 [(2, (.ptr c 0)), (3, (.ptr c 0))] (by kernel_rfl) ?_
 refine wr_load H 0 c 0 _ false rfl (by kernel_rfl) (lst .any encI ([] : List Int)) (by kernel_rfl) (by kernel_rfl) ?_
 refine wr_call [(lst .any encI ([] : List Int)), (.fn 49 [] [])] (by kernel_rfl) (by kernel_rfl) ?_
 refine wf_L c48 rfl ?_
 refine wl_tail ?_
 refine wl_assoc ?_
 refine wl_ops ?_
 refine wr_run 1 [(4, (.int (0)))] (by kernel_rfl) ?_
 refine wr_done ?_
 refine wl_loop (σ := Nat) (fun (zz : Nat) (lf : List AV) (st' : St) => lf = [(lst .any encI ([] : List Int)), (.fn 49 [] []), .junk, .junk, (.int (0)), .junk, .junk, .junk, .junk, .junk, .junk, .junk, .junk, .junk, .junk, .junk] ∧ SP st [⟨c, .cells [(lst .any encI ([] : List Int))], false⟩] [] st' ∧ zz = 0) (fun z => z) _ ⟨by kernel_rfl, H, rfl⟩ ?_
 clear H
 intro zz5989 lf st5989 hI5989 Q5989 hN5989 hE5989 hX5989
 obtain ⟨rfl, H, hz5989⟩ := hI5989
 refine wl_tail ?_
 refine wl_assoc ?_
 refine wl_assoc ?_
 refine wl_ops ?_
 refine wr_run 4 [(5, (.int (0))), (6, (lst .any encI ([] : List Int))), (7, (.int (0))), (8, (.bool (false)))] (by kernel_rfl) ?_
 refine wr_done ?_
 refine wl_cond false (by kernel_rfl) (fun c5992 => by cases c5992) (fun c5992 => ?_)
 clear c5992
 refine wl_exit ?_
 refine hE5989 _ _ ?_
 refine wl_skip ?_
 refine post_i (Or.inl rfl) (.tup []) (by kernel_rfl) ?_
 refine wr_done ?_
 refine wl_skip ?_
 refine post_i (Or.inl rfl) (.tup []) (by kernel_rfl) ?_
 refine wr_done ?_
 refine wl_skip ?_
 refine post_i (Or.inl rfl) (.tup []) (by kernel_rfl) ?_
 exact ⟨rfl, H.ext' (List.forall_mem_cons.2 ⟨(fun _ => hc_c), (by simp)⟩)⟩

set_option maxHeartbeats 4000000 in
theorem wipe4_1 (v : Nat) (c : Nat) (cs : List AV) (n : Nat) (st : St) (hc_v : st.get v = some (.vec cs)) (hc_c : st.get c = some (.cells [(.mx v n)])) (hnd : [v, c].Nodup) (hn : (cs.length : Int) = (n : Int) ∧ (n : Int) ≤ 4503599627370496) : WF Try.prog 21 [(.ptr c 0)] st fun r st' => ∃ (cs5993 : List AV), r = (.tup []) ∧ Eff [(v, .vec cs5993)] st st' := by
 refine wf_L c21 rfl ?_
 have H : SP st [⟨v, .vec cs, false⟩, ⟨c, .cells [(.mx v n)], false⟩] [] st := SP.startm _ (List.forall_mem_cons.2 ⟨⟨hc_v, rfl⟩, (List.forall_mem_cons.2 ⟨⟨hc_c, rfl⟩, (by simp)⟩)⟩) hnd
 refine wl_tail ?_
 refine wl_ops ?_
 refine wr_call [(.ptr c 0)] (by kernel_rfl) (by kernel_rfl) ?_
 refine wf_L c15 rfl ?_
 refine wl_tail ?_
 refine wl_ops ?_
 refine wr_run 2 [(2, (.ptr c 0)), (3, (.ptr c 0))] (by kernel_rfl) ?_
 refine wr_load H 1 c 0 _ false rfl (by kernel_rfl) (.mx v n) (by kernel_rfl) (by kernel_rfl) ?_
 refine wr_call [(.mx v n), (.fn 49 [] [])] (by kernel_rfl) (by kernel_rfl) ?_
 refine wf_L c48 rfl ?_
 refine wl_tail ?_
 refine wl_assoc ?_
 refine wl_ops ?_
 refine wr_run 1 [(4, (.int (0)))] (by kernel_rfl) ?_
 refine wr_done ?_
 refine wl_loop (σ := Nat) (fun (zz : Nat) (lf : List AV) (st' : St) => ∃ (xs6108 : Nat → AV) (v6115 : Int) (cs6127 : List AV), lf = [(.mx v n), (.fn 49 [] []), .junk, .junk, (.int (v6115)), (xs6108 5), (xs6108 6), (xs6108 7), (xs6108 8), (xs6108 9), (xs6108 10), (xs6108 11), (xs6108 12), (xs6108 13), (xs6108 14), (xs6108 15)] ∧ SP st [⟨v, .vec cs6127, false⟩, ⟨c, .cells [(.mx v n)], false⟩] [] st' ∧ (0 ≤ v6115) ∧ (0 ≤ v6115) ∧ (-1 ≤ v6115) ∧ (-9223372036854775808 ≤ v6115 ∧ v6115 ≤ 9223372036854775807) ∧ (v6115 ≤ (n : Int)) ∧ ((cs6127.length : Int) = (cs.length : Int)) ∧ zz = (-v6115 + 9223372036854775808).toNat) (fun z => z) _ ⟨(LX [(5, .junk), (6, .junk), (7, .junk), (8, .junk), (9, .junk), (10, .junk), (11, .junk), (12, .junk), (13, .junk), (14, .junk), (15, .junk)]), 0, cs, by kernel_rfl, H, by first | omega | (simp; omega) | simp, by first | omega | (simp; omega) | simp, by first | omega | (simp; omega) | simp, by first | omega | (simp; omega) | simp, by first | omega | (simp; omega) | simp, by first | omega | (simp; omega) | simp, rfl⟩ ?_
 clear H
 intro zz6108 lf st6108 hI6108 Q6108 hN6108 hE6108 hX6108
 obtain ⟨xs6108, v6115, cs6127, rfl, H, hi6108_0, hi6108_1, hi6108_2, hi6108_3, hi6108_5, hi6108_6, hz6108⟩ := hI6108
 refine wl_tail ?_
 refine wl_assoc ?_
 refine wl_assoc ?_
 refine wl_ops ?_
 refine wr_run 4 [(5, (.int (v6115))), (6, (.mx v n)), (7, (.int ((n : Int)))), (8, (.bool (decide ((v6115 : Int) < ((n : Int) : Int)))))] (by kernel_rfl) ?_
 refine wr_done ?_
 refine wl_cond (decide ((v6115 : Int) < ((n : Int) : Int))) (by kernel_rfl) (fun c6140 => ?_) (fun c6140 => ?_)
 ·skip
  have c6140' : (v6115 : Int) < (n : Int) := of_decide_eq_true c6140
  refine wl_skip_seq ?_
  refine wl_assoc ?_
  refine wl_block fun Q6141 hN6141 hE6141 hX6141 => ?_
  refine wl_tail ?_
  refine wl_ops ?_
  refine wr_run 3 [(11, (.fn 49 [] [])), (12, (.mx v n)), (13, (.int (v6115)))] (by kernel_rfl) ?_
  refine wr_iaddrx v n (by kernel_rfl) (v6115) (by kernel_rfl) (by omega) (by kernel_rfl) ?_
  refine wr_callv (.fn 49 [] []) (by kernel_rfl) [(.ptr v (0 + (v6115 : Int).toNat * 1))] (by kernel_rfl) (by kernel_rfl) ?_
  refine wf_L c49 rfl ?_
  refine wl_tail ?_
  refine wl_ops ?_
  refine wr_run 2 [(2, (.ptr v (0 + (v6115 : Int).toNat * 1))), (3, (.ptr v (0 + (v6115 : Int).toNat * 1)))] (by kernel_rfl) ?_
  refine wr_storex H 0 v (0 + (v6115 : Int).toNat * 1) cs6127 false rfl (by kernel_rfl) (.int (-77)) (by kernel_rfl) (by kernel_rfl) (by kernel_rfl) (by kernel_rfl) (by omega) (by kernel_rfl) fun st6144 cs6145 hcs6145 H => ?_
  refine wr_done ?_
  refine wl_skip ?_
  refine post_i (Or.inl rfl) (.tup []) (by kernel_rfl) ?_
  refine wr_done ?_
  refine wl_skip ?_
  refine hN6141 _ _ ?_
  refine wl_ops ?_
  refine wr_run 1 [(9, (.int (v6115)))] (by kernel_rfl) ?_
  refine wr_bin (.int (v6115)) (.int (1)) (.int (v6115 + 1)) (by kernel_rfl) (by kernel_rfl) (add64e _ (by unfold I64; omega)) (by kernel_rfl) ?_
  refine wr_run 1 [(4, (.int (v6115 + 1)))] (by kernel_rfl) ?_
  refine wr_done ?_
  refine wl_skip ?_
  refine hN6108 _ _ _ ⟨(LX [(5, (.int (v6115))), (6, (.mx v n)), (7, (.int ((n : Int)))), (8, (.bool (decide ((v6115 : Int) < ((n : Int) : Int))))), (9, (.int (v6115))), (10, (.int (v6115 + 1))), (11, (.fn 49 [] [])), (12, (.mx v n)), (13, (.int (v6115))), (14, (.ptr v (0 + (v6115 : Int).toNat * 1))), (15, (.tup []))]), v6115 + 1, cs6145, by kernel_rfl, H, by first | omega | (simp; omega) | simp, by first | omega | (simp; omega) | simp, by first | omega | (simp; omega) | simp, by first | omega | (simp; omega) | simp, by first | omega | (simp; omega) | simp, by first | omega | (simp; omega) | simp, rfl⟩ (by first | omega | (simp only; omega))
 ·skip
  have c6140' : ¬ ((v6115 : Int) < (n : Int)) := of_decide_eq_false c6140
  refine wl_exit ?_
  refine hE6108 _ _ ?_
  refine wl_skip ?_
  refine post_i (Or.inl rfl) (.tup []) (by kernel_rfl) ?_
  refine wr_done ?_
  refine wl_skip ?_
  refine post_i (Or.inl rfl) (.tup []) (by kernel_rfl) ?_
  refine wr_done ?_
  refine wl_skip ?_
  refine post_i (Or.inl rfl) (.tup []) (by kernel_rfl) ?_
  exact ⟨cs6127, rfl, H.eff _ (List.forall_mem_cons.2 ⟨(fun _ => Or.inl (by simp)), (List.forall_mem_cons.2 ⟨(fun _ => Or.inr hc_c), (by simp)⟩)⟩) (List.forall_mem_cons.2 ⟨⟨_, List.mem_of_getElem? (i := 0) rfl, rfl, rfl⟩, (by simp)⟩)⟩

set_option maxHeartbeats 4000000 in
theorem wipe5_0 (c : Nat) (st : St) (hc_c : st.get c = some (.cells [(lst .any encI ([] : List Int))])) : WF Try.prog 24 [(.ptr c 0)] st fun r st' => r = (.tup []) ∧ Ext st st' := by
 refine wf_L c24 rfl ?_
 have H : SP st [⟨c, .cells [(lst .any encI ([] : List Int))], false⟩] [] st := SP.startm _ (List.forall_mem_cons.2 ⟨⟨hc_c, rfl⟩, (by simp)⟩) (by simp)
 refine wl_tail ?_
 refine wl_ops ?_
 refine wr_call [(.ptr c 0)] (by kernel_rfl) (by kernel_rfl) ?_
 refine wf_L c15 rfl ?_
 refine wl_tail ?_
 refine wl_ops ?_
 refine wr_run 2 [(2, (.ptr c 0)), (3, (.ptr c 0))] (by kernel_rfl) ?_
 refine wr_load H 0 c 0 _ false rfl (by kernel_rfl) (lst .any encI ([] : List Int)) (by kernel_rfl) (by kernel_rfl) ?_
 refine wr_call [(lst .any encI ([] : List Int)), (.fn 49 [] [])] (by kernel_rfl) (by kernel_rfl) ?_
 refine wf_L c48 rfl ?_
 refine wl_tail ?_
 refine wl_assoc ?_
 refine wl_ops ?_
 refine wr_run 1 [(4, (.int (0)))] (by kernel_rfl) ?_
 refine wr_done ?_
 refine wl_loop (σ := Nat) (fun (zz : Nat) (lf : List AV) (st' : St) => lf = [(lst .any encI ([] : List Int)), (.fn 49 [] []), .junk, .junk, (.int (0)), .junk, .junk, .junk, .junk, .junk, .junk, .junk, .junk, .junk, .junk, .junk] ∧ SP st [⟨c, .cells [(lst .any encI ([] : List Int))], false⟩] [] st' ∧ zz = 0) (fun z => z) _ ⟨by kernel_rfl, H, rfl⟩ ?_
 clear H
 intro zz6158 lf st6158 hI6158 Q6158 hN6158 hE6158 hX6158
 obtain ⟨rfl, H, hz6158⟩ := hI6158
 refine wl_tail ?_
 refine wl_assoc ?_
 refine wl_assoc ?_
 refine wl_ops ?_
 refine wr_run 4 [(5, (.int (0))), (6, (lst .any encI ([] : List Int))), (7, (.int (0))), (8, (.bool (false)))] (by kernel_rfl) ?_
 refine wr_done ?_
 refine wl_cond false (by kernel_rfl) (fun c6161 => by cases c6161) (fun c6161 => ?_)
 clear c6161
 refine wl_exit ?_
 refine hE6158 _ _ ?_
 refine wl_skip ?_
 refine post_i (Or.inl rfl) (.tup []) (by kernel_rfl) ?_
 refine wr_done ?_
 refine wl_skip ?_
 refine post_i (Or.inl rfl) (.tup []) (by kernel_rfl) ?_
 refine wr_done ?_
 refine wl_skip ?_
 refine post_i (Or.inl rfl) (.tup []) (by kernel_rfl) ?_
 exact ⟨rfl, H.ext' (List.forall_mem_cons.2 ⟨(fun _ => hc_c), (by simp)⟩)⟩

set_option maxHeartbeats 4000000 in
theorem wipe5_1 (v : Nat) (c : Nat) (cs : List AV) (n : Nat) (st : St) (hc_v : st.get v = some (.vec cs)) (hc_c : st.get c = some (.cells [(.mx v n)])) (hnd : [v, c].Nodup) (hn : (cs.length : Int) = (n : Int) ∧ (n : Int) ≤ 4503599627370496) : WF Try.prog 24 [(.ptr c 0)] st fun r st' => ∃ (cs6162 : List AV), r = (.tup []) ∧ Eff [(v, .vec cs6162)] st st' := by
 refine wf_L c24 rfl ?_
 have H : SP st [⟨v, .vec cs, false⟩, ⟨c, .cells [(.mx v n)], false⟩] [] st := SP.startm _ (List.forall_mem_cons.2 ⟨⟨hc_v, rfl⟩, (List.forall_mem_cons.2 ⟨⟨hc_c, rfl⟩, (by simp)⟩)⟩) hnd
 refine wl_tail ?_
 refine wl_ops ?_
 refine wr_call [(.ptr c 0)] (by kernel_rfl) (by kernel_rfl) ?_
 refine wf_L c15 rfl ?_
 refine wl_tail ?_
 refine wl_ops ?_
 refine wr_run 2 [(2, (.ptr c 0)), (3, (.ptr c 0))] (by kernel_rfl) ?_
 refine wr_load H 1 c 0 _ false rfl (by kernel_rfl) (.mx v n) (by kernel_rfl) (by kernel_rfl) ?_
 refine wr_call [(.mx v n), (.fn 49 [] [])] (by kernel_rfl) (by kernel_rfl) ?_
 refine wf_L c48 rfl ?_
 refine wl_tail ?_
 refine wl_assoc ?_
 refine wl_ops ?_
 refine wr_run 1 [(4, (.int (0)))] (by kernel_rfl) ?_
 refine wr_done ?_
 refine wl_loop (σ := Nat) (fun (zz : Nat) (lf : List AV) (st' : St) => ∃ (xs6277 : Nat → AV) (v6284 : Int) (cs6296 : List AV), lf = [(.mx v n), (.fn 49 [] []), .junk, .junk, (.int (v6284)), (xs6277 5), (xs6277 6), (xs6277 7), (xs6277 8), (xs6277 9), (xs6277 10), (xs6277 11), (xs6277 12), (xs6277 13), (xs6277 14), (xs6277 15)] ∧ SP st [⟨v, .vec cs6296, false⟩, ⟨c, .cells [(.mx v n)], false⟩] [] st' ∧ (0 ≤ v6284) ∧ (0 ≤ v6284) ∧ (-1 ≤ v6284) ∧ (-9223372036854775808 ≤ v6284 ∧ v6284 ≤ 9223372036854775807) ∧ (v6284 ≤ (n : Int)) ∧ ((cs6296.length : Int) = (cs.length : Int)) ∧ zz = (-v6284 + 9223372036854775808).toNat) (fun z => z) _ ⟨(LX [(5, .junk), (6, .junk), (7, .junk), (8, .junk), (9, .junk), (10, .junk), (11, .junk), (12, .junk), (13, .junk), (14, .junk), (15, .junk)]), 0, cs, by kernel_rfl, H, by first | omega | (simp; omega) | simp, by first | omega | (simp; omega) | simp, by first | omega | (simp; omega) | simp, by first | omega | (simp; omega) | simp, by first | omega | (simp; omega) | simp, by first | omega | (simp; omega) | simp, rfl⟩ ?_
 clear H
 intro zz6277 lf st6277 hI6277 Q6277 hN6277 hE6277 hX6277
 obtain ⟨xs6277, v6284, cs6296, rfl, H, hi6277_0, hi6277_1, hi6277_2, hi6277_3, hi6277_5, hi6277_6, hz6277⟩ := hI6277
 refine wl_tail ?_
 refine wl_assoc ?_
 refine wl_assoc ?_
 refine wl_ops ?_
 refine wr_run 4 [(5, (.int (v6284))), (6, (.mx v n)), (7, (.int ((n : Int)))), (8, (.bool (decide ((v6284 : Int) < ((n : Int) : Int)))))] (by kernel_rfl) ?_
 refine wr_done ?_
 refine wl_cond (decide ((v6284 : Int) < ((n : Int) : Int))) (by kernel_rfl) (fun c6309 => ?_) (fun c6309 => ?_)
 ·skip
  have c6309' : (v6284 : Int) < (n : Int) := of_decide_eq_true c6309
  refine wl_skip_seq ?_
  refine wl_assoc ?_
  refine wl_block fun Q6310 hN6310 hE6310 hX6310 => ?_
  refine wl_tail ?_
  refine wl_ops ?_
  refine wr_run 3 [(11, (.fn 49 [] [])), (12, (.mx v n)), (13, (.int (v6284)))] (by kernel_rfl) ?_
  refine wr_iaddrx v n (by kernel_rfl) (v6284) (by kernel_rfl) (by omega) (by kernel_rfl) ?_
  refine wr_callv (.fn 49 [] []) (by kernel_rfl) [(.ptr v (0 + (v6284 : Int).toNat * 1))] (by kernel_rfl) (by kernel_rfl) ?_
  refine wf_L c49 rfl ?_
  refine wl_tail ?_
  refine wl_ops ?_
  refine wr_run 2 [(2, (.ptr v (0 + (v6284 : Int).toNat * 1))), (3, (.ptr v (0 + (v6284 : Int).toNat * 1)))] (by kernel_rfl) ?_
  refine wr_storex H 0 v (0 + (v6284 : Int).toNat * 1) cs6296 false rfl (by kernel_rfl) (.int (-77)) (by kernel_rfl) (by kernel_rfl) (by kernel_rfl) (by kernel_rfl) (by omega) (by kernel_rfl) fun st6313 cs6314 hcs6314 H => ?_
  refine wr_done ?_
  refine wl_skip ?_
  refine post_i (Or.inl rfl) (.tup []) (by kernel_rfl) ?_
  refine wr_done ?_
  refine wl_skip ?_
  refine hN6310 _ _ ?_
  refine wl_ops ?_
  refine wr_run 1 [(9, (.int (v6284)))] (by kernel_rfl) ?_
  refine wr_bin (.int (v6284)) (.int (1)) (.int (v6284 + 1)) (by kernel_rfl) (by kernel_rfl) (add64e _ (by unfold I64; omega)) (by kernel_rfl) ?_
  refine wr_run 1 [(4, (.int (v6284 + 1)))] (by kernel_rfl) ?_
  refine wr_done ?_
  refine wl_skip ?_
  refine hN6277 _ _ _ ⟨(LX [(5, (.int (v6284))), (6, (.mx v n)), (7, (.int ((n : Int)))), (8, (.bool (decide ((v6284 : Int) < ((n : Int) : Int))))), (9, (.int (v6284))), (10, (.int (v6284 + 1))), (11, (.fn 49 [] [])), (12, (.mx v n)), (13, (.int (v6284))), (14, (.ptr v (0 + (v6284 : Int).toNat * 1))), (15, (.tup []))]), v6284 + 1, cs6314, by kernel_rfl, H, by first | omega | (simp; omega) | simp, by first | omega | (simp; omega) | simp, by first | omega | (simp; omega) | simp, by first | omega | (simp; omega) | simp, by first | omega | (simp; omega) | simp, by first | omega | (simp; omega) | simp, rfl⟩ (by first | omega | (simp only; omega))
 ·skip
  have c6309' : ¬ ((v6284 : Int) < (n : Int)) := of_decide_eq_false c6309
  refine wl_exit ?_
  refine hE6277 _ _ ?_
  refine wl_skip ?_
  refine post_i (Or.inl rfl) (.tup []) (by kernel_rfl) ?_
  refine wr_done ?_
  refine wl_skip ?_
  refine post_i (Or.inl rfl) (.tup []) (by kernel_rfl) ?_
  refine wr_done ?_
  refine wl_skip ?_
  refine post_i (Or.inl rfl) (.tup []) (by kernel_rfl) ?_
  exact ⟨cs6296, rfl, H.eff _ (List.forall_mem_cons.2 ⟨(fun _ => Or.inl (by simp)), (List.forall_mem_cons.2 ⟨(fun _ => Or.inr hc_c), (by simp)⟩)⟩) (List.forall_mem_cons.2 ⟨⟨_, List.mem_of_getElem? (i := 0) rfl, rfl, rfl⟩, (by simp)⟩)⟩

set_option maxHeartbeats 4000000 in
theorem wipe6_0 (c : Nat) (st : St) (hc_c : st.get c = some (.cells [(lst .any encI ([] : List Int))])) : WF Try.prog 27 [(.ptr c 0)] st fun r st' => r = (.tup []) ∧ Ext st st' := by
 refine wf_L c27 rfl ?_
 have H : SP st [⟨c, .cells [(lst .any encI ([] : List Int))], false⟩] [] st := SP.startm _ (List.forall_mem_cons.2 ⟨⟨hc_c, rfl⟩, (by simp)⟩) (by simp)
 refine wl_tail ?_
 refine wl_ops ?_
 refine wr_call [(.ptr c 0)] (by kernel_rfl) (by kernel_rfl) ?_
 refine wf_L c15 rfl ?_
 refine wl_tail ?_
 refine wl_ops ?_
 refine wr_run 2 [(2, (.ptr c 0)), (3, (.ptr c 0))] (by kernel_rfl) ?_
 refine wr_load H 0 c 0 _ false rfl (by kernel_rfl) (lst .any encI ([] : List Int)) (by kernel_rfl) (by kernel_rfl) ?_
 refine wr_call [(lst .any encI ([] : List Int)), (.fn 49 [] [])] (by kernel_rfl) (by kernel_rfl) ?_
 refine wf_L c48 rfl ?_
 refine wl_tail ?_
 refine wl_assoc ?_
 refine wl_ops ?_
 refine wr_run 1 [(4, (.int (0)))] (by kernel_rfl) ?_
 refine wr_done ?_
 refine wl_loop (σ := Nat) (fun (zz : Nat) (lf : List AV) (st' : St) => lf = [(lst .any encI ([] : List Int)), (.fn 49 [] []), .junk, .junk, (.int (0)), .junk, .junk, .junk, .junk, .junk, .junk, .junk, .junk, .junk, .junk, .junk] ∧ SP st [⟨c, .cells [(lst .any encI ([] : List Int))], false⟩] [] st' ∧ zz = 0) (fun z => z) _ ⟨by kernel_rfl, H, rfl⟩ ?_
 clear H
 intro zz6327 lf st6327 hI6327 Q6327 hN6327 hE6327 hX6327
 obtain ⟨rfl, H, hz6327⟩ := hI6327
 refine wl_tail ?_
 refine wl_assoc ?_
 refine wl_assoc ?_
 refine wl_ops ?_
 refine wr_run 4 [(5, (.int (0))), (6, (lst .any encI ([] : List Int))), (7, (.int (0))), (8, (.bool (false)))] (by kernel_rfl) ?_
 refine wr_done ?_
 refine wl_cond false (by kernel_rfl) (fun c6330 => by cases c6330) (fun c6330 => ?_)
 clear c6330
 refine wl_exit ?_
 refine hE6327 _ _ ?_
 refine wl_skip ?_
 refine post_i (Or.inl rfl) (.tup []) (by kernel_rfl) ?_
 refine wr_done ?_
 refine wl_skip ?_
 refine post_i (Or.inl rfl) (.tup []) (by kernel_rfl) ?_
 refine wr_done ?_
 refine wl_skip ?_
 refine post_i (Or.inl rfl) (.tup []) (by kernel_rfl) ?_
 exact ⟨rfl, H.ext' (List.forall_mem_cons.2 ⟨(fun _ => hc_c), (by simp)⟩)⟩

set_option maxHeartbeats 4000000 in
theorem wipe6_1 (v : Nat) (c : Nat) (cs : List AV) (n : Nat) (st : St) (hc_v : st.get v = some (.vec cs)) (hc_c : st.get c = some (.cells [(.mx v n)])) (hnd : [v, c].Nodup) (hn : (cs.length : Int) = (n : Int) ∧ (n : Int) ≤ 4503599627370496) : WF Try.prog 27 [(.ptr c 0)] st fun r st' => ∃ (cs6331 : List AV), r = (.tup []) ∧ Eff [(v, .vec cs6331)] st st' := by
 refine wf_L c27 rfl ?_
 have H : SP st [⟨v, .vec cs, false⟩, ⟨c, .cells [(.mx v n)], false⟩] [] st := SP.startm _ (List.forall_mem_cons.2 ⟨⟨hc_v, rfl⟩, (List.forall_mem_cons.2 ⟨⟨hc_c, rfl⟩, (by simp)⟩)⟩) hnd
 refine wl_tail ?_
 refine wl_ops ?_
 refine wr_call [(.ptr c 0)] (by kernel_rfl) (by kernel_rfl) ?_
 refine wf_L c15 rfl ?_
 refine wl_tail ?_
 refine wl_ops ?_
 refine wr_run 2 [(2, (.ptr c 0)), (3, (.ptr c 0))] (by kernel_rfl) ?_
 refine wr_load H 1 c 0 _ false rfl (by kernel_rfl) (.mx v n) (by kernel_rfl) (by kernel_rfl) ?_
 refine wr_call [(.mx v n), (.fn 49 [] [])] (by kernel_rfl) (by kernel_rfl) ?_
 refine wf_L c48 rfl ?_
 refine wl_tail ?_
 refine wl_assoc ?_
 refine wl_ops ?_
 refine wr_run 1 [(4, (.int (0)))] (by kernel_rfl) ?_
 refine wr_done ?_
 refine wl_loop (σ := Nat) (fun (zz : Nat) (lf : List AV) (st' : St) => ∃ (xs6446 : Nat → AV) (v6453 : Int) (cs6465 : List AV), lf = [(.mx v n), (.fn 49 [] []), .junk, .junk, (.int (v6453)), (xs6446 5), (xs6446 6), (xs6446 7), (xs6446 8), (xs6446 9), (xs6446 10), (xs6446 11), (xs6446 12), (xs6446 13), (xs6446 14), (xs6446 15)] ∧ SP st [⟨v, .vec cs6465, false⟩, ⟨c, .cells [(.mx v n)], false⟩] [] st' ∧ (0 ≤ v6453) ∧ (0 ≤ v6453) ∧ (-1 ≤ v6453) ∧ (-9223372036854775808 ≤ v6453 ∧ v6453 ≤ 9223372036854775807) ∧ (v6453 ≤ (n : Int)) ∧ ((cs6465.length : Int) = (cs.length : Int)) ∧ zz = (-v6453 + 9223372036854775808).toNat) (fun z => z) _ ⟨(LX [(5, .junk), (6, .junk), (7, .junk), (8, .junk), (9, .junk), (10, .junk), (11, .junk), (12, .junk), (13, .junk), (14, .junk), (15, .junk)]), 0, cs, by kernel_rfl, H, by first | omega | (simp; omega) | simp, by first | omega | (simp; omega) | simp, by first | omega | (simp; omega) | simp, by first | omega | (simp; omega) | simp, by first | omega | (simp; omega) | simp, by first | omega | (simp; omega) | simp, rfl⟩ ?_
 clear H
 intro zz6446 lf st6446 hI6446 Q6446 hN6446 hE6446 hX6446
 obtain ⟨xs6446, v6453, cs6465, rfl, H, hi6446_0, hi6446_1, hi6446_2, hi6446_3, hi6446_5, hi6446_6, hz6446⟩ := hI6446
 refine wl_tail ?_
 refine wl_assoc ?_
 refine wl_assoc ?_
 refine wl_ops ?_
 refine wr_run 4 [(5, (.int (v6453))), (6, (.mx v n)), (7, (.int ((n : Int)))), (8, (.bool (decide ((v6453 : Int) < ((n : Int) : Int)))))] (by kernel_rfl) ?_
 refine wr_done ?_
 refine wl_cond (decide ((v6453 : Int) < ((n : Int) : Int))) (by kernel_rfl) (fun c6478 => ?_) (fun c6478 => ?_)
 ·skip
  have c6478' : (v6453 : Int) < (n : Int) := of_decide_eq_true c6478
  refine wl_skip_seq ?_
  refine wl_assoc ?_
  refine wl_block fun Q6479 hN6479 hE6479 hX6479 => ?_
  refine wl_tail ?_
  refine wl_ops ?_
  refine wr_run 3 [(11, (.fn 49 [] [])), (12, (.mx v n)), (13, (.int (v6453)))] (by kernel_rfl) ?_
  refine wr_iaddrx v n (by kernel_rfl) (v6453) (by kernel_rfl) (by omega) (by kernel_rfl) ?_
  refine wr_callv (.fn 49 [] []) (by kernel_rfl) [(.ptr v (0 + (v6453 : Int).toNat * 1))] (by kernel_rfl) (by kernel_rfl) ?_
  refine wf_L c49 rfl ?_
  refine wl_tail ?_
  refine wl_ops ?_
  refine wr_run 2 [(2, (.ptr v (0 + (v6453 : Int).toNat * 1))), (3, (.ptr v (0 + (v6453 : Int).toNat * 1)))] (by kernel_rfl) ?_
  refine wr_storex H 0 v (0 + (v6453 : Int).toNat * 1) cs6465 false rfl (by kernel_rfl) (.int (-77)) (by kernel_rfl) (by kernel_rfl) (by kernel_rfl) (by kernel_rfl) (by omega) (by kernel_rfl) fun st6482 cs6483 hcs6483 H => ?_
  refine wr_done ?_
  refine wl_skip ?_
  refine post_i (Or.inl rfl) (.tup []) (by kernel_rfl) ?_
  refine wr_done ?_
  refine wl_skip ?_
  refine hN6479 _ _ ?_
  refine wl_ops ?_
  refine wr_run 1 [(9, (.int (v6453)))] (by kernel_rfl) ?_
  refine wr_bin (.int (v6453)) (.int (1)) (.int (v6453 + 1)) (by kernel_rfl) (by kernel_rfl) (add64e _ (by unfold I64; omega)) (by kernel_rfl) ?_
  refine wr_run 1 [(4, (.int (v6453 + 1)))] (by kernel_rfl) ?_
  refine wr_done ?_
  refine wl_skip ?_
  refine hN6446 _ _ _ ⟨(LX [(5, (.int (v6453))), (6, (.mx v n)), (7, (.int ((n : Int)))), (8, (.bool (decide ((v6453 : Int) < ((n : Int) : Int))))), (9, (.int (v6453))), (10, (.int (v6453 + 1))), (11, (.fn 49 [] [])), (12, (.mx v n)), (13, (.int (v6453))), (14, (.ptr v (0 + (v6453 : Int).toNat * 1))), (15, (.tup []))]), v6453 + 1, cs6483, by kernel_rfl, H, by first | omega | (simp; omega) | simp, by first | omega | (simp; omega) | simp, by first | omega | (simp; omega) | simp, by first | omega | (simp; omega) | simp, by first | omega | (simp; omega) | simp, by first | omega | (simp; omega) | simp, rfl⟩ (by first | omega | (simp only; omega))
 ·skip
  have c6478' : ¬ ((v6453 : Int) < (n : Int)) := of_decide_eq_false c6478
  refine wl_exit ?_
  refine hE6446 _ _ ?_
  refine wl_skip ?_
  refine post_i (Or.inl rfl) (.tup []) (by kernel_rfl) ?_
  refine wr_done ?_
  refine wl_skip ?_
  refine post_i (Or.inl rfl) (.tup []) (by kernel_rfl) ?_
  refine wr_done ?_
  refine wl_skip ?_
  refine post_i (Or.inl rfl) (.tup []) (by kernel_rfl) ?_
  exact ⟨cs6465, rfl, H.eff _ (List.forall_mem_cons.2 ⟨(fun _ => Or.inl (by simp)), (List.forall_mem_cons.2 ⟨(fun _ => Or.inr hc_c), (by simp)⟩)⟩) (List.forall_mem_cons.2 ⟨⟨_, List.mem_of_getElem? (i := 0) rfl, rfl, rfl⟩, (by simp)⟩)⟩

set_option maxHeartbeats 4000000 in
theorem wipe7_0 (c : Nat) (st : St) (hc_c : st.get c = some (.cells [(lst .any encI ([] : List Int))])) : WF Try.prog 30 [(.ptr c 0)] st fun r st' => r = (.tup []) ∧ Ext st st' := by
 refine wf_L c30 rfl ?_
 have H : SP st [⟨c, .cells [(lst .any encI ([] : List Int))], false⟩] [] st := SP.startm _ (List.forall_mem_cons.2 ⟨⟨hc_c, rfl⟩, (by simp)⟩) (by simp)
 refine wl_tail ?_
 refine wl_ops ?_
 refine wr_call [(.ptr c 0)] (by kernel_rfl) (by kernel_rfl) ?_
 refine wf_L c15 rfl ?_
 refine wl_tail ?_
 refine wl_ops ?_
 refine wr_run 2 [(2, (.ptr c 0)), (3, (.ptr c 0))] (by kernel_rfl) ?_
 refine wr_load H 0 c 0 _ false rfl (by kernel_rfl) (lst .any encI ([] : List Int)) (by kernel_rfl) (by kernel_rfl) ?_
 refine wr_call [(lst .any encI ([] : List Int)), (.fn 49 [] [])] (by kernel_rfl) (by kernel_rfl) ?_
 refine wf_L c48 rfl ?_
 refine wl_tail ?_
 refine wl_assoc ?_
 refine wl_ops ?_
 refine wr_run 1 [(4, (.int (0)))] (by kernel_rfl) ?_
 refine wr_done ?_
 refine wl_loop (σ := Nat) (fun (zz : Nat) (lf : List AV) (st' : St) => lf = [(lst .any encI ([] : List Int)), (.fn 49 [] []), .junk, .junk, (.int (0)), .junk, .junk, .junk, .junk, .junk, .junk, .junk, .junk, .junk, .junk, .junk] ∧ SP st [⟨c, .cells [(lst .any encI ([] : List Int))], false⟩] [] st' ∧ zz = 0) (fun z => z) _ ⟨by kernel_rfl, H, rfl⟩ ?_
 clear H
 intro zz6496 lf st6496 hI6496 Q6496 hN6496 hE6496 hX6496
 obtain ⟨rfl, H, hz6496⟩ := hI6496
 refine wl_tail ?_
 refine wl_assoc ?_
 refine wl_assoc ?_
 refine wl_ops ?_
 refine wr_run 4 [(5, (.int (0))), (6, (lst .any encI ([] : List Int))), (7, (.int (0))), (8, (.bool (false)))] (by kernel_rfl) ?_
 refine wr_done ?_
 refine wl_cond false (by kernel_rfl) (fun c6499 => by cases c6499) (fun c6499 => ?_)
 clear c6499
 refine wl_exit ?_
 refine hE6496 _ _ ?_
 refine wl_skip ?_
 refine post_i (Or.inl rfl) (.tup []) (by kernel_rfl) ?_
 refine wr_done ?_
 refine wl_skip ?_
 refine post_i (Or.inl rfl) (.tup []) (by kernel_rfl) ?_
 refine wr_done ?_
 refine wl_skip ?_
 refine post_i (Or.inl rfl) (.tup []) (by kernel_rfl) ?_
 exact ⟨rfl, H.ext' (List.forall_mem_cons.2 ⟨(fun _ => hc_c), (by simp)⟩)⟩

set_option maxHeartbeats 4000000 in
theorem wipe7_1 (v : Nat) (c : Nat) (cs : List AV) (n : Nat) (st : St) (hc_v : st.get v = some (.vec cs)) (hc_c : st.get c = some (.cells [(.mx v n)])) (hnd : [v, c].Nodup) (hn : (cs.length : Int) = (n : Int) ∧ (n : Int) ≤ 4503599627370496) : WF Try.prog 30 [(.ptr c 0)] st fun r st' => ∃ (cs6500 : List AV), r = (.tup []) ∧ Eff [(v, .vec cs6500)] st st' := by
 refine wf_L c30 rfl ?_
 have H : SP st [⟨v, .vec cs, false⟩, ⟨c, .cells [(.mx v n)], false⟩] [] st := SP.startm _ (List.forall_mem_cons.2 ⟨⟨hc_v, rfl⟩, (List.forall_mem_cons.2 ⟨⟨hc_c, rfl⟩, (by simp)⟩)⟩) hnd
 refine wl_tail ?_
 refine wl_ops ?_
 refine wr_call [(.ptr c 0)] (by kernel_rfl) (by kernel_rfl) ?_
 refine wf_L c15 rfl ?_
 refine wl_tail ?_
 refine wl_ops ?_
 refine wr_run 2 [(2, (.ptr c 0)), (3, (.ptr c 0))] (by kernel_rfl) ?_
 refine wr_load H 1 c 0 _ false rfl (by kernel_rfl) (.mx v n) (by kernel_rfl) (by kernel_rfl) ?_
 refine wr_call [(.mx v n), (.fn 49 [] [])] (by kernel_rfl) (by kernel_rfl) ?_
 refine wf_L c48 rfl ?_
 refine wl_tail ?_
 refine wl_assoc ?_
 refine wl_ops ?_
 refine wr_run 1 [(4, (.int (0)))] (by kernel_rfl) ?_
 refine wr_done ?_
 refine wl_loop (σ := Nat) (fun (zz : Nat) (lf : List AV) (st' : St) => ∃ (xs6615 : Nat → AV) (v6622 : Int) (cs6634 : List AV), lf = [(.mx v n), (.fn 49 [] []), .junk, .junk, (.int (v6622)), (xs6615 5), (xs6615 6), (xs6615 7), (xs6615 8), (xs6615 9), (xs6615 10), (xs6615 11), (xs6615 12), (xs6615 13), (xs6615 14), (xs6615 15)] ∧ SP st [⟨v, .vec cs6634, false⟩, ⟨c, .cells [(.mx v n)], false⟩] [] st' ∧ (0 ≤ v6622) ∧ (0 ≤ v6622) ∧ (-1 ≤ v6622) ∧ (-9223372036854775808 ≤ v6622 ∧ v6622 ≤ 9223372036854775807) ∧ (v6622 ≤ (n : Int)) ∧ ((cs6634.length : Int) = (cs.length : Int)) ∧ zz = (-v6622 + 9223372036854775808).toNat) (fun z => z) _ ⟨(LX [(5, .junk), (6, .junk), (7, .junk), (8, .junk), (9, .junk), (10, .junk), (11, .junk), (12, .junk), (13, .junk), (14, .junk), (15, .junk)]), 0, cs, by kernel_rfl, H, by first | omega | (simp; omega) | simp, by first | omega | (simp; omega) | simp, by first | omega | (simp; omega) | simp, by first | omega | (simp; omega) | simp, by first | omega | (simp; omega) | simp, by first | omega | (simp; omega) | simp, rfl⟩ ?_
 clear H
 intro zz6615 lf st6615 hI6615 Q6615 hN6615 hE6615 hX6615
 obtain ⟨xs6615, v6622, cs6634, rfl, H, hi6615_0, hi6615_1, hi6615_2, hi6615_3, hi6615_5, hi6615_6, hz6615⟩ := hI6615
 refine wl_tail ?_
 refine wl_assoc ?_
 refine wl_assoc ?_
 refine wl_ops ?_
 refine wr_run 4 [(5, (.int (v6622))), (6, (.mx v n)), (7, (.int ((n : Int)))), (8, (.bool (decide ((v6622 : Int) < ((n : Int) : Int)))))] (by kernel_rfl) ?_
 refine wr_done ?_
 refine wl_cond (decide ((v6622 : Int) < ((n : Int) : Int))) (by kernel_rfl) (fun c6647 => ?_) (fun c6647 => ?_)
 ·skip
  have c6647' : (v6622 : Int) < (n : Int) := of_decide_eq_true c6647
  refine wl_skip_seq ?_
  refine wl_assoc ?_
  refine wl_block fun Q6648 hN6648 hE6648 hX6648 => ?_
  refine wl_tail ?_
  refine wl_ops ?_
  refine wr_run 3 [(11, (.fn 49 [] [])), (12, (.mx v n)), (13, (.int (v6622)))] (by kernel_rfl) ?_
  refine wr_iaddrx v n (by kernel_rfl) (v6622) (by kernel_rfl) (by omega) (by kernel_rfl) ?_
  refine wr_callv (.fn 49 [] []) (by kernel_rfl) [(.ptr v (0 + (v6622 : Int).toNat * 1))] (by kernel_rfl) (by kernel_rfl) ?_
  refine wf_L c49 rfl ?_
  refine wl_tail ?_
  refine wl_ops ?_
  refine wr_run 2 [(2, (.ptr v (0 + (v6622 : Int).toNat * 1))), (3, (.ptr v (0 + (v6622 : Int).toNat * 1)))] (by kernel_rfl) ?_
  refine wr_storex H 0 v (0 + (v6622 : Int).toNat * 1) cs6634 false rfl (by kernel_rfl) (.int (-77)) (by kernel_rfl) (by kernel_rfl) (by kernel_rfl) (by kernel_rfl) (by omega) (by kernel_rfl) fun st6651 cs6652 hcs6652 H => ?_
  refine wr_done ?_
  refine wl_skip ?_
  refine post_i (Or.inl rfl) (.tup []) (by kernel_rfl) ?_
  refine wr_done ?_
  refine wl_skip ?_
  refine hN6648 _ _ ?_
  refine wl_ops ?_
  refine wr_run 1 [(9, (.int (v6622)))] (by kernel_rfl) ?_
  refine wr_bin (.int (v6622)) (.int (1)) (.int (v6622 + 1)) (by kernel_rfl) (by kernel_rfl) (add64e _ (by unfold I64; omega)) (by kernel_rfl) ?_
  refine wr_run 1 [(4, (.int (v6622 + 1)))] (by kernel_rfl) ?_
  refine wr_done ?_
  refine wl_skip ?_
  refine hN6615 _ _ _ ⟨(LX [(5, (.int (v6622))), (6, (.mx v n)), (7, (.int ((n : Int)))), (8, (.bool (decide ((v6622 : Int) < ((n : Int) : Int))))), (9, (.int (v6622))), (10, (.int (v6622 + 1))), (11, (.fn 49 [] [])), (12, (.mx v n)), (13, (.int (v6622))), (14, (.ptr v (0 + (v6622 : Int).toNat * 1))), (15, (.tup []))]), v6622 + 1, cs6652, by kernel_rfl, H, by first | omega | (simp; omega) | simp, by first | omega | (simp; omega) | simp, by first | omega | (simp; omega) | simp, by first | omega | (simp; omega) | simp, by first | omega | (simp; omega) | simp, by first | omega | (simp; omega) | simp, rfl⟩ (by first | omega | (simp only; omega))
 ·skip
  have c6647' : ¬ ((v6622 : Int) < (n : Int)) := of_decide_eq_false c6647
  refine wl_exit ?_
  refine hE6615 _ _ ?_
  refine wl_skip ?_
  refine post_i (Or.inl rfl) (.tup []) (by kernel_rfl) ?_
  refine wr_done ?_
  refine wl_skip ?_
  refine post_i (Or.inl rfl) (.tup []) (by kernel_rfl) ?_
  refine wr_done ?_
  refine wl_skip ?_
  refine post_i (Or.inl rfl) (.tup []) (by kernel_rfl) ?_
  exact ⟨cs6634, rfl, H.eff _ (List.forall_mem_cons.2 ⟨(fun _ => Or.inl (by simp)), (List.forall_mem_cons.2 ⟨(fun _ => Or.inr hc_c), (by simp)⟩)⟩) (List.forall_mem_cons.2 ⟨⟨_, List.mem_of_getElem? (i := 0) rfl, rfl, rfl⟩, (by simp)⟩)⟩

set_option maxHeartbeats 4000000 in
theorem wipe8_0 (c : Nat) (st : St) (hc_c : st.get c = some (.cells [(lst .any encI ([] : List Int))])) : WF Try.prog 33 [(.ptr c 0)] st fun r st' => r = (.tup []) ∧ Ext st st' := by
 refine wf_L c33 rfl ?_
 have H : SP st [⟨c, .cells [(lst .any encI ([] : List Int))], false⟩] [] st := SP.startm _ (List.forall_mem_cons.2 ⟨⟨hc_c, rfl⟩, (by simp)⟩) (by simp)
 refine wl_tail ?_
 refine wl_ops ?_
 refine wr_call [(.ptr c 0)] (by kernel_rfl) (by kernel_rfl) ?_
 refine wf_L c15 rfl ?_
 refine wl_tail ?_
 refine wl_ops ?_
 refine wr_run 2 [(2, (.ptr c 0)), (3, (.ptr c 0))] (by kernel_rfl) ?_
 refine wr_load H 0 c 0 _ false rfl (by kernel_rfl) (lst .any encI ([] : List Int)) (by kernel_rfl) (by kernel_rfl) ?_
 refine wr_call [(lst .any encI ([] : List Int)), (.fn 49 [] [])] (by kernel_rfl) (by kernel_rfl) ?_
 refine wf_L c48 rfl ?_
 refine wl_tail ?_
 refine wl_assoc ?_
 refine wl_ops ?_
 refine wr_run 1 [(4, (.int (0)))] (by kernel_rfl) ?_
 refine wr_done ?_
 refine wl_loop (σ := Nat) (fun (zz : Nat) (lf : List AV) (st' : St) => lf = [(lst .any encI ([] : List Int)), (.fn 49 [] []), .junk, .junk, (.int (0)), .junk, .junk, .junk, .junk, .junk, .junk, .junk, .junk, .junk, .junk, .junk] ∧ SP st [⟨c, .cells [(lst .any encI ([] : List Int))], false⟩] [] st' ∧ zz = 0) (fun z => z) _ ⟨by kernel_rfl, H, rfl⟩ ?_
 clear H
 intro zz6665 lf st6665 hI6665 Q6665 hN6665 hE6665 hX6665
 obtain ⟨rfl, H, hz6665⟩ := hI6665
 refine wl_tail ?_
 refine wl_assoc ?_
 refine wl_assoc ?_
 refine wl_ops ?_
 refine wr_run 4 [(5, (.int (0))), (6, (lst .any encI ([] : List Int))), (7, (.int (0))), (8, (.bool (false)))] (by kernel_rfl) ?_
 refine wr_done ?_
 refine wl_cond false (by kernel_rfl) (fun c6668 => by cases c6668) (fun c6668 => ?_)
 clear c6668
 refine wl_exit ?_
 refine hE6665 _ _ ?_
 refine wl_skip ?_
 refine post_i (Or.inl rfl) (.tup []) (by kernel_rfl) ?_
 refine wr_done ?_
 refine wl_skip ?_
 refine post_i (Or.inl rfl) (.tup []) (by kernel_rfl) ?_
 refine wr_done ?_
 refine wl_skip ?_
 refine post_i (Or.inl rfl) (.tup []) (by kernel_rfl) ?_
 exact ⟨rfl, H.ext' (List.forall_mem_cons.2 ⟨(fun _ => hc_c), (by simp)⟩)⟩

set_option maxHeartbeats 4000000 in
theorem wipe8_1 (v : Nat) (c : Nat) (cs : List AV) (n : Nat) (st : St) (hc_v : st.get v = some (.vec cs)) (hc_c : st.get c = some (.cells [(.mx v n)])) (hnd : [v, c].Nodup) (hn : (cs.length : Int) = (n : Int) ∧ (n : Int) ≤ 4503599627370496) : WF Try.prog 33 [(.ptr c 0)] st fun r st' => ∃ (cs6669 : List AV), r = (.tup []) ∧ Eff [(v, .vec cs6669)] st st' := by
 refine wf_L c33 rfl ?_
 have H : SP st [⟨v, .vec cs, false⟩, ⟨c, .cells [(.mx v n)], false⟩] [] st := SP.startm _ (List.forall_mem_cons.2 ⟨⟨hc_v, rfl⟩, (List.forall_mem_cons.2 ⟨⟨hc_c, rfl⟩, (by simp)⟩)⟩) hnd
 refine wl_tail ?_
 refine wl_ops ?_
 refine wr_call [(.ptr c 0)] (by kernel_rfl) (by kernel_rfl) ?_
 refine wf_L c15 rfl ?_
 refine wl_tail ?_
 refine wl_ops ?_
 refine wr_run 2 [(2, (.ptr c 0)), (3, (.ptr c 0))] (by kernel_rfl) ?_
 refine wr_load H 1 c 0 _ false rfl (by kernel_rfl) (.mx v n) (by kernel_rfl) (by kernel_rfl) ?_
 refine wr_call [(.mx v n), (.fn 49 [] [])] (by kernel_rfl) (by kernel_rfl) ?_
 refine wf_L c48 rfl ?_
 refine wl_tail ?_
 refine wl_assoc ?_
 refine wl_ops ?_
 refine wr_run 1 [(4, (.int (0)))] (by kernel_rfl) ?_
 refine wr_done ?_
 refine wl_loop (σ := Nat) (fun (zz : Nat) (lf : List AV) (st' : St) => ∃ (xs6784 : Nat → AV) (v6791 : Int) (cs6803 : List AV), lf = [(.mx v n), (.fn 49 [] []), .junk, .junk, (.int (v6791)), (xs6784 5), (xs6784 6), (xs6784 7), (xs6784 8), (xs6784 9), (xs6784 10), (xs6784 11), (xs6784 12), (xs6784 13), (xs6784 14), (xs6784 15)] ∧ SP st [⟨v, .vec cs6803, false⟩, ⟨c, .cells [(.mx v n)], false⟩] [] st' ∧ (0 ≤ v6791) ∧ (0 ≤ v6791) ∧ (-1 ≤ v6791) ∧ (-9223372036854775808 ≤ v6791 ∧ v6791 ≤ 9223372036854775807) ∧ (v6791 ≤ (n : Int)) ∧ ((cs6803.length : Int) = (cs.length : Int)) ∧ zz = (-v6791 + 9223372036854775808).toNat) (fun z => z) _ ⟨(LX [(5, .junk), (6, .junk), (7, .junk), (8, .junk), (9, .junk), (10, .junk), (11, .junk), (12, .junk), (13, .junk), (14, .junk), (15, .junk)]), 0, cs, by kernel_rfl, H, by first | omega | (simp; omega) | simp, by first | omega | (simp; omega) | simp, by first | omega | (simp; omega) | simp, by first | omega | (simp; omega) | simp, by first | omega | (simp; omega) | simp, by first | omega | (simp; omega) | simp, rfl⟩ ?_
 clear H
 intro zz6784 lf st6784 hI6784 Q6784 hN6784 hE6784 hX6784
 obtain ⟨xs6784, v6791, cs6803, rfl, H, hi6784_0, hi6784_1, hi6784_2, hi6784_3, hi6784_5, hi6784_6, hz6784⟩ := hI6784
 refine wl_tail ?_
 refine wl_assoc ?_
 refine wl_assoc ?_
 refine wl_ops ?_
 refine wr_run 4 [(5, (.int (v6791))), (6, (.mx v n)), (7, (.int ((n : Int)))), (8, (.bool (decide ((v6791 : Int) < ((n : Int) : Int)))))] (by kernel_rfl) ?_
 refine wr_done ?_
 refine wl_cond (decide ((v6791 : Int) < ((n : Int) : Int))) (by kernel_rfl) (fun c6816 => ?_) (fun c6816 => ?_)
 ·skip
  have c6816' : (v6791 : Int) < (n : Int) := of_decide_eq_true c6816
  refine wl_skip_seq ?_
  refine wl_assoc ?_
  refine wl_block fun Q6817 hN6817 hE6817 hX6817 => ?_
  refine wl_tail ?_
  refine wl_ops ?_
  refine wr_run 3 [(11, (.fn 49 [] [])), (12, (.mx v n)), (13, (.int (v6791)))] (by kernel_rfl) ?_
  refine wr_iaddrx v n (by kernel_rfl) (v6791) (by kernel_rfl) (by omega) (by kernel_rfl) ?_
  refine wr_callv (.fn 49 [] []) (by kernel_rfl) [(.ptr v (0 + (v6791 : Int).toNat * 1))] (by kernel_rfl) (by kernel_rfl) ?_
  refine wf_L c49 rfl ?_
  refine wl_tail ?_
  refine wl_ops ?_
  refine wr_run 2 [(2, (.ptr v (0 + (v6791 : Int).toNat * 1))), (3, (.ptr v (0 + (v6791 : Int).toNat * 1)))] (by kernel_rfl) ?_
  refine wr_storex H 0 v (0 + (v6791 : Int).toNat * 1) cs6803 false rfl (by kernel_rfl) (.int (-77)) (by kernel_rfl) (by kernel_rfl) (by kernel_rfl) (by kernel_rfl) (by omega) (by kernel_rfl) fun st6820 cs6821 hcs6821 H => ?_
  refine wr_done ?_
  refine wl_skip ?_
  refine post_i (Or.inl rfl) (.tup []) (by kernel_rfl) ?_
  refine wr_done ?_
  refine wl_skip ?_
  refine hN6817 _ _ ?_
  refine wl_ops ?_
  refine wr_run 1 [(9, (.int (v6791)))] (by kernel_rfl) ?_
  refine wr_bin (.int (v6791)) (.int (1)) (.int (v6791 + 1)) (by kernel_rfl) (by kernel_rfl) (add64e _ (by unfold I64; omega)) (by kernel_rfl) ?_
  refine wr_run 1 [(4, (.int (v6791 + 1)))] (by kernel_rfl) ?_
  refine wr_done ?_
  refine wl_skip ?_
  refine hN6784 _ _ _ ⟨(LX [(5, (.int (v6791))), (6, (.mx v n)), (7, (.int ((n : Int)))), (8, (.bool (decide ((v6791 : Int) < ((n : Int) : Int))))), (9, (.int (v6791))), (10, (.int (v6791 + 1))), (11, (.fn 49 [] [])), (12, (.mx v n)), (13, (.int (v6791))), (14, (.ptr v (0 + (v6791 : Int).toNat * 1))), (15, (.tup []))]), v6791 + 1, cs6821, by kernel_rfl, H, by first | omega | (simp; omega) | simp, by first | omega | (simp; omega) | simp, by first | omega | (simp; omega) | simp, by first | omega | (simp; omega) | simp, by first | omega | (simp; omega) | simp, by first | omega | (simp; omega) | simp, rfl⟩ (by first | omega | (simp only; omega))
 ·skip
  have c6816' : ¬ ((v6791 : Int) < (n : Int)) := of_decide_eq_false c6816
  refine wl_exit ?_
  refine hE6784 _ _ ?_
  refine wl_skip ?_
  refine post_i (Or.inl rfl) (.tup []) (by kernel_rfl) ?_
  refine wr_done ?_
  refine wl_skip ?_
  refine post_i (Or.inl rfl) (.tup []) (by kernel_rfl) ?_
  refine wr_done ?_
  refine wl_skip ?_
  refine post_i (Or.inl rfl) (.tup []) (by kernel_rfl) ?_
  exact ⟨cs6803, rfl, H.eff _ (List.forall_mem_cons.2 ⟨(fun _ => Or.inl (by simp)), (List.forall_mem_cons.2 ⟨(fun _ => Or.inr hc_c), (by simp)⟩)⟩) (List.forall_mem_cons.2 ⟨⟨_, List.mem_of_getElem? (i := 0) rfl, rfl, rfl⟩, (by simp)⟩)⟩

set_option maxHeartbeats 4000000 in
theorem nothing_ok  (st : St)  : WF Try.prog 10 [] st fun r st' => r = (.tup []) ∧ Ext st st' := by
 refine wf_L c10 rfl ?_
 have H := SP.start st
 refine wl_tail ?_
 refine wl_skip_seq ?_
 refine wl_skip ?_
 refine post_i (Or.inl rfl) (.tup []) (by kernel_rfl) ?_
 exact ⟨rfl, H.ext rfl⟩

set_option maxHeartbeats 4000000 in
theorem again_ok (cl : AV) (xb : Nat) (xs : List AV) (N : List Int) (Z : List ByteArray) (st : St) (hc_xb : st.get xb = some (.cells xs)) (hcl : Anew Try.prog cl xb xs N Z) (hN : (N.length : Int) ≤ 4503599627370496) (hZ : (Z.length : Int) ≤ 4503599627370496) : WF Try.prog 5 [cl] st fun r st' => r = (.bool (true)) ∧ Ext st st' := by
 refine wf_L c5 rfl ?_
 have H : SP st [⟨xb, .cells xs, false⟩] [] st := SP.startm _ (List.forall_mem_cons.2 ⟨⟨hc_xb, rfl⟩, (by simp)⟩) (by simp)
 refine wl_tail ?_
 refine wl_assoc ?_
 refine wl_ops ?_
 refine wr_run 1 [(2, (.bool (false)))] (by kernel_rfl) ?_
 refine wr_done ?_
 refine wl_assoc ?_
 refine wl_ops ?_
 refine wr_alloc H (by kernel_rfl) fun a6822 st6823 H => ?_
 refine wr_alloc H (by kernel_rfl) fun a6824 st6825 H => ?_
 refine wr_done ?_
 refine wl_assoc ?_
 refine wl_ops ?_
 refine wr_run 1 [(6, cl)] (by kernel_rfl) ?_
 have hlt6826 : ∀ a ∈ [a6824, a6822, xb], a < _ := (List.forall_mem_cons.2 ⟨St.lt_of_get (H.fact 0 rfl), (List.forall_mem_cons.2 ⟨St.lt_of_get (H.fact 1 rfl), (List.forall_mem_cons.2 ⟨St.lt_of_get (H.fact 2 rfl), (by simp)⟩)⟩)⟩)
 have hbs6826 := H.next
 refine wr_callv cl (by kernel_rfl) [(.ptr a6822 0)] (by kernel_rfl) (by kernel_rfl) (WV.mono (hcl _ a6822 (H.fact 1 rfl) (H.ne 2 1 rfl rfl (by decide)) (H.fact 2 rfl)) ?_)
 rintro r6827 st6828 ⟨E6829, W6830⟩
 replace H := H.eff1 1 rfl rfl (.cells [(lst .any encI N), (lst .any encS Z)]) E6829
 refine wr_run 1 [(5, r6827)] (by kernel_rfl) ?_
 refine wr_done ?_
 refine wl_assoc ?_
 refine wl_ops ?_
 refine wr_run 1 [(8, r6827)] (by kernel_rfl) ?_
 refine wr_callv r6827 (by kernel_rfl) [] (by kernel_rfl) (by kernel_rfl) (WV.mono W6830 ?_)
 rintro r6831 st6832 ⟨hn6833, hk6834⟩
 replace H := H.wiped _ hbs6826 (fun c hc => hlt6826 c.a (List.mem_map.2 ⟨c, hc, rfl⟩)) hn6833 hk6834
 refine wr_done ?_
 refine wl_assoc ?_
 refine wl_ops ?_
 refine wr_run 1 [(10, cl)] (by kernel_rfl) ?_
 have hlt6835 : ∀ a ∈ [a6824, a6822, xb], a < _ := (List.forall_mem_cons.2 ⟨St.lt_of_get (H.fact 0 rfl), (List.forall_mem_cons.2 ⟨St.lt_of_get (H.fact 1 rfl), (List.forall_mem_cons.2 ⟨St.lt_of_get (H.fact 2 rfl), (by simp)⟩)⟩)⟩)
 have hbs6835 := H.next
 refine wr_callv cl (by kernel_rfl) [(.ptr a6824 0)] (by kernel_rfl) (by kernel_rfl) (WV.mono (hcl _ a6824 (H.fact 0 rfl) (H.ne 2 0 rfl rfl (by decide)) (H.fact 2 rfl)) ?_)
 rintro r6836 st6837 ⟨E6838, W6839⟩
 replace H := H.eff1 0 rfl rfl (.cells [(lst .any encI N), (lst .any encS Z)]) E6838
 refine wr_done ?_
 refine wl_assoc ?_
 refine wl_ops ?_
 refine wr_load H 1 a6822 0 _ true rfl (by kernel_rfl) (.agg [(lst .any encI N), (lst .any encS Z)]) (by kernel_rfl) (by kernel_rfl) ?_
 refine wr_load H 0 a6824 0 _ true rfl (by kernel_rfl) (.agg [(lst .any encI N), (lst .any encS Z)]) (by kernel_rfl) (by kernel_rfl) ?_
 refine wr_call [(.agg [(lst .any encI N), (lst .any encS Z)]), (.agg [(lst .any encI N), (lst .any encS Z)])] (by kernel_rfl) (by kernel_rfl) (WF.mono (same_ok .any .any .any .any N Z _ (by omega) (by omega)) ?_)
 rintro r6840 st6841 ⟨rfl, E6842⟩
 replace H := H.then E6842
 refine wr_run 1 [(2, (.bool (true)))] (by kernel_rfl) ?_
 refine wr_done ?_
 refine wl_ret ?_
 refine post_i (Or.inr rfl) (.bool (true)) (by kernel_rfl) ?_
 exact ⟨rfl, H.ext' (List.forall_mem_cons.2 ⟨(fun e => nomatch e), (List.forall_mem_cons.2 ⟨(fun e => nomatch e), (List.forall_mem_cons.2 ⟨(fun _ => hc_xb), (by simp)⟩)⟩)⟩)⟩

set_option maxHeartbeats 4000000 in
theorem top_ok (x : AnewChest) (st : St) (haw : WF Try.prog 35 [] ⟨[]⟩ fun r _ => r = .bool true) (hp : (x.Chest.People.length : Int) ≤ 1048576) (hc : (x.Chest.Copies.length : Int) ≤ 1048576) (hr : (x.Chest.Rules.length : Int) ≤ 1048576) (hw : (x.Words.length : Int) ≤ 1048576) (hq : (x.Copies.length : Int) ≤ 1048576) : WF Try.prog 3 [(.agg [(.int (x.Chest.Words)), (.int (x.Chest.Facts)), (lst .any encS x.Chest.People), (.int (x.Chest.Last)), (lst .any encCopy x.Chest.Copies), (lst .any encRule x.Chest.Rules), (.int (x.Person)), (lst .any encI x.Words), (lst .any encI x.Copies), (.int (x.Number)), (.int (x.Fact))])] st fun r st' => r = (.bool (true)) ∧ Ext st st' := by
 refine wf_L c3 rfl ?_
 have hfr : frees [(.int (x.Chest.Words)), (.int (x.Chest.Facts)), (lst .any encS x.Chest.People), (.int (x.Chest.Last)), (lst .any encCopy x.Chest.Copies), (lst .any encRule x.Chest.Rules), (.int (x.Person)), (lst .any encI x.Words), (lst .any encI x.Copies), (.int (x.Number)), (.int (x.Fact))] = true := by simp only [frees, AV.free, frees_I, frees_S, frees_flat (enc := encCopy) (fun _ => rfl), frees_flat (enc := encRule) (fun _ => rfl), Bool.and_true]
 obtain ⟨rA, stA, ⟨oA, NA, uA, ZA, rfl, hgA, huA, hNA, hZA, hEA⟩, hcsA⟩ := all_ok x 0 stC rfl hp hc hr hw hq
 have hall : ∀ s h, s.get h = some (.cells hnil) → WF Try.prog 4 [(.agg [(.int (x.Chest.Words)), (.int (x.Chest.Facts)), (lst .any encS x.Chest.People), (.int (x.Chest.Last)), (lst .any encCopy x.Chest.Copies), (lst .any encRule x.Chest.Rules), (.int (x.Person)), (lst .any encI x.Words), (lst .any encI x.Copies), (.int (x.Number)), (.int (x.Fact))]), .ptr h 0] s fun r s' => r = .tup [] ∧ Eff [(h, .cells [lst .any encI NA, lst .any encS ZA])] s s' := fun s h hh => all_again (by simpa [AV.free] using hfr) rfl hcsA (hEA.now _ (List.mem_cons_self ..)) (okl_of hgA.1 hgA.2) (okl_of huA.1 huA.2) s h hh
 obtain ⟨r1, st1, ⟨o1, N1, u1, Z1, rfl, hg1, hu1, hN1, hZ1, hE1⟩, hcs1⟩ := clos1 x 0 stC rfl hp hc hr hw hq
 have an1 : ∀ xb, Anew Try.prog (.fn 6 [] [.ptr xb 0]) xb [(.int (x.Chest.Words)), (.int (x.Chest.Facts)), (lst .any encS x.Chest.People), (.int (x.Chest.Last)), (lst .any encCopy x.Chest.Copies), (lst .any encRule x.Chest.Rules), (.int (x.Person)), (lst .any encI x.Words), (lst .any encI x.Copies), (.int (x.Number)), (.int (x.Fact))] N1 Z1 := fun xb => anew0 hfr hcs1 (hE1.now _ (List.mem_cons_self ..)) (okl_of hg1.1 hg1.2) (okl_of hu1.1 hu1.2) (fun s => (nothing_ok s).mono fun _ _ h => h.2)
 obtain ⟨r2, st2, ⟨o2, N2, u2, Z2, v2, l2, c2, rfl, hg2, hu2, hN2, hZ2, hl2, hv2, ap2, aq2, hW2, hE2⟩, hcs2⟩ := clos2 x 0 stC rfl hp hc hr hw hq
 have hc2 : c2 ≠ 0 := by have := hW2.ge _ (List.mem_cons_self ..); exact Nat.ne_of_gt this
 have an2 : ∀ xb, Anew Try.prog (.fn 11 [] [.ptr xb 0]) xb [(.int (x.Chest.Words)), (.int (x.Chest.Facts)), (lst .any encS x.Chest.People), (.int (x.Chest.Last)), (lst .any encCopy x.Chest.Copies), (lst .any encRule x.Chest.Rules), (.int (x.Person)), (lst .any encI x.Words), (lst .any encI x.Copies), (.int (x.Number)), (.int (x.Fact))] N2 Z2 := fun xb => anewI hfr hcs2 (hE2.now _ (List.mem_cons_self ..)) (okl_of hg2.1 hg2.2) (okl_of hu2.1 hu2.2) (hW2.now _ (List.mem_cons_self ..)) hc2 (okl_of hv2.1 hv2.2) ap2 aq2 (fun s c hc => (wipe2_0 c s hc).mono fun _ _ h => h.2)
  (fun s v c hne hv hc => (wipe2_1 v c (l2.flatMap encI) l2.length s hv hc (by simpa using hne) ⟨by rw [enc_len encI_len, Nat.mul_one], hl2⟩).mono fun _ _ h => by
   obtain ⟨q, _, hE⟩ := h
   exact ⟨hE.next, fun a ha hav => hE.get a ha (by simpa using Ne.symm hav)⟩)
 obtain ⟨r3, st3, ⟨o3, N3, u3, Z3, v3, l3, c3, rfl, hg3, hu3, hN3, hZ3, hl3, hv3, ap3, aq3, hW3, hE3⟩, hcs3⟩ := clos3 x 0 stC rfl hp hc hr hw hq
 have hc3 : c3 ≠ 0 := by have := hW3.ge _ (List.mem_cons_self ..); exact Nat.ne_of_gt this
 have an3 : ∀ xb, Anew Try.prog (.fn 16 [] [.ptr xb 0]) xb [(.int (x.Chest.Words)), (.int (x.Chest.Facts)), (lst .any encS x.Chest.People), (.int (x.Chest.Last)), (lst .any encCopy x.Chest.Copies), (lst .any encRule x.Chest.Rules), (.int (x.Person)), (lst .any encI x.Words), (lst .any encI x.Copies), (.int (x.Number)), (.int (x.Fact))] N3 Z3 := fun xb => anewI hfr hcs3 (hE3.now _ (List.mem_cons_self ..)) (okl_of hg3.1 hg3.2) (okl_of hu3.1 hu3.2) (hW3.now _ (List.mem_cons_self ..)) hc3 (okl_of hv3.1 hv3.2) ap3 aq3 (fun s c hc => (wipe3_0 c s hc).mono fun _ _ h => h.2)
  (fun s v c hne hv hc => (wipe3_1 v c (l3.flatMap encI) l3.length s hv hc (by simpa using hne) ⟨by rw [enc_len encI_len, Nat.mul_one], hl3⟩).mono fun _ _ h => by
   obtain ⟨q, _, hE⟩ := h
   exact ⟨hE.next, fun a ha hav => hE.get a ha (by simpa using Ne.symm hav)⟩)
 obtain ⟨r4, st4, ⟨o4, N4, u4, Z4, v4, l4, c4, rfl, hg4, hu4, hN4, hZ4, hl4, hv4, ap4, aq4, hW4, hE4⟩, hcs4⟩ := clos4 x 0 stC rfl hp hc hr hw hq
 have hc4 : c4 ≠ 0 := by have := hW4.ge _ (List.mem_cons_self ..); exact Nat.ne_of_gt this
 have an4 : ∀ xb, Anew Try.prog (.fn 19 [] [.ptr xb 0]) xb [(.int (x.Chest.Words)), (.int (x.Chest.Facts)), (lst .any encS x.Chest.People), (.int (x.Chest.Last)), (lst .any encCopy x.Chest.Copies), (lst .any encRule x.Chest.Rules), (.int (x.Person)), (lst .any encI x.Words), (lst .any encI x.Copies), (.int (x.Number)), (.int (x.Fact))] N4 Z4 := fun xb => anewI hfr hcs4 (hE4.now _ (List.mem_cons_self ..)) (okl_of hg4.1 hg4.2) (okl_of hu4.1 hu4.2) (hW4.now _ (List.mem_cons_self ..)) hc4 (okl_of hv4.1 hv4.2) ap4 aq4 (fun s c hc => (wipe4_0 c s hc).mono fun _ _ h => h.2)
  (fun s v c hne hv hc => (wipe4_1 v c (l4.flatMap encI) l4.length s hv hc (by simpa using hne) ⟨by rw [enc_len encI_len, Nat.mul_one], hl4⟩).mono fun _ _ h => by
   obtain ⟨q, _, hE⟩ := h
   exact ⟨hE.next, fun a ha hav => hE.get a ha (by simpa using Ne.symm hav)⟩)
 obtain ⟨r5, st5, ⟨o5, N5, u5, Z5, v5, l5, c5, rfl, hg5, hu5, hN5, hZ5, hl5, hv5, ap5, aq5, hW5, hE5⟩, hcs5⟩ := clos5 x 0 stC rfl hp hc hr hw hq
 have hc5 : c5 ≠ 0 := by have := hW5.ge _ (List.mem_cons_self ..); exact Nat.ne_of_gt this
 have an5 : ∀ xb, Anew Try.prog (.fn 22 [] [.ptr xb 0]) xb [(.int (x.Chest.Words)), (.int (x.Chest.Facts)), (lst .any encS x.Chest.People), (.int (x.Chest.Last)), (lst .any encCopy x.Chest.Copies), (lst .any encRule x.Chest.Rules), (.int (x.Person)), (lst .any encI x.Words), (lst .any encI x.Copies), (.int (x.Number)), (.int (x.Fact))] N5 Z5 := fun xb => anewI hfr hcs5 (hE5.now _ (List.mem_cons_self ..)) (okl_of hg5.1 hg5.2) (okl_of hu5.1 hu5.2) (hW5.now _ (List.mem_cons_self ..)) hc5 (okl_of hv5.1 hv5.2) ap5 aq5 (fun s c hc => (wipe5_0 c s hc).mono fun _ _ h => h.2)
  (fun s v c hne hv hc => (wipe5_1 v c (l5.flatMap encI) l5.length s hv hc (by simpa using hne) ⟨by rw [enc_len encI_len, Nat.mul_one], hl5⟩).mono fun _ _ h => by
   obtain ⟨q, _, hE⟩ := h
   exact ⟨hE.next, fun a ha hav => hE.get a ha (by simpa using Ne.symm hav)⟩)
 obtain ⟨r6, st6, ⟨o6, N6, u6, Z6, v6, l6, c6, rfl, hg6, hu6, hN6, hZ6, hl6, hv6, ap6, aq6, hW6, hE6⟩, hcs6⟩ := clos6 x 0 stC rfl hp hc hr hw hq
 have hc6 : c6 ≠ 0 := by have := hW6.ge _ (List.mem_cons_self ..); exact Nat.ne_of_gt this
 have an6 : ∀ xb, Anew Try.prog (.fn 25 [] [.ptr xb 0]) xb [(.int (x.Chest.Words)), (.int (x.Chest.Facts)), (lst .any encS x.Chest.People), (.int (x.Chest.Last)), (lst .any encCopy x.Chest.Copies), (lst .any encRule x.Chest.Rules), (.int (x.Person)), (lst .any encI x.Words), (lst .any encI x.Copies), (.int (x.Number)), (.int (x.Fact))] N6 Z6 := fun xb => anewI hfr hcs6 (hE6.now _ (List.mem_cons_self ..)) (okl_of hg6.1 hg6.2) (okl_of hu6.1 hu6.2) (hW6.now _ (List.mem_cons_self ..)) hc6 (okl_of hv6.1 hv6.2) ap6 aq6 (fun s c hc => (wipe6_0 c s hc).mono fun _ _ h => h.2)
  (fun s v c hne hv hc => (wipe6_1 v c (l6.flatMap encI) l6.length s hv hc (by simpa using hne) ⟨by rw [enc_len encI_len, Nat.mul_one], hl6⟩).mono fun _ _ h => by
   obtain ⟨q, _, hE⟩ := h
   exact ⟨hE.next, fun a ha hav => hE.get a ha (by simpa using Ne.symm hav)⟩)
 obtain ⟨r7, st7, ⟨o7, N7, u7, Z7, v7, l7, c7, rfl, hg7, hu7, hN7, hZ7, hl7, hv7, ap7, aq7, hW7, hE7⟩, hcs7⟩ := clos7 x 0 stC rfl hp hc hr hw hq
 have hc7 : c7 ≠ 0 := by have := hW7.ge _ (List.mem_cons_self ..); exact Nat.ne_of_gt this
 have an7 : ∀ xb, Anew Try.prog (.fn 28 [] [.ptr xb 0]) xb [(.int (x.Chest.Words)), (.int (x.Chest.Facts)), (lst .any encS x.Chest.People), (.int (x.Chest.Last)), (lst .any encCopy x.Chest.Copies), (lst .any encRule x.Chest.Rules), (.int (x.Person)), (lst .any encI x.Words), (lst .any encI x.Copies), (.int (x.Number)), (.int (x.Fact))] N7 Z7 := fun xb => anewI hfr hcs7 (hE7.now _ (List.mem_cons_self ..)) (okl_of hg7.1 hg7.2) (okl_of hu7.1 hu7.2) (hW7.now _ (List.mem_cons_self ..)) hc7 (okl_of hv7.1 hv7.2) ap7 aq7 (fun s c hc => (wipe7_0 c s hc).mono fun _ _ h => h.2)
  (fun s v c hne hv hc => (wipe7_1 v c (l7.flatMap encI) l7.length s hv hc (by simpa using hne) ⟨by rw [enc_len encI_len, Nat.mul_one], hl7⟩).mono fun _ _ h => by
   obtain ⟨q, _, hE⟩ := h
   exact ⟨hE.next, fun a ha hav => hE.get a ha (by simpa using Ne.symm hav)⟩)
 obtain ⟨r8, st8, ⟨o8, N8, u8, Z8, v8, l8, c8, rfl, hg8, hu8, hN8, hZ8, hl8, hv8, ap8, aq8, hW8, hE8⟩, hcs8⟩ := clos8 x 0 stC rfl hp hc hr hw hq
 have hc8 : c8 ≠ 0 := by have := hW8.ge _ (List.mem_cons_self ..); exact Nat.ne_of_gt this
 have an8 : ∀ xb, Anew Try.prog (.fn 31 [] [.ptr xb 0]) xb [(.int (x.Chest.Words)), (.int (x.Chest.Facts)), (lst .any encS x.Chest.People), (.int (x.Chest.Last)), (lst .any encCopy x.Chest.Copies), (lst .any encRule x.Chest.Rules), (.int (x.Person)), (lst .any encI x.Words), (lst .any encI x.Copies), (.int (x.Number)), (.int (x.Fact))] N8 Z8 := fun xb => anewI hfr hcs8 (hE8.now _ (List.mem_cons_self ..)) (okl_of hg8.1 hg8.2) (okl_of hu8.1 hu8.2) (hW8.now _ (List.mem_cons_self ..)) hc8 (okl_of hv8.1 hv8.2) ap8 aq8 (fun s c hc => (wipe8_0 c s hc).mono fun _ _ h => h.2)
  (fun s v c hne hv hc => (wipe8_1 v c (l8.flatMap encI) l8.length s hv hc (by simpa using hne) ⟨by rw [enc_len encI_len, Nat.mul_one], hl8⟩).mono fun _ _ h => by
   obtain ⟨q, _, hE⟩ := h
   exact ⟨hE.next, fun a ha hav => hE.get a ha (by simpa using Ne.symm hav)⟩)
 clear hgA huA hEA hcsA
 clear hg1 hu1 hE1 hcs1
 clear hg2 hu2 hE2 hcs2 hl2 hv2 ap2 aq2 hW2 hc2
 clear hg3 hu3 hE3 hcs3 hl3 hv3 ap3 aq3 hW3 hc3
 clear hg4 hu4 hE4 hcs4 hl4 hv4 ap4 aq4 hW4 hc4
 clear hg5 hu5 hE5 hcs5 hl5 hv5 ap5 aq5 hW5 hc5
 clear hg6 hu6 hE6 hcs6 hl6 hv6 ap6 aq6 hW6 hc6
 clear hg7 hu7 hE7 hcs7 hl7 hv7 ap7 aq7 hW7 hc7
 clear hg8 hu8 hE8 hcs8 hl8 hv8 ap8 aq8 hW8 hc8
 have H := SP.start st
 refine wl_tail ?_
 refine wl_assoc ?_
 refine wl_ops ?_
 refine wr_box (.agg [(.int (x.Chest.Words)), (.int (x.Chest.Facts)), (lst .any encS x.Chest.People), (.int (x.Chest.Last)), (lst .any encCopy x.Chest.Copies), (lst .any encRule x.Chest.Rules), (.int (x.Person)), (lst .any encI x.Words), (lst .any encI x.Copies), (.int (x.Number)), (.int (x.Fact))]) (by kernel_rfl) [(.int (x.Chest.Words)), (.int (x.Chest.Facts)), (lst .any encS x.Chest.People), (.int (x.Chest.Last)), (lst .any encCopy x.Chest.Copies), (lst .any encRule x.Chest.Rules), (.int (x.Person)), (lst .any encI x.Words), (lst .any encI x.Copies), (.int (x.Number)), (.int (x.Fact))] (by kernel_rfl) (by kernel_rfl) H (by kernel_rfl) fun a6844 st6845 H => ?_
 refine wr_run 1 [(2, (.bool (false)))] (by kernel_rfl) ?_
 refine wr_done ?_
 refine wl_assoc ?_
 refine wl_ops ?_
 refine wr_alloc H (by kernel_rfl) fun a6846 st6847 H => ?_
 refine wr_alloc H (by kernel_rfl) fun a6848 st6849 H => ?_
 refine wr_done ?_
 refine wl_assoc ?_
 refine wl_ops ?_
 refine wr_load H 2 a6844 0 _ true rfl (by kernel_rfl) (.agg [(.int (x.Chest.Words)), (.int (x.Chest.Facts)), (lst .any encS x.Chest.People), (.int (x.Chest.Last)), (lst .any encCopy x.Chest.Copies), (lst .any encRule x.Chest.Rules), (.int (x.Person)), (lst .any encI x.Words), (lst .any encI x.Copies), (.int (x.Number)), (.int (x.Fact))]) (by kernel_rfl) (by kernel_rfl) ?_
 refine wr_call [(.agg [(.int (x.Chest.Words)), (.int (x.Chest.Facts)), (lst .any encS x.Chest.People), (.int (x.Chest.Last)), (lst .any encCopy x.Chest.Copies), (lst .any encRule x.Chest.Rules), (.int (x.Person)), (lst .any encI x.Words), (lst .any encI x.Copies), (.int (x.Number)), (.int (x.Fact))]), (.ptr a6846 0)] (by kernel_rfl) (by kernel_rfl) (WF.mono (hall _ a6846 (H.fact 1 rfl)) ?_)
 rintro r6850 st6851 ⟨rfl, E6852⟩
 replace H := H.eff1 1 rfl rfl (.cells [(lst .any encI NA), (lst .any encS ZA)]) E6852
 refine wr_done ?_
 refine wl_assoc ?_
 refine wl_ops ?_
 refine wr_run 1 [(8, (.fn 6 [] [(.ptr a6844 0)]))] (by kernel_rfl) ?_
 refine wr_call [(.fn 6 [] [(.ptr a6844 0)])] (by kernel_rfl) (by kernel_rfl) (WF.mono (again_ok (.fn 6 [] [(.ptr a6844 0)]) a6844 [(.int (x.Chest.Words)), (.int (x.Chest.Facts)), (lst .any encS x.Chest.People), (.int (x.Chest.Last)), (lst .any encCopy x.Chest.Copies), (lst .any encRule x.Chest.Rules), (.int (x.Person)), (lst .any encI x.Words), (lst .any encI x.Copies), (.int (x.Number)), (.int (x.Fact))] N1 Z1 _ (H.fact 2 rfl) (an1 a6844) hN1 hZ1) ?_)
 rintro r6853 st6854 ⟨rfl, E6855⟩
 replace H := H.then E6855
 refine wr_run 2 [(10, (.bool (true))), (11, (.fn 11 [] [(.ptr a6844 0)]))] (by kernel_rfl) ?_
 refine wr_guard (by kernel_rfl) ?_
 refine wr_call [(.fn 11 [] [(.ptr a6844 0)])] (by kernel_rfl) (by kernel_rfl) (WF.mono (again_ok (.fn 11 [] [(.ptr a6844 0)]) a6844 [(.int (x.Chest.Words)), (.int (x.Chest.Facts)), (lst .any encS x.Chest.People), (.int (x.Chest.Last)), (lst .any encCopy x.Chest.Copies), (lst .any encRule x.Chest.Rules), (.int (x.Person)), (lst .any encI x.Words), (lst .any encI x.Copies), (.int (x.Number)), (.int (x.Fact))] N2 Z2 _ (H.fact 2 rfl) (an2 a6844) hN2 hZ2) ?_)
 rintro r6856 st6857 ⟨rfl, E6858⟩
 replace H := H.then E6858
 refine wr_run 3 [(13, (.bool (true))), (14, (.bool (true))), (15, (.fn 16 [] [(.ptr a6844 0)]))] (by kernel_rfl) ?_
 refine wr_guard (by kernel_rfl) ?_
 refine wr_call [(.fn 16 [] [(.ptr a6844 0)])] (by kernel_rfl) (by kernel_rfl) (WF.mono (again_ok (.fn 16 [] [(.ptr a6844 0)]) a6844 [(.int (x.Chest.Words)), (.int (x.Chest.Facts)), (lst .any encS x.Chest.People), (.int (x.Chest.Last)), (lst .any encCopy x.Chest.Copies), (lst .any encRule x.Chest.Rules), (.int (x.Person)), (lst .any encI x.Words), (lst .any encI x.Copies), (.int (x.Number)), (.int (x.Fact))] N3 Z3 _ (H.fact 2 rfl) (an3 a6844) hN3 hZ3) ?_)
 rintro r6859 st6860 ⟨rfl, E6861⟩
 replace H := H.then E6861
 refine wr_run 3 [(17, (.bool (true))), (18, (.bool (true))), (19, (.fn 19 [] [(.ptr a6844 0)]))] (by kernel_rfl) ?_
 refine wr_guard (by kernel_rfl) ?_
 refine wr_call [(.fn 19 [] [(.ptr a6844 0)])] (by kernel_rfl) (by kernel_rfl) (WF.mono (again_ok (.fn 19 [] [(.ptr a6844 0)]) a6844 [(.int (x.Chest.Words)), (.int (x.Chest.Facts)), (lst .any encS x.Chest.People), (.int (x.Chest.Last)), (lst .any encCopy x.Chest.Copies), (lst .any encRule x.Chest.Rules), (.int (x.Person)), (lst .any encI x.Words), (lst .any encI x.Copies), (.int (x.Number)), (.int (x.Fact))] N4 Z4 _ (H.fact 2 rfl) (an4 a6844) hN4 hZ4) ?_)
 rintro r6862 st6863 ⟨rfl, E6864⟩
 replace H := H.then E6864
 refine wr_run 3 [(21, (.bool (true))), (22, (.bool (true))), (23, (.fn 22 [] [(.ptr a6844 0)]))] (by kernel_rfl) ?_
 refine wr_guard (by kernel_rfl) ?_
 refine wr_call [(.fn 22 [] [(.ptr a6844 0)])] (by kernel_rfl) (by kernel_rfl) (WF.mono (again_ok (.fn 22 [] [(.ptr a6844 0)]) a6844 [(.int (x.Chest.Words)), (.int (x.Chest.Facts)), (lst .any encS x.Chest.People), (.int (x.Chest.Last)), (lst .any encCopy x.Chest.Copies), (lst .any encRule x.Chest.Rules), (.int (x.Person)), (lst .any encI x.Words), (lst .any encI x.Copies), (.int (x.Number)), (.int (x.Fact))] N5 Z5 _ (H.fact 2 rfl) (an5 a6844) hN5 hZ5) ?_)
 rintro r6865 st6866 ⟨rfl, E6867⟩
 replace H := H.then E6867
 refine wr_run 3 [(25, (.bool (true))), (26, (.bool (true))), (27, (.fn 25 [] [(.ptr a6844 0)]))] (by kernel_rfl) ?_
 refine wr_guard (by kernel_rfl) ?_
 refine wr_call [(.fn 25 [] [(.ptr a6844 0)])] (by kernel_rfl) (by kernel_rfl) (WF.mono (again_ok (.fn 25 [] [(.ptr a6844 0)]) a6844 [(.int (x.Chest.Words)), (.int (x.Chest.Facts)), (lst .any encS x.Chest.People), (.int (x.Chest.Last)), (lst .any encCopy x.Chest.Copies), (lst .any encRule x.Chest.Rules), (.int (x.Person)), (lst .any encI x.Words), (lst .any encI x.Copies), (.int (x.Number)), (.int (x.Fact))] N6 Z6 _ (H.fact 2 rfl) (an6 a6844) hN6 hZ6) ?_)
 rintro r6868 st6869 ⟨rfl, E6870⟩
 replace H := H.then E6870
 refine wr_run 3 [(29, (.bool (true))), (30, (.bool (true))), (31, (.fn 28 [] [(.ptr a6844 0)]))] (by kernel_rfl) ?_
 refine wr_guard (by kernel_rfl) ?_
 refine wr_call [(.fn 28 [] [(.ptr a6844 0)])] (by kernel_rfl) (by kernel_rfl) (WF.mono (again_ok (.fn 28 [] [(.ptr a6844 0)]) a6844 [(.int (x.Chest.Words)), (.int (x.Chest.Facts)), (lst .any encS x.Chest.People), (.int (x.Chest.Last)), (lst .any encCopy x.Chest.Copies), (lst .any encRule x.Chest.Rules), (.int (x.Person)), (lst .any encI x.Words), (lst .any encI x.Copies), (.int (x.Number)), (.int (x.Fact))] N7 Z7 _ (H.fact 2 rfl) (an7 a6844) hN7 hZ7) ?_)
 rintro r6871 st6872 ⟨rfl, E6873⟩
 replace H := H.then E6873
 refine wr_run 3 [(33, (.bool (true))), (34, (.bool (true))), (35, (.fn 31 [] [(.ptr a6844 0)]))] (by kernel_rfl) ?_
 refine wr_guard (by kernel_rfl) ?_
 refine wr_call [(.fn 31 [] [(.ptr a6844 0)])] (by kernel_rfl) (by kernel_rfl) (WF.mono (again_ok (.fn 31 [] [(.ptr a6844 0)]) a6844 [(.int (x.Chest.Words)), (.int (x.Chest.Facts)), (lst .any encS x.Chest.People), (.int (x.Chest.Last)), (lst .any encCopy x.Chest.Copies), (lst .any encRule x.Chest.Rules), (.int (x.Person)), (lst .any encI x.Words), (lst .any encI x.Copies), (.int (x.Number)), (.int (x.Fact))] N8 Z8 _ (H.fact 2 rfl) (an8 a6844) hN8 hZ8) ?_)
 rintro r6874 st6875 ⟨rfl, E6876⟩
 replace H := H.then E6876
 refine wr_run 2 [(37, (.bool (true))), (5, (.bool (true)))] (by kernel_rfl) ?_
 refine wr_done ?_
 refine wl_assoc ?_
 refine wl_ops ?_
 refine wr_load H 2 a6844 0 _ true rfl (by kernel_rfl) (.agg [(.int (x.Chest.Words)), (.int (x.Chest.Facts)), (lst .any encS x.Chest.People), (.int (x.Chest.Last)), (lst .any encCopy x.Chest.Copies), (lst .any encRule x.Chest.Rules), (.int (x.Person)), (lst .any encI x.Words), (lst .any encI x.Copies), (.int (x.Number)), (.int (x.Fact))]) (by kernel_rfl) (by kernel_rfl) ?_
 refine wr_call [(.agg [(.int (x.Chest.Words)), (.int (x.Chest.Facts)), (lst .any encS x.Chest.People), (.int (x.Chest.Last)), (lst .any encCopy x.Chest.Copies), (lst .any encRule x.Chest.Rules), (.int (x.Person)), (lst .any encI x.Words), (lst .any encI x.Copies), (.int (x.Number)), (.int (x.Fact))]), (.ptr a6848 0)] (by kernel_rfl) (by kernel_rfl) (WF.mono (hall _ a6848 (H.fact 0 rfl)) ?_)
 rintro r6877 st6878 ⟨rfl, E6879⟩
 replace H := H.eff1 0 rfl rfl (.cells [(lst .any encI NA), (lst .any encS ZA)]) E6879
 refine wr_done ?_
 refine wl_assoc ?_
 refine wl_ops ?_
 refine wr_run 2 [(40, (.bool (true))), (41, (.bool (true)))] (by kernel_rfl) ?_
 refine wr_guard (by kernel_rfl) ?_
 refine wr_load H 1 a6846 0 _ true rfl (by kernel_rfl) (.agg [(lst .any encI NA), (lst .any encS ZA)]) (by kernel_rfl) (by kernel_rfl) ?_
 refine wr_guard (by kernel_rfl) ?_
 refine wr_load H 0 a6848 0 _ true rfl (by kernel_rfl) (.agg [(lst .any encI NA), (lst .any encS ZA)]) (by kernel_rfl) (by kernel_rfl) ?_
 refine wr_guard (by kernel_rfl) ?_
 refine wr_call [(.agg [(lst .any encI NA), (lst .any encS ZA)]), (.agg [(lst .any encI NA), (lst .any encS ZA)])] (by kernel_rfl) (by kernel_rfl) (WF.mono (same_ok .any .any .any .any NA ZA _ (by omega) (by omega)) ?_)
 rintro r6880 st6881 ⟨rfl, E6882⟩
 replace H := H.then E6882
 refine wr_run 2 [(45, (.bool (true))), (46, (.bool (true)))] (by kernel_rfl) ?_
 refine wr_guard (by kernel_rfl) ?_
 refine wr_frame [(.agg [(.int (x.Chest.Words)), (.int (x.Chest.Facts)), (lst .any encS x.Chest.People), (.int (x.Chest.Last)), (lst .any encCopy x.Chest.Copies), (lst .any encRule x.Chest.Rules), (.int (x.Person)), (lst .any encI x.Words), (lst .any encI x.Copies), (.int (x.Number)), (.int (x.Fact))]), (.ptr a6844 0), (.bool (false)), (.ptr a6846 0), (.ptr a6848 0), (.bool (true)), (.agg [(.int (x.Chest.Words)), (.int (x.Chest.Facts)), (lst .any encS x.Chest.People), (.int (x.Chest.Last)), (lst .any encCopy x.Chest.Copies), (lst .any encRule x.Chest.Rules), (.int (x.Person)), (lst .any encI x.Words), (lst .any encI x.Copies), (.int (x.Number)), (.int (x.Fact))]), (.tup []), (.fn 6 [] [(.ptr a6844 0)]), (.bool (true)), (.bool (true)), (.fn 11 [] [(.ptr a6844 0)]), (.bool (true)), (.bool (true)), (.bool (true)), (.fn 16 [] [(.ptr a6844 0)]), (.bool (true)), (.bool (true)), (.bool (true)), (.fn 19 [] [(.ptr a6844 0)]), (.bool (true)), (.bool (true)), (.bool (true)), (.fn 22 [] [(.ptr a6844 0)]), (.bool (true)), (.bool (true)), (.bool (true)), (.fn 25 [] [(.ptr a6844 0)]), (.bool (true)), (.bool (true)), (.bool (true)), (.fn 28 [] [(.ptr a6844 0)]), (.bool (true)), (.bool (true)), (.bool (true)), (.fn 31 [] [(.ptr a6844 0)]), (.bool (true)), (.bool (true)), (.agg [(.int (x.Chest.Words)), (.int (x.Chest.Facts)), (lst .any encS x.Chest.People), (.int (x.Chest.Last)), (lst .any encCopy x.Chest.Copies), (lst .any encRule x.Chest.Rules), (.int (x.Person)), (lst .any encI x.Words), (lst .any encI x.Copies), (.int (x.Number)), (.int (x.Fact))]), (.tup []), (.bool (true)), (.bool (true)), (.agg [(lst .any encI NA), (lst .any encS ZA)]), (.agg [(lst .any encI NA), (lst .any encS ZA)]), (.bool (true)), (.bool (true)), (.bool (true)), .junk, .junk] (by kernel_rfl) ?_
 refine wr_call [] (by kernel_rfl) (by kernel_rfl) (WF.mono (awake_any haw _) ?_)
 rintro r6884 st6885 ⟨rfl, rfl⟩
 refine wr_run 2 [(48, (.bool (true))), (2, (.bool (true)))] (by kernel_rfl) ?_
 refine wr_done ?_
 refine wl_ret ?_
 refine post_i (Or.inr rfl) (.bool (true)) (by kernel_rfl) ?_
 exact ⟨rfl, H.ext rfl⟩

end Go.Proofs.Ytbekogkbdmaobaa
