import Derived.Test.YtbekogkbdmaobaaCc
import Derived.Test.YtbekogkbdmaobaaPxa
import Derived.Test.YtbekogkbdmaobaaTyx
import Derived.Test.YtbekogkbdmaobaaEf32
namespace Go.Proofs.Ytbekogkbdmaobaa
open Go Go.EF Go.Proofs
set_option linter.unusedVariables false
set_option maxRecDepth 100000

set_option maxHeartbeats 4000000 in
theorem next_ok (I : Bool → St → Prop) (n0 yl : Nat) (t : Nat) (own : EF.Own) (L : List Int) (hR : Lasts n0 I) (hY : YieldsTo Try.prog (.yld yl) n0 I (fun xs : List AV => ∃ x : Int, xs = [.int x] ∧ (-9223372036854775808 ≤ x ∧ x ≤ 9223372036854775807))) (hT : ∀ b s, I b s → s.get t = some (.cells [(lst own encI L)])) (hl : (L.length : Int) ≤ 64) (hx : ∀ x ∈ L, 0 ≤ x) : ∀ (mu : Nat) (from_ : Int) (left : Int) (set : Int) (y : Nat) (nx : Nat) (st : St) (hc_y : st.get y = some (.cells [(.yld yl)])) (hc_nx : st.get nx = some (.cells [(.fn 84 [] [(.ptr y 0), (.ptr t 0), (.ptr nx 0)])])) (hle_y : n0 ≤ y) (hle_nx : n0 ≤ nx) (hnd : [y, nx, t].Nodup) (hn : n0 ≤ st.next) (hI : I true st) (hf : 0 ≤ from_ ∧ from_ ≤ 100) (hl2 : 0 ≤ left ∧ left ≤ 64) (hs : -9223372036854775808 ≤ set ∧ set ≤ 9223372036854775807), left.toNat = mu → WF Try.prog 84 [(.int (from_)), (.int (left)), (.int (set)), (.ptr y 0), (.ptr t 0), (.ptr nx 0)] st fun r st' => ∃ (b : Bool) , r = .bool b ∧ I b st' ∧ KeepX n0 [] st st' := by
 intro mu
 induction mu using Nat.strongRecOn with
 | _ mu ih =>
 intro from_ left set y nx st hc_y hc_nx hle_y hle_nx hnd hn hI hf hl2 hs hmu
 refine wf_L c84 rfl ?_
 have hkp : KeepX n0 [] st st := KeepX.refl _ _ _
 have H : SP st [⟨y, .cells [(.yld yl)], false⟩, ⟨nx, .cells [(.fn 84 [] [(.ptr y 0), (.ptr t 0), (.ptr nx 0)])], false⟩, ⟨t, .cells [(lst own encI L)], false⟩] [] st := SP.startm _ (List.forall_mem_cons.2 ⟨⟨hc_y, rfl⟩, (List.forall_mem_cons.2 ⟨⟨hc_nx, rfl⟩, (List.forall_mem_cons.2 ⟨⟨hT _ _ hI, rfl⟩, (by simp)⟩)⟩)⟩) hnd
 have hb2229 := H.fact 0 rfl
 have hb2230 := H.fact 1 rfl
 have hb2231 := H.fact 2 rfl
 refine wl_tail ?_
 refine wl_assoc ?_
 refine wl_ops ?_
 refine wr_run 1 [(9, (.bool (false)))] (by kernel_rfl) ?_
 refine wr_done ?_
 refine wl_assoc ?_
 refine wl_assoc ?_
 refine wl_ops ?_
 refine wr_run 2 [(11, (.int (left))), (12, (.bool ((left : Int) == (0 : Int))))] (by kernel_rfl) ?_
 refine wr_done ?_
 refine wl_cond ((left : Int) == (0 : Int)) (by kernel_rfl) (fun c2232 => ?_) (fun c2232 => ?_)
 ·skip
  have c2232' : (left : Int) = 0 := by simpa using c2232
  refine wl_assoc ?_
  refine wl_ops ?_
  refine wr_load H 0 y 0 _ false rfl (by kernel_rfl) (.yld yl) (by kernel_rfl) (by kernel_rfl) ?_
  refine wr_run 1 [(14, (.int (set)))] (by kernel_rfl) ?_
  have hI2233 := hR _ _ _ hI (H.rely hn (List.forall_mem_cons.2 ⟨(fun _ => Or.inl ⟨hle_y, _, hb2229, rfl⟩), (List.forall_mem_cons.2 ⟨(fun _ => Or.inl ⟨hle_nx, _, hb2230, rfl⟩), (List.forall_mem_cons.2 ⟨(fun _ => Or.inr hb2231), (by simp)⟩)⟩)⟩))
  have hkp2234 := hkp.trans (H.keepX (n0 := n0) (ex := []) (List.forall_mem_cons.2 ⟨(fun _ => Or.inr hb2229), (List.forall_mem_cons.2 ⟨(fun _ => Or.inr hb2230), (List.forall_mem_cons.2 ⟨(fun _ => Or.inr hb2231), (by simp)⟩)⟩)⟩))
  refine wr_callv (.yld yl) (by kernel_rfl) [(.int (set))] (by kernel_rfl) (by kernel_rfl) (WV.mono (hY [(.int (set))] _ hI2233 ⟨_, rfl, by omega⟩) ?_)
  rintro r2235 st2236 ⟨b2237, rfl, hI2238, hK2239⟩
  have hkp2240 := hkp2234.trans (hK2239.more (by simp))
  have nd2241 : [y, nx, t].Nodup := H.pick [0, 1, 2] (by decide) rfl
  have hb2242 : st2236.get y = some (.cells [(.yld yl)]) := (hK2239.get _ _ hle_y (by simp) (H.fact 0 rfl) rfl)
  have hb2243 : st2236.get nx = some (.cells [(.fn 84 [] [(.ptr y 0), (.ptr t 0), (.ptr nx 0)])]) := (hK2239.get _ _ hle_nx (by simp) (H.fact 1 rfl) rfl)
  have hb2244 : st2236.get t = some (.cells [(lst own encI L)]) := (hT _ _ hI2238)
  have hn2245 := Nat.le_trans hn (Nat.le_trans H.next hK2239.next)
  have H : SP st2236 [⟨y, .cells [(.yld yl)], false⟩, ⟨nx, .cells [(.fn 84 [] [(.ptr y 0), (.ptr t 0), (.ptr nx 0)])], false⟩, ⟨t, .cells [(lst own encI L)], false⟩] [] st2236 := SP.startm _ (List.forall_mem_cons.2 ⟨⟨hb2242, rfl⟩, (List.forall_mem_cons.2 ⟨⟨hb2243, rfl⟩, (List.forall_mem_cons.2 ⟨⟨hb2244, rfl⟩, (by simp)⟩)⟩)⟩) nd2241
  refine wr_run 1 [(9, (.bool (b2237)))] (by kernel_rfl) ?_
  refine wr_done ?_
  refine wl_ret ?_
  refine post_i (Or.inr rfl) (.bool (b2237)) (by kernel_rfl) ?_
  have hI2247 := hR _ _ _ hI2238 (H.rely hn2245 (List.forall_mem_cons.2 ⟨(fun _ => Or.inl ⟨hle_y, _, hb2242, rfl⟩), (List.forall_mem_cons.2 ⟨(fun _ => Or.inl ⟨hle_nx, _, hb2243, rfl⟩), (List.forall_mem_cons.2 ⟨(fun _ => Or.inr hb2244), (by simp)⟩)⟩)⟩))
  have hkp2248 := hkp2240.trans (H.keepX (n0 := n0) (ex := []) (List.forall_mem_cons.2 ⟨(fun _ => Or.inr hb2242), (List.forall_mem_cons.2 ⟨(fun _ => Or.inr hb2243), (List.forall_mem_cons.2 ⟨(fun _ => Or.inr hb2244), (by simp)⟩)⟩)⟩))
  exact ⟨b2237, rfl, hI2247, hkp2248⟩
 ·skip
  have c2232' : ¬ ((left : Int) = 0) := by simpa using c2232
  refine wl_skip_seq ?_
  refine wl_assoc ?_
  refine wl_assoc ?_
  refine wl_ops ?_
  refine wr_run 2 [(16, (.int (from_))), (10, (.int (from_)))] (by kernel_rfl) ?_
  refine wr_done ?_
  have hI2249 := hR _ _ _ hI (H.rely hn (List.forall_mem_cons.2 ⟨(fun _ => Or.inl ⟨hle_y, _, hb2229, rfl⟩), (List.forall_mem_cons.2 ⟨(fun _ => Or.inl ⟨hle_nx, _, hb2230, rfl⟩), (List.forall_mem_cons.2 ⟨(fun _ => Or.inr hb2231), (by simp)⟩)⟩)⟩))
  have hkp2250 := hkp.trans (H.keepX (n0 := n0) (ex := []) (List.forall_mem_cons.2 ⟨(fun _ => Or.inr hb2229), (List.forall_mem_cons.2 ⟨(fun _ => Or.inr hb2230), (List.forall_mem_cons.2 ⟨(fun _ => Or.inr hb2231), (by simp)⟩)⟩)⟩))
  have hn2251 := Nat.le_trans hn H.next
  replace H := H.fresh [⟨y, .cells [(.yld yl)], false⟩, ⟨nx, .cells [(.fn 84 [] [(.ptr y 0), (.ptr t 0), (.ptr nx 0)])], false⟩, ⟨t, .cells [(lst own encI L)], false⟩] rfl rfl rfl
  have hb2252 := H.fact 0 rfl
  have hb2253 := H.fact 1 rfl
  have hb2254 := H.fact 2 rfl
  refine wl_loop (σ := Nat) (fun (zz : Nat) (lf : List AV) (st' : St) => ∃ (xs2255 : Nat → AV) (v2278 : Int), lf = [(.int (from_)), (.int (left)), (.int (set)), (.ptr y 0), (.ptr t 0), (.ptr nx 0), .junk, .junk, .junk, (.bool (false)), (.int (v2278)), (.int (left)), (.bool ((left : Int) == (0 : Int))), .junk, .junk, .junk, (.int (from_)), (xs2255 17), (xs2255 18), (xs2255 19), (xs2255 20), (xs2255 21), (xs2255 22), (xs2255 23), (xs2255 24), (xs2255 25), (xs2255 26), (xs2255 27), (xs2255 28), (xs2255 29), (xs2255 30), (xs2255 31), (xs2255 32), (xs2255 33), (xs2255 34), (xs2255 35), (xs2255 36), (xs2255 37), (xs2255 38)] ∧ SP st' [⟨y, .cells [(.yld yl)], false⟩, ⟨nx, .cells [(.fn 84 [] [(.ptr y 0), (.ptr t 0), (.ptr nx 0)])], false⟩, ⟨t, .cells [(lst own encI L)], false⟩] [] st' ∧ I true st' ∧ n0 ≤ st'.next ∧ KeepX n0 [] st st' ∧ (from_ ≤ v2278) ∧ (0 ≤ v2278) ∧ (-1 ≤ v2278) ∧ (-9223372036854775808 ≤ v2278 ∧ v2278 ≤ 9223372036854775807) ∧ zz = (-v2278 + 9223372036854775808).toNat) (fun z => z) _ ⟨(LX [(17, .junk), (18, .junk), (19, .junk), (20, .junk), (21, .junk), (22, .junk), (23, .junk), (24, .junk), (25, .junk), (26, .junk), (27, .junk), (28, .junk), (29, .junk), (30, .junk), (31, .junk), (32, .junk), (33, .junk), (34, .junk), (35, .junk), (36, .junk), (37, .junk), (38, .junk)]), from_, by kernel_rfl, H, hI2249, hn2251, hkp2250, by first | omega | (simp; omega) | simp, by first | omega | (simp; omega) | simp, by first | omega | (simp; omega) | simp, by first | omega | (simp; omega) | simp, rfl⟩ ?_
  clear H
  intro zz2255 lf st2255 hI2255_ Q2255 hN2255 hE2255 hX2255
  obtain ⟨xs2255, v2278, rfl, H, hIk2255, hnk2255, hkk2255, hi2255_0, hi2255_1, hi2255_2, hi2255_3, hz2255⟩ := hI2255_
  refine wl_tail ?_
  have hb2345 := H.fact 0 rfl
  have hb2346 := H.fact 1 rfl
  have hb2347 := H.fact 2 rfl
  refine wl_assoc ?_
  refine wl_assoc ?_
  refine wl_ops ?_
  refine wr_run 1 [(17, (.int (v2278)))] (by kernel_rfl) ?_
  refine wr_load H 2 t 0 _ false rfl (by kernel_rfl) (lst own encI L) (by kernel_rfl) (by kernel_rfl) ?_
  refine wr_run 2 [(19, (.int ((L.length : Int)))), (20, (.int (left)))] (by kernel_rfl) ?_
  refine wr_bin (.int ((L.length : Int))) (.int (left)) (.int ((L.length : Int) - left)) (by kernel_rfl) (by kernel_rfl) (sub64e _ (by unfold I64; omega)) (by kernel_rfl) ?_
  refine wr_run 1 [(22, (.bool (decide ((v2278 : Int) ≤ ((L.length : Int) - left : Int)))))] (by kernel_rfl) ?_
  refine wr_done ?_
  refine wl_cond (decide ((v2278 : Int) ≤ ((L.length : Int) - left : Int))) (by kernel_rfl) (fun c2348 => ?_) (fun c2348 => ?_)
  ·skip
   have c2348' : (v2278 : Int) ≤ (L.length : Int) - left := of_decide_eq_true c2348
   refine wl_skip_seq ?_
   refine wl_assoc ?_
   refine wl_block fun Q2349 hN2349 hE2349 hX2349 => ?_
   refine wl_tail ?_
   refine wl_assoc ?_
   refine wl_draw0 (fun n => by kernel_rfl) ?_
   refine wd_load H 1 nx 0 _ false rfl (by kernel_rfl) (.fn 84 [] [(.ptr y 0), (.ptr t 0), (.ptr nx 0)]) (by kernel_rfl) [] (by kernel_rfl) True.intro (by kernel_rfl) ?_
   refine wd_run 1 [(26, (.int (v2278)))] (by kernel_rfl) (by kernel_rfl) ?_
   refine wd_pure (.int (v2278 + 1)) (ev_bin (.int (v2278)) (.int (1)) (.int (v2278 + 1)) (by kernel_rfl) (by kernel_rfl) (add64e _ (by unfold I64; omega)) _) (by kernel_rfl) (by kernel_rfl) ?_
   refine wd_run 1 [(28, (.int (left)))] (by kernel_rfl) (by kernel_rfl) ?_
   refine wd_pure (.int (left - 1)) (ev_bin (.int (left)) (.int (1)) (.int (left - 1)) (by kernel_rfl) (by kernel_rfl) (sub64e _ (by unfold I64; omega)) _) (by kernel_rfl) (by kernel_rfl) ?_
   refine wd_run 1 [(30, (.int (set)))] (by kernel_rfl) (by kernel_rfl) ?_
   refine wd_load H 2 t 0 _ false rfl (by kernel_rfl) (lst own encI L) (by kernel_rfl) [] (by kernel_rfl) True.intro (by kernel_rfl) ?_
   refine wd_run 1 [(32, (.int (v2278)))] (by kernel_rfl) (by kernel_rfl) ?_
   obtain ⟨y2350, hy2350⟩ := getx L (v2278) (by omega)
   refine wd_pure (.lptr (L.flatMap encI) ((v2278 : Int).toNat * 1)) (ev_iaddr own _ _ (by kernel_rfl) (v2278) (by kernel_rfl) (by omega) (enc_len encI_len _) _) (by kernel_rfl) (by kernel_rfl) ?_
   have hq2351 : 0 ≤ y2350 := hx y2350 (some_get hy2350)
   refine wd_readl (.int (y2350)) (ev_loade encI_len L ((v2278 : Int).toNat) 0 y2350 hy2350 (by kernel_rfl) (.int (y2350)) (by kernel_rfl) (by decide) (by decide)) (by kernel_rfl) (by kernel_rfl) ?_
   refine wd_pureX (fun y => .int y) _ (ev_int (.int (1)) (.int (y2350)) (by kernel_rfl) (by kernel_rfl) (bx_shl _ _ (by omega))) (by kernel_rfl) (by kernel_rfl) fun n2352 hn2352 => ?_
   unfold I64 at hn2352
   refine wd_pureX (fun y => .int y) _ (ev_int (.int (set)) (.int (n2352)) (by kernel_rfl) (by kernel_rfl) (bx_or _ _)) (by kernel_rfl) (by kernel_rfl) fun n2353 hn2353 => ?_
   unfold I64 at hn2353
   have H2354 := H
   have hI2355 := hR _ _ _ hIk2255 (H.rely hnk2255 (List.forall_mem_cons.2 ⟨(fun _ => Or.inl ⟨hle_y, _, hb2345, rfl⟩), (List.forall_mem_cons.2 ⟨(fun _ => Or.inl ⟨hle_nx, _, hb2346, rfl⟩), (List.forall_mem_cons.2 ⟨(fun _ => Or.inr hb2347), (by simp)⟩)⟩)⟩))
   have hkp2356 := hkk2255.trans (H.keepX (n0 := n0) (ex := []) (List.forall_mem_cons.2 ⟨(fun _ => Or.inr hb2345), (List.forall_mem_cons.2 ⟨(fun _ => Or.inr hb2346), (List.forall_mem_cons.2 ⟨(fun _ => Or.inr hb2347), (by simp)⟩)⟩)⟩))
   refine wd_callv (.fn 84 [] [(.ptr y 0), (.ptr t 0), (.ptr nx 0)]) (by kernel_rfl) [(.int (v2278 + 1)), (.int (left - 1)), (.int (n2353))] (by kernel_rfl) (by kernel_rfl) [] [] (by kernel_rfl) (by kernel_rfl) (WF.mono (ih _ (by omega) (v2278 + 1) (left - 1) n2353 y nx _ (H.fact 0 rfl) (H.fact 1 rfl) hle_y hle_nx (H.pick [0, 1, 2] (by decide) rfl) (Nat.le_trans hnk2255 H.next) hI2355 (by omega) (by omega) (by omega) rfl) ?_)
   rintro r2357 st2358 ⟨b2359, rfl, hI2360, hK2361⟩
   have hkp2362 := hkp2356.trans (hK2361.more (by simp))
   have nd2363 : [y, nx, t].Nodup := H.pick [0, 1, 2] (by decide) rfl
   have hb2364 : st2358.get y = some (.cells [(.yld yl)]) := (hK2361.get _ _ hle_y (by simp) (H.fact 0 rfl) rfl)
   have hb2365 : st2358.get nx = some (.cells [(.fn 84 [] [(.ptr y 0), (.ptr t 0), (.ptr nx 0)])]) := (hK2361.get _ _ hle_nx (by simp) (H.fact 1 rfl) rfl)
   have hb2366 : st2358.get t = some (.cells [(lst own encI L)]) := (hT _ _ hI2360)
   have hn2367 := Nat.le_trans hnk2255 (Nat.le_trans H.next hK2361.next)
   have H : SP st2358 [⟨y, .cells [(.yld yl)], false⟩, ⟨nx, .cells [(.fn 84 [] [(.ptr y 0), (.ptr t 0), (.ptr nx 0)])], false⟩, ⟨t, .cells [(lst own encI L)], false⟩] [] st2358 := SP.startm _ (List.forall_mem_cons.2 ⟨⟨hb2364, rfl⟩, (List.forall_mem_cons.2 ⟨⟨hb2365, rfl⟩, (List.forall_mem_cons.2 ⟨⟨hb2366, rfl⟩, (by simp)⟩)⟩)⟩) nd2363
   refine ⟨(by exact ⟨True.intro, True.intro⟩), ?_⟩
   refine wd_run 1 [(38, (.bool (!(b2359))))] (by kernel_rfl) (by kernel_rfl) ?_
   refine wd_done ?_
   refine wl_cond (!(b2359)) (by kernel_rfl) (fun c2369 => ?_) (fun c2369 => ?_)
   ·skip
    have c2369' : (b2359) = false := by simpa using c2369
    rw [c2369'] at hI2360
    refine wl_assoc ?_
    refine wl_ops ?_
    refine wr_run 1 [(9, (.bool (false)))] (by kernel_rfl) ?_
    refine wr_done ?_
    refine wl_ret ?_
    refine hX2349 _ _ _ (by decide) (by decide) ?_
    refine hX2255 _ _ _ (by decide) (by decide) ?_
    refine post_i (Or.inr rfl) (.bool (false)) (by kernel_rfl) ?_
    have hI2370 := hR _ _ _ hI2360 (H.rely hn2367 (List.forall_mem_cons.2 ⟨(fun _ => Or.inl ⟨hle_y, _, hb2364, rfl⟩), (List.forall_mem_cons.2 ⟨(fun _ => Or.inl ⟨hle_nx, _, hb2365, rfl⟩), (List.forall_mem_cons.2 ⟨(fun _ => Or.inr hb2366), (by simp)⟩)⟩)⟩))
    have hkp2371 := hkp2362.trans (H.keepX (n0 := n0) (ex := []) (List.forall_mem_cons.2 ⟨(fun _ => Or.inr hb2364), (List.forall_mem_cons.2 ⟨(fun _ => Or.inr hb2365), (List.forall_mem_cons.2 ⟨(fun _ => Or.inr hb2366), (by simp)⟩)⟩)⟩))
    exact ⟨false, rfl, hI2370, hkp2371⟩
   ·skip
    have c2369' : (b2359) = true := by simpa using c2369
    rw [c2369'] at hI2360
    refine wl_skip_seq ?_
    refine wl_skip ?_
    refine hN2349 _ _ ?_
    refine wl_ops ?_
    refine wr_run 1 [(23, (.int (v2278)))] (by kernel_rfl) ?_
    refine wr_bin (.int (v2278)) (.int (1)) (.int (v2278 + 1)) (by kernel_rfl) (by kernel_rfl) (add64e _ (by unfold I64; omega)) (by kernel_rfl) ?_
    refine wr_run 1 [(10, (.int (v2278 + 1)))] (by kernel_rfl) ?_
    refine wr_done ?_
    refine wl_skip ?_
    have hI2372 := hR _ _ _ hI2360 (H.rely hn2367 (List.forall_mem_cons.2 ⟨(fun _ => Or.inl ⟨hle_y, _, hb2364, rfl⟩), (List.forall_mem_cons.2 ⟨(fun _ => Or.inl ⟨hle_nx, _, hb2365, rfl⟩), (List.forall_mem_cons.2 ⟨(fun _ => Or.inr hb2366), (by simp)⟩)⟩)⟩))
    have hkp2373 := hkp2362.trans (H.keepX (n0 := n0) (ex := []) (List.forall_mem_cons.2 ⟨(fun _ => Or.inr hb2364), (List.forall_mem_cons.2 ⟨(fun _ => Or.inr hb2365), (List.forall_mem_cons.2 ⟨(fun _ => Or.inr hb2366), (by simp)⟩)⟩)⟩))
    have hn2374 := Nat.le_trans hn2367 H.next
    replace H := H.fresh [⟨y, .cells [(.yld yl)], false⟩, ⟨nx, .cells [(.fn 84 [] [(.ptr y 0), (.ptr t 0), (.ptr nx 0)])], false⟩, ⟨t, .cells [(lst own encI L)], false⟩] rfl rfl rfl
    have hb2375 := H.fact 0 rfl
    have hb2376 := H.fact 1 rfl
    have hb2377 := H.fact 2 rfl
    refine hN2255 _ _ _ ⟨(LX [(17, (.int (v2278))), (18, (lst own encI L)), (19, (.int ((L.length : Int)))), (20, (.int (left))), (21, (.int ((L.length : Int) - left))), (22, (.bool (decide ((v2278 : Int) ≤ ((L.length : Int) - left : Int))))), (23, (.int (v2278))), (24, (.int (v2278 + 1))), (25, (.fn 84 [] [(.ptr y 0), (.ptr t 0), (.ptr nx 0)])), (26, (.int (v2278))), (27, (.int (v2278 + 1))), (28, (.int (left))), (29, (.int (left - 1))), (30, (.int (set))), (31, (lst own encI L)), (32, (.int (v2278))), (33, (.lptr (L.flatMap encI) ((v2278 : Int).toNat * 1))), (34, (.int (y2350))), (35, (.int (n2352))), (36, (.int (n2353))), (37, (.bool (b2359))), (38, (.bool (!(b2359))))]), v2278 + 1, by kernel_rfl, H, hI2372, hn2374, hkp2373, by first | omega | (simp; omega) | simp, by first | omega | (simp; omega) | simp, by first | omega | (simp; omega) | simp, by first | omega | (simp; omega) | simp, rfl⟩ (by first | omega | (simp only; omega))
  ·skip
   have c2348' : ¬ ((v2278 : Int) ≤ (L.length : Int) - left) := of_decide_eq_false c2348
   refine wl_exit ?_
   refine hE2255 _ _ ?_
   refine wl_assoc ?_
   refine wl_ops ?_
   refine wr_run 1 [(9, (.bool (true)))] (by kernel_rfl) ?_
   refine wr_done ?_
   refine wl_ret ?_
   refine post_i (Or.inr rfl) (.bool (true)) (by kernel_rfl) ?_
   have hI2378 := hR _ _ _ hIk2255 (H.rely hnk2255 (List.forall_mem_cons.2 ⟨(fun _ => Or.inl ⟨hle_y, _, hb2345, rfl⟩), (List.forall_mem_cons.2 ⟨(fun _ => Or.inl ⟨hle_nx, _, hb2346, rfl⟩), (List.forall_mem_cons.2 ⟨(fun _ => Or.inr hb2347), (by simp)⟩)⟩)⟩))
   have hkp2379 := hkk2255.trans (H.keepX (n0 := n0) (ex := []) (List.forall_mem_cons.2 ⟨(fun _ => Or.inr hb2345), (List.forall_mem_cons.2 ⟨(fun _ => Or.inr hb2346), (List.forall_mem_cons.2 ⟨(fun _ => Or.inr hb2347), (by simp)⟩)⟩)⟩))
   exact ⟨true, rfl, hI2378, hkp2379⟩

set_option maxHeartbeats 4000000 in
theorem some1_ok (I : Bool → St → Prop) (n0 yl : Nat) (t : Nat) (own : EF.Own) (L : List Int) (hR : Lasts n0 I) (hY : YieldsTo Try.prog (.yld yl) n0 I (fun xs : List AV => ∃ x : Int, xs = [.int x] ∧ (-9223372036854775808 ≤ x ∧ x ≤ 9223372036854775807))) (hT : ∀ b s, I b s → s.get t = some (.cells [(lst own encI L)]))  (st : St) (hn : n0 ≤ st.next) (hI : I true st) (hl : (L.length : Int) ≤ 64) (hx : ∀ x ∈ L, 0 ≤ x) : WF Try.prog 83 [(.yld yl), (.ptr t 0)] st fun r st' => ∃ (b : Bool) , r = .tup [] ∧ I b st' ∧ KeepX n0 [] st st' := by
 refine wf_L c83 rfl ?_
 have hkp : KeepX n0 [] st st := KeepX.refl _ _ _
 have H : SP st [⟨t, .cells [(lst own encI L)], false⟩] [] st := SP.startm _ (List.forall_mem_cons.2 ⟨⟨hT _ _ hI, rfl⟩, (by simp)⟩) (by simp)
 have hb2380 := H.fact 0 rfl
 refine wl_tail ?_
 refine wl_assoc ?_
 refine wl_ops ?_
 refine wr_box (.yld yl) (by kernel_rfl) [(.yld yl)] (by kernel_rfl) (by kernel_rfl) H (by kernel_rfl) fun a2381 st2382 H => ?_
 refine wr_done ?_
 refine wl_assoc ?_
 refine wl_ops ?_
 refine wr_alloc H (by kernel_rfl) fun a2383 st2384 H => ?_
 refine wr_done ?_
 refine wl_assoc ?_
 refine wl_ops ?_
 refine wr_run 1 [(5, (.fn 84 [] [(.ptr a2381 0), (.ptr t 0), (.ptr a2383 0)]))] (by kernel_rfl) ?_
 refine wr_store H 0 a2383 0 _ true rfl (by kernel_rfl) (.fn 84 [] [(.ptr a2381 0), (.ptr t 0), (.ptr a2383 0)]) (by kernel_rfl) [(.fn 84 [] [(.ptr a2381 0), (.ptr t 0), (.ptr a2383 0)])] (by kernel_rfl) (by kernel_rfl) (by kernel_rfl) (Nat.le_of_ble_eq_true rfl) (by kernel_rfl) (by kernel_rfl) fun st2385 H => ?_
 refine wr_done ?_
 refine wl_assoc ?_
 refine wl_ops ?_
 refine wr_load H 2 t 0 _ false rfl (by kernel_rfl) (lst own encI L) (by kernel_rfl) (by kernel_rfl) ?_
 refine wr_run 1 [(7, (.int ((L.length : Int))))] (by kernel_rfl) ?_
 refine wr_bin (.int ((L.length : Int))) (.int (1)) (.int ((L.length : Int) + 1)) (by kernel_rfl) (by kernel_rfl) (add64e _ (by unfold I64; omega)) (by kernel_rfl) ?_
 refine wr_run 1 [(9, (.int (0)))] (by kernel_rfl) ?_
 refine wr_done ?_
 have hle2386 : n0 ≤ a2383 := Nat.le_trans hn (H.isnew _ (List.mem_of_getElem? (i := 0) rfl) rfl)
 have hle2387 : n0 ≤ a2381 := Nat.le_trans hn (H.isnew _ (List.mem_of_getElem? (i := 1) rfl) rfl)
 have hI2388 := hR _ _ _ hI (H.rely hn (List.forall_mem_cons.2 ⟨(fun e => nomatch e), (List.forall_mem_cons.2 ⟨(fun e => nomatch e), (List.forall_mem_cons.2 ⟨(fun _ => Or.inr hb2380), (by simp)⟩)⟩)⟩))
 have hkp2389 := hkp.trans (H.keepX (n0 := n0) (ex := []) (List.forall_mem_cons.2 ⟨(fun e => nomatch e), (List.forall_mem_cons.2 ⟨(fun e => nomatch e), (List.forall_mem_cons.2 ⟨(fun _ => Or.inr hb2380), (by simp)⟩)⟩)⟩))
 have hn2390 := Nat.le_trans hn H.next
 replace H := H.fresh [⟨a2383, .cells [(.fn 84 [] [(.ptr a2381 0), (.ptr t 0), (.ptr a2383 0)])], false⟩, ⟨a2381, .cells [(.yld yl)], false⟩, ⟨t, .cells [(lst own encI L)], false⟩] rfl rfl rfl
 have hb2391 := H.fact 0 rfl
 have hb2392 := H.fact 1 rfl
 have hb2393 := H.fact 2 rfl
 refine wl_loop (σ := Nat) (fun (zz : Nat) (lf : List AV) (st' : St) => ∃ (xs2394 : Nat → AV) (v2413 : Int), lf = [(.yld yl), (.ptr t 0), (.ptr a2381 0), (.ptr a2383 0), (xs2394 4), (.fn 84 [] [(.ptr a2381 0), (.ptr t 0), (.ptr a2383 0)]), (lst own encI L), (.int ((L.length : Int))), (.int ((L.length : Int) + 1)), (.int (v2413)), (xs2394 10), (xs2394 11), (xs2394 12), (xs2394 13), (xs2394 14), (xs2394 15), (xs2394 16)] ∧ SP st' [⟨a2383, .cells [(.fn 84 [] [(.ptr a2381 0), (.ptr t 0), (.ptr a2383 0)])], false⟩, ⟨a2381, .cells [(.yld yl)], false⟩, ⟨t, .cells [(lst own encI L)], false⟩] [] st' ∧ I true st' ∧ n0 ≤ st'.next ∧ KeepX n0 [] st st' ∧ (0 ≤ v2413) ∧ (0 ≤ v2413) ∧ (-1 ≤ v2413) ∧ (-9223372036854775808 ≤ v2413 ∧ v2413 ≤ 9223372036854775807) ∧ (v2413 ≤ (L.length : Int) + 1) ∧ (v2413 ≤ 65) ∧ zz = (-v2413 + 9223372036854775808).toNat) (fun z => z) _ ⟨(LX [(4, .junk), (10, .junk), (11, .junk), (12, .junk), (13, .junk), (14, .junk), (15, .junk), (16, .junk)]), 0, by kernel_rfl, H, hI2388, hn2390, hkp2389, by first | omega | (simp; omega) | simp, by first | omega | (simp; omega) | simp, by first | omega | (simp; omega) | simp, by first | omega | (simp; omega) | simp, by first | omega | (simp; omega) | simp, by first | omega | (simp; omega) | simp, rfl⟩ ?_
 clear H
 intro zz2394 lf st2394 hI2394_ Q2394 hN2394 hE2394 hX2394
 obtain ⟨xs2394, v2413, rfl, H, hIk2394, hnk2394, hkk2394, hi2394_0, hi2394_1, hi2394_2, hi2394_3, hi2394_5, hi2394_7, hz2394⟩ := hI2394_
 refine wl_tail ?_
 have hb2472 := H.fact 0 rfl
 have hb2473 := H.fact 1 rfl
 have hb2474 := H.fact 2 rfl
 refine wl_assoc ?_
 refine wl_ops ?_
 refine wr_run 1 [(10, (.bool (decide ((v2413 : Int) < ((L.length : Int) + 1 : Int)))))] (by kernel_rfl) ?_
 refine wr_done ?_
 refine wl_assoc ?_
 refine wl_cond (decide ((v2413 : Int) < ((L.length : Int) + 1 : Int))) (by kernel_rfl) (fun c2475 => ?_) (fun c2475 => ?_)
 ·skip
  have c2475' : (v2413 : Int) < (L.length : Int) + 1 := of_decide_eq_true c2475
  refine wl_skip_seq ?_
  refine wl_assoc ?_
  refine wl_block fun Q2476 hN2476 hE2476 hX2476 => ?_
  refine wl_tail ?_
  refine wl_assoc ?_
  refine wl_ops ?_
  refine wr_run 2 [(11, (.int (v2413))), (4, (.int (v2413)))] (by kernel_rfl) ?_
  refine wr_done ?_
  refine wl_assoc ?_
  refine wl_ops ?_
  refine wr_load H 0 a2383 0 _ false rfl (by kernel_rfl) (.fn 84 [] [(.ptr a2381 0), (.ptr t 0), (.ptr a2383 0)]) (by kernel_rfl) (by kernel_rfl) ?_
  refine wr_run 1 [(13, (.int (v2413)))] (by kernel_rfl) ?_
  have hI2477 := hR _ _ _ hIk2394 (H.rely hnk2394 (List.forall_mem_cons.2 ⟨(fun _ => Or.inl ⟨hle2386, _, hb2472, rfl⟩), (List.forall_mem_cons.2 ⟨(fun _ => Or.inl ⟨hle2387, _, hb2473, rfl⟩), (List.forall_mem_cons.2 ⟨(fun _ => Or.inr hb2474), (by simp)⟩)⟩)⟩))
  have hkp2478 := hkk2394.trans (H.keepX (n0 := n0) (ex := []) (List.forall_mem_cons.2 ⟨(fun _ => Or.inr hb2472), (List.forall_mem_cons.2 ⟨(fun _ => Or.inr hb2473), (List.forall_mem_cons.2 ⟨(fun _ => Or.inr hb2474), (by simp)⟩)⟩)⟩))
  refine wr_callv (.fn 84 [] [(.ptr a2381 0), (.ptr t 0), (.ptr a2383 0)]) (by kernel_rfl) [(.int (0)), (.int (v2413)), (.int (0))] (by kernel_rfl) (by kernel_rfl) (WF.mono (next_ok I n0 yl t own L hR hY hT (by omega) hx _ 0 v2413 0 a2381 a2383 _ (H.fact 1 rfl) (H.fact 0 rfl) hle2387 hle2386 (H.pick [1, 0, 2] (by decide) rfl) (Nat.le_trans hnk2394 H.next) hI2477 (by omega) (by omega) (by omega) rfl) ?_)
  rintro r2479 st2480 ⟨b2481, rfl, hI2482, hK2483⟩
  have hkp2484 := hkp2478.trans (hK2483.more (by simp))
  have nd2485 : [a2383, a2381, t].Nodup := H.pick [0, 1, 2] (by decide) rfl
  have hb2486 : st2480.get a2383 = some (.cells [(.fn 84 [] [(.ptr a2381 0), (.ptr t 0), (.ptr a2383 0)])]) := (hK2483.get _ _ hle2386 (by simp) (H.fact 0 rfl) rfl)
  have hb2487 : st2480.get a2381 = some (.cells [(.yld yl)]) := (hK2483.get _ _ hle2387 (by simp) (H.fact 1 rfl) rfl)
  have hb2488 : st2480.get t = some (.cells [(lst own encI L)]) := (hT _ _ hI2482)
  have hn2489 := Nat.le_trans hnk2394 (Nat.le_trans H.next hK2483.next)
  have H : SP st2480 [⟨a2383, .cells [(.fn 84 [] [(.ptr a2381 0), (.ptr t 0), (.ptr a2383 0)])], false⟩, ⟨a2381, .cells [(.yld yl)], false⟩, ⟨t, .cells [(lst own encI L)], false⟩] [] st2480 := SP.startm _ (List.forall_mem_cons.2 ⟨⟨hb2486, rfl⟩, (List.forall_mem_cons.2 ⟨⟨hb2487, rfl⟩, (List.forall_mem_cons.2 ⟨⟨hb2488, rfl⟩, (by simp)⟩)⟩)⟩) nd2485
  refine wr_run 1 [(15, (.bool (!(b2481))))] (by kernel_rfl) ?_
  refine wr_done ?_
  refine wl_cond (!(b2481)) (by kernel_rfl) (fun c2491 => ?_) (fun c2491 => ?_)
  ·skip
   have c2491' : (b2481) = false := by simpa using c2491
   rw [c2491'] at hI2482
   refine wl_ret ?_
   refine hX2476 _ _ _ (by decide) (by decide) ?_
   refine hX2394 _ _ _ (by decide) (by decide) ?_
   refine post_i (Or.inr rfl) (.tup []) (by kernel_rfl) ?_
   have hI2492 := hR _ _ _ hI2482 (H.rely hn2489 (List.forall_mem_cons.2 ⟨(fun _ => Or.inl ⟨hle2386, _, hb2486, rfl⟩), (List.forall_mem_cons.2 ⟨(fun _ => Or.inl ⟨hle2387, _, hb2487, rfl⟩), (List.forall_mem_cons.2 ⟨(fun _ => Or.inr hb2488), (by simp)⟩)⟩)⟩))
   have hkp2493 := hkp2484.trans (H.keepX (n0 := n0) (ex := []) (List.forall_mem_cons.2 ⟨(fun _ => Or.inr hb2486), (List.forall_mem_cons.2 ⟨(fun _ => Or.inr hb2487), (List.forall_mem_cons.2 ⟨(fun _ => Or.inr hb2488), (by simp)⟩)⟩)⟩))
   exact ⟨false, rfl, hI2492, hkp2493⟩
  ·skip
   have c2491' : (b2481) = true := by simpa using c2491
   rw [c2491'] at hI2482
   refine wl_skip_seq ?_
   refine wl_skip ?_
   refine hN2476 _ _ ?_
   refine wl_ops ?_
   refine wr_bin (.int (v2413)) (.int (1)) (.int (v2413 + 1)) (by kernel_rfl) (by kernel_rfl) (add64e _ (by unfold I64; omega)) (by kernel_rfl) ?_
   refine wr_run 1 [(9, (.int (v2413 + 1)))] (by kernel_rfl) ?_
   refine wr_done ?_
   refine wl_skip ?_
   have hI2494 := hR _ _ _ hI2482 (H.rely hn2489 (List.forall_mem_cons.2 ⟨(fun _ => Or.inl ⟨hle2386, _, hb2486, rfl⟩), (List.forall_mem_cons.2 ⟨(fun _ => Or.inl ⟨hle2387, _, hb2487, rfl⟩), (List.forall_mem_cons.2 ⟨(fun _ => Or.inr hb2488), (by simp)⟩)⟩)⟩))
   have hkp2495 := hkp2484.trans (H.keepX (n0 := n0) (ex := []) (List.forall_mem_cons.2 ⟨(fun _ => Or.inr hb2486), (List.forall_mem_cons.2 ⟨(fun _ => Or.inr hb2487), (List.forall_mem_cons.2 ⟨(fun _ => Or.inr hb2488), (by simp)⟩)⟩)⟩))
   have hn2496 := Nat.le_trans hn2489 H.next
   replace H := H.fresh [⟨a2383, .cells [(.fn 84 [] [(.ptr a2381 0), (.ptr t 0), (.ptr a2383 0)])], false⟩, ⟨a2381, .cells [(.yld yl)], false⟩, ⟨t, .cells [(lst own encI L)], false⟩] rfl rfl rfl
   have hb2497 := H.fact 0 rfl
   have hb2498 := H.fact 1 rfl
   have hb2499 := H.fact 2 rfl
   refine hN2394 _ _ _ ⟨(LX [(4, (.int (v2413))), (10, (.bool (decide ((v2413 : Int) < ((L.length : Int) + 1 : Int))))), (11, (.int (v2413))), (12, (.fn 84 [] [(.ptr a2381 0), (.ptr t 0), (.ptr a2383 0)])), (13, (.int (v2413))), (14, (.bool (b2481))), (15, (.bool (!(b2481)))), (16, (.int (v2413 + 1)))]), v2413 + 1, by kernel_rfl, H, hI2494, hn2496, hkp2495, by first | omega | (simp; omega) | simp, by first | omega | (simp; omega) | simp, by first | omega | (simp; omega) | simp, by first | omega | (simp; omega) | simp, by first | omega | (simp; omega) | simp, by first | omega | (simp; omega) | simp, rfl⟩ (by first | omega | (simp only; omega))
 ·skip
  have c2475' : ¬ ((v2413 : Int) < (L.length : Int) + 1) := of_decide_eq_false c2475
  refine wl_exit ?_
  refine hE2394 _ _ ?_
  refine wl_skip ?_
  refine post_i (Or.inl rfl) (.tup []) (by kernel_rfl) ?_
  have hI2500 := hR _ _ _ hIk2394 (H.rely hnk2394 (List.forall_mem_cons.2 ⟨(fun _ => Or.inl ⟨hle2386, _, hb2472, rfl⟩), (List.forall_mem_cons.2 ⟨(fun _ => Or.inl ⟨hle2387, _, hb2473, rfl⟩), (List.forall_mem_cons.2 ⟨(fun _ => Or.inr hb2474), (by simp)⟩)⟩)⟩))
  have hkp2501 := hkk2394.trans (H.keepX (n0 := n0) (ex := []) (List.forall_mem_cons.2 ⟨(fun _ => Or.inr hb2472), (List.forall_mem_cons.2 ⟨(fun _ => Or.inr hb2473), (List.forall_mem_cons.2 ⟨(fun _ => Or.inr hb2474), (by simp)⟩)⟩)⟩))
  exact ⟨true, rfl, hI2500, hkp2501⟩

set_option maxHeartbeats 4000000 in
theorem key1_ok (x : ChCopy) (n : Nat) (N : Int) (st : St) (hc_n : st.get n = some (.cells [(.int (N))])) : WF Try.prog 54 [(.agg [(.int (x.Number)), (.int (x.Words)), (.int (x.Facts)), (.int (x.May))]), (.ptr n 0)] st fun r st' => ∃ (b2502 : Bool), r = (.bool (b2502)) ∧ Ext st st' := by
 refine wf_L c54 rfl ?_
 have H : SP st [⟨n, .cells [(.int (N))], false⟩] [] st := SP.startm _ (List.forall_mem_cons.2 ⟨⟨hc_n, rfl⟩, (by simp)⟩) (by simp)
 refine wl_tail ?_
 refine wl_assoc ?_
 refine wl_ops ?_
 refine wr_box (.agg [(.int (x.Number)), (.int (x.Words)), (.int (x.Facts)), (.int (x.May))]) (by kernel_rfl) [(.int (x.Number)), (.int (x.Words)), (.int (x.Facts)), (.int (x.May))] (by kernel_rfl) (by kernel_rfl) H (by kernel_rfl) fun a2503 st2504 H => ?_
 refine wr_run 1 [(3, (.bool (false)))] (by kernel_rfl) ?_
 refine wr_done ?_
 refine wl_assoc ?_
 refine wl_ops ?_
 refine wr_load H 0 a2503 0 _ true rfl (by kernel_rfl) (.agg [(.int (x.Number)), (.int (x.Words)), (.int (x.Facts)), (.int (x.May))]) (by kernel_rfl) (by kernel_rfl) ?_
 refine wr_load H 1 n 0 _ false rfl (by kernel_rfl) (.int (N)) (by kernel_rfl) (by kernel_rfl) ?_
 refine wr_run 1 [(6, (.ptr a2503 1))] (by kernel_rfl) ?_
 refine wr_load H 0 a2503 1 _ true rfl (by kernel_rfl) (.int (x.Words)) (by kernel_rfl) (by kernel_rfl) ?_
 refine wr_run 1 [(8, (.ptr a2503 2))] (by kernel_rfl) ?_
 refine wr_load H 0 a2503 2 _ true rfl (by kernel_rfl) (.int (x.Facts)) (by kernel_rfl) (by kernel_rfl) ?_
 refine wr_run 1 [(10, (.ptr a2503 3))] (by kernel_rfl) ?_
 refine wr_load H 0 a2503 3 _ true rfl (by kernel_rfl) (.int (x.May)) (by kernel_rfl) (by kernel_rfl) ?_
 refine wr_run 1 [(12, (.agg [(.int (N)), (.int (x.Words)), (.int (x.Facts)), (.int (x.May))]))] (by kernel_rfl) ?_
 refine wr_pureX (fun y => .bool y) _ (ev_bool (.agg (List.map AV.int [x.Number, x.Words, x.Facts, x.May])) (.agg (List.map AV.int [N, x.Words, x.Facts, x.May])) (by kernel_rfl) (by kernel_rfl) (bin_eq_ints (by simp) (by kernel_rfl) 4 (by kernel_rfl) rfl rfl)) (by kernel_rfl) (by kernel_rfl) fun b2505 _ => ?_
 refine wr_run 1 [(3, (.bool (b2505)))] (by kernel_rfl) ?_
 refine wr_done ?_
 refine wl_ret ?_
 refine post_i (Or.inr rfl) (.bool (b2505)) (by kernel_rfl) ?_
 exact ⟨b2505, rfl, H.ext' (List.forall_mem_cons.2 ⟨(fun e => nomatch e), (List.forall_mem_cons.2 ⟨(fun _ => hc_n), (by simp)⟩)⟩)⟩

set_option maxHeartbeats 4000000 in
theorem idxC_ok (own : EF.Own) (l : List ChCopy) (fv : AV) (φ : ChCopy → Bool → Prop) (st : St) (hl : l.length < 2 ^ 62) (hf : ∀ x ∈ l, ∀ s, Ext st s → WV Try.prog fv [(.agg [(.int (x.Number)), (.int (x.Words)), (.int (x.Facts)), (.int (x.May))])] s fun r s' => ∃ b, r = .bool b ∧ φ x b ∧ Ext s s') : WF Try.prog 53 [(lst own encCopy l), fv] st fun r st' => ∃ i : Int, r = .int i ∧ ((i = -1 ∧ ∀ x ∈ l, φ x false) ∨ ∃ (n : Nat) (x : ChCopy), i = n ∧ l[n]? = some x ∧ φ x true) ∧ Ext st st' := by
 refine wf_L c53 rfl ?_
 have H := SP.start st
 refine wl_tail ?_
 refine wl_assoc ?_
 refine wl_ops ?_
 refine wr_run 1 [(4, (.int (0)))] (by kernel_rfl) ?_
 refine wr_done ?_
 refine wl_assoc ?_
 refine wl_assoc ?_
 refine wl_ops ?_
 refine wr_run 3 [(6, (lst own encCopy l)), (7, (.int ((l.length : Nat)))), (8, (.int (0)))] (by kernel_rfl) ?_
 refine wr_done ?_
 refine wl_loop (σ := (Nat)) (fun (zz : (Nat)) (lf : List AV) (st' : St) => match zz with | i => ∃ x4_1 x5_1 x9_1 x10_1 x11_1 x12_1 x13_1 x14_1 x15_1 x16_1 x17_1 x18_1 : AV, lf = [(lst own encCopy l), fv, .junk, .junk, x4_1, x5_1, (lst own encCopy l), (.int ((l.length : Nat))), (.int ((i : Int))), x9_1, x10_1, x11_1, x12_1, x13_1, x14_1, x15_1, x16_1, x17_1, x18_1] ∧ SP st [] [] st' ∧ i ≤ l.length ∧ ∀ x ∈ l.take i, φ x false) (fun (zz : (Nat)) => match zz with | i => l.length - i) 0 ⟨(.int (0)), .junk, .junk, .junk, .junk, .junk, .junk, .junk, .junk, .junk, .junk, .junk, by kernel_rfl, H, Nat.zero_le _, by simp⟩ ?_
 clear H
 intro i lf st1 hI Q1 hN1 hE1 hX1
 dsimp only at hI
 obtain ⟨x4_1, x5_1, x9_1, x10_1, x11_1, x12_1, x13_1, x14_1, x15_1, x16_1, x17_1, x18_1, rfl, H, hi, hφ⟩ := hI
 refine wl_tail ?_
 refine wl_assoc ?_
 refine wl_ops ?_
 refine wr_run 1 [(9, (.bool (decide (((i : Int) : Int) < ((l.length : Nat) : Int)))))] (by kernel_rfl) ?_
 refine wr_done ?_
 refine wl_assoc ?_
 refine wl_cond (decide (((i : Int) : Int) < ((l.length : Nat) : Int))) (by kernel_rfl) (fun c2 => ?_) (fun c2 => ?_)
 ·skip
  have c2' : ((i : Int) : Int) < ((l.length : Nat) : Int) := of_decide_eq_true c2
  refine wl_skip_seq ?_
  refine wl_assoc ?_
  refine wl_block fun Q3 hN3 hE3 hX3 => ?_
  refine wl_tail ?_
  refine wl_assoc ?_
  refine wl_ops ?_
  refine wr_run 2 [(10, (.int ((i : Int)))), (5, (.int ((i : Int))))] (by kernel_rfl) ?_
  refine wr_done ?_
  refine wl_assoc ?_
  refine wl_ops ?_
  refine wr_run 3 [(11, fv), (12, (lst own encCopy l)), (13, (.int ((i : Int))))] (by kernel_rfl) ?_
  refine wr_iaddre encCopy_len own l (by kernel_rfl) ((i : Int)) (by kernel_rfl) (by omega) (by kernel_rfl) fun y4 hy4 => ?_
  refine wr_loade encCopy_len l (((i : Int)).toNat) 0 y4 hy4 (by kernel_rfl) (.agg [(.int (y4.Number)), (.int (y4.Words)), (.int (y4.Facts)), (.int (y4.May))]) (by kernel_rfl) (by decide) (by decide) (by kernel_rfl) ?_
  refine wr_callv fv (by kernel_rfl) [(.agg [(.int (y4.Number)), (.int (y4.Words)), (.int (y4.Facts)), (.int (y4.May))])] (by kernel_rfl) (by kernel_rfl) (WV.mono (hf _ (some_get hy4) _ (H.ext rfl)) ?_)
  rintro r6 st7 ⟨b5, rfl, hb5, E8⟩
  replace H := H.then E8
  refine wr_done ?_
  refine wl_cond (b5) (by kernel_rfl) (fun c9 => ?_) (fun c9 => ?_)
  ·skip
   refine wl_assoc ?_
   refine wl_ops ?_
   refine wr_run 2 [(17, (.int ((i : Int)))), (4, (.int ((i : Int))))] (by kernel_rfl) ?_
   refine wr_done ?_
   refine wl_ret ?_
   refine hX3 _ _ _ (by decide) (by decide) ?_
   refine hX1 _ _ _ (by decide) (by decide) ?_
   refine post_i (Or.inr rfl) (.int ((i : Int))) (by kernel_rfl) ?_
   rw [c9] at hb5
   exact ⟨_, rfl, Or.inr ⟨i, _, rfl, hy4, hb5⟩, H.ext rfl⟩
  ·skip
   refine wl_skip_seq ?_
   refine wl_skip ?_
   refine hN3 _ _ ?_
   refine wl_ops ?_
   refine wr_bin (.int ((i : Int))) (.int (1)) (.int (((i : Int)) + (1))) (by kernel_rfl) (by kernel_rfl) (add64 (by omega)) (by kernel_rfl) ?_
   refine wr_run 1 [(8, (.int (((i : Int)) + (1))))] (by kernel_rfl) ?_
   refine wr_done ?_
   refine wl_skip ?_
   rw [c9] at hb5
   have hnx := take_step hφ hy4 hb5
   refine hN1 _ _ (i + 1) ⟨x4_1, (.int ((i : Int))), (.bool (decide (((i : Int) : Int) < ((l.length : Nat) : Int)))), (.int ((i : Int))), fv, (lst own encCopy l), (.int ((i : Int))), (.lptr (l.flatMap encCopy) (((i : Int)).toNat * 4)), (.agg [(.int (y4.Number)), (.int (y4.Words)), (.int (y4.Facts)), (.int (y4.May))]), (.bool (b5)), x17_1, (.int (((i : Int)) + (1))), by kernel_rfl, H, by omega, hnx⟩ (by simp only; omega)
 ·skip
  have c2' : ¬ (((i : Int) : Int) < ((l.length : Nat) : Int)) := of_decide_eq_false c2
  refine wl_exit ?_
  refine hE1 _ _ ?_
  refine wl_assoc ?_
  refine wl_ops ?_
  refine wr_run 1 [(4, (.int (-1)))] (by kernel_rfl) ?_
  refine wr_done ?_
  refine wl_ret ?_
  refine post_i (Or.inr rfl) (.int (-1)) (by kernel_rfl) ?_
  exact ⟨_, rfl, Or.inl ⟨rfl, by rwa [show i = l.length by omega, List.take_length] at hφ⟩, H.ext rfl⟩

set_option maxHeartbeats 4000000 in
theorem key2_ok (C : ChChest) (c : Nat) (v0 : Int) (v1 : Int) (v2 : Int) (tm : Nat) (cc : Nat) (pp : Nat) (aa : Nat) (p : Int) (at_ : Int) (n : Int) (st : St) (hc_cc : st.get cc = some (.cells [(.ptr c 0)])) (hc_c : st.get c = some (.cells [(.int (C.Words)), (.int (C.Facts)), (lst .any encS C.People), (.int (C.Last)), (lst .any encCopy C.Copies), (lst .any encRule C.Rules), (.int (v0)), (.int (v1)), (.int (v2)), (.map tm)])) (hc_pp : st.get pp = some (.cells [(.int (p))])) (hc_aa : st.get aa = some (.cells [(.int (at_))])) (hnd : [cc, c, pp, aa].Nodup) (hp : (C.People.length : Int) ≤ 1048576) (hc : (C.Copies.length : Int) ≤ 1048576) (hr : (C.Rules.length : Int) ≤ 1048576) (r0 : -9223372036854775808 ≤ v0 ∧ v0 ≤ 9223372036854775807) (r1 : -9223372036854775808 ≤ v1 ∧ v1 ≤ 9223372036854775807) (r2 : -9223372036854775808 ≤ v2 ∧ v2 ≤ 9223372036854775807) (hi : 0 ≤ p ∧ p < 3) (ha : 0 ≤ at_ ∧ at_ < 6) : WF Try.prog 57 [(.int (n)), (.ptr cc 0), (.ptr pp 0), (.ptr aa 0)] st fun r st' => ∃ (b2506 : Bool), r = (.bool (b2506)) ∧ Ext st st' := by
 refine wf_L c57 rfl ?_
 have H : SP st [⟨cc, .cells [(.ptr c 0)], false⟩, ⟨c, .cells [(.int (C.Words)), (.int (C.Facts)), (lst .any encS C.People), (.int (C.Last)), (lst .any encCopy C.Copies), (lst .any encRule C.Rules), (.int (v0)), (.int (v1)), (.int (v2)), (.map tm)], false⟩, ⟨pp, .cells [(.int (p))], false⟩, ⟨aa, .cells [(.int (at_))], false⟩] [] st := SP.startm _ (List.forall_mem_cons.2 ⟨⟨hc_cc, rfl⟩, (List.forall_mem_cons.2 ⟨⟨hc_c, rfl⟩, (List.forall_mem_cons.2 ⟨⟨hc_pp, rfl⟩, (List.forall_mem_cons.2 ⟨⟨hc_aa, rfl⟩, (by simp)⟩)⟩)⟩)⟩) hnd
 refine wl_tail ?_
 refine wl_assoc ?_
 refine wl_ops ?_
 refine wr_run 1 [(5, (.bool (false)))] (by kernel_rfl) ?_
 refine wr_done ?_
 refine wl_assoc ?_
 refine wl_draw0 (fun n => by kernel_rfl) ?_
 refine wd_load H 0 cc 0 _ false rfl (by kernel_rfl) (.ptr c 0) (by kernel_rfl) [] (by kernel_rfl) True.intro (by kernel_rfl) ?_
 refine wd_load H 2 pp 0 _ false rfl (by kernel_rfl) (.int (p)) (by kernel_rfl) [] (by kernel_rfl) True.intro (by kernel_rfl) ?_
 refine wd_run 1 [(8, (.int (n)))] (by kernel_rfl) (by kernel_rfl) ?_
 have H2507 := H
 refine wd_call [(.ptr c 0), (.int (p)), (.int (n))] (by kernel_rfl) (by kernel_rfl) [] [] (by kernel_rfl) (by kernel_rfl) (WF.mono (find_ok C c v0 v1 v2 tm p n _ (H.fact 1 rfl) (by omega) (by omega) (by omega) (by omega) (by omega) (by omega) (by omega)) ?_)
 rintro r2508 st2509 ⟨n2510, rfl, hf2513, E2511⟩
 replace H := H.then E2511
 refine ⟨(by exact ⟨True.intro, True.intro⟩), ?_⟩
 refine wd_load H 3 aa 0 _ false rfl (by kernel_rfl) (.int (at_)) (by kernel_rfl) [0] (by kernel_rfl) ⟨(rd_ok H2507 3 aa 0 _ false rfl (.int (at_)) (by kernel_rfl)), True.intro⟩ (by kernel_rfl) ?_
 refine wd_pureX (fun y => .int y) _ (ev_int (.int (1)) (.int (at_)) (by kernel_rfl) (by kernel_rfl) (bx_shl _ _ (by omega))) (by kernel_rfl) (by kernel_rfl) fun n2514 hn2514 => ?_
 unfold I64 at hn2514
 refine wd_run 2 [(12, (.bool ((n2510 : Int) == (n2514 : Int)))), (5, (.bool ((n2510 : Int) == (n2514 : Int))))] (by kernel_rfl) (by kernel_rfl) ?_
 refine wd_done ?_
 refine wl_ret ?_
 refine post_i (Or.inr rfl) (.bool ((n2510 : Int) == (n2514 : Int))) (by kernel_rfl) ?_
 exact ⟨(n2510 : Int) == (n2514 : Int), rfl, H.ext' (List.forall_mem_cons.2 ⟨(fun _ => hc_cc), (List.forall_mem_cons.2 ⟨(fun _ => hc_c), (List.forall_mem_cons.2 ⟨(fun _ => hc_pp), (List.forall_mem_cons.2 ⟨(fun _ => hc_aa), (by simp)⟩)⟩)⟩)⟩)⟩

set_option maxHeartbeats 4000000 in
theorem why1_ok (C : ChChest) (c : Nat) (v0 : Int) (v1 : Int) (v2 : Int) (tm : Nat) (es : List MEnt) (k : Nat) (cc : Nat) (n : Int) (ff : Nat) (f : Int) (st : St) (hc_cc : st.get cc = some (.cells [(.ptr c 0)])) (hc_c : st.get c = some (.cells [(.int (C.Words)), (.int (C.Facts)), (lst .any encS C.People), (.int (C.Last)), (lst .any encCopy C.Copies), (lst .any encRule C.Rules), (.int (v0)), (.int (v1)), (.int (v2)), (.map tm)])) (hc_tm : st.get tm = some (.map es k)) (hc_ff : st.get ff = some (.cells [(.int (f))])) (hnd : [cc, c, tm, ff].Nodup) (hm : MapOK KInt (fun x => ∃ n : Int, x = .int n ∧ (-9223372036854775808 ≤ n ∧ n ≤ 9223372036854775807)) es) (g0 : 1 ≤ C.Words ∧ C.Words ≤ 5) (g1 : 1 ≤ C.Facts ∧ C.Facts ≤ 6) (g2 : 0 ≤ C.Last ∧ C.Last ≤ 30) (g3 : (C.People.length : Int) ≤ 3) (g4 : (C.Copies.length : Int) ≤ 6) (g5 : (C.Rules.length : Int) ≤ 4) (g6 : ∀ x ∈ C.Rules, 0 ≤ x.Then ∧ x.Then ≤ C.Facts - 1) (hn : -9223372036854775808 ≤ n ∧ n ≤ 9223372036854775807) (hf : 0 ≤ f ∧ f < 64) : WF Try.prog 59 [(.int (n)), (.ptr cc 0), (.ptr ff 0)] st fun r st' => ∃ (b2515 : Bool) (es2516 : List MEnt) (k2517 : Nat), r = (.bool (b2515)) ∧ MapOK KInt (fun x => ∃ n : Int, x = .int n ∧ (-9223372036854775808 ≤ n ∧ n ≤ 9223372036854775807)) es2516 ∧ Eff [(tm, .map es2516 k2517)] st st' := by
 refine wf_L c59 rfl ?_
 have H : SP st [⟨cc, .cells [(.ptr c 0)], false⟩, ⟨c, .cells [(.int (C.Words)), (.int (C.Facts)), (lst .any encS C.People), (.int (C.Last)), (lst .any encCopy C.Copies), (lst .any encRule C.Rules), (.int (v0)), (.int (v1)), (.int (v2)), (.map tm)], false⟩, ⟨tm, .map es k, false⟩, ⟨ff, .cells [(.int (f))], false⟩] [] st := SP.startm _ (List.forall_mem_cons.2 ⟨⟨hc_cc, rfl⟩, (List.forall_mem_cons.2 ⟨⟨hc_c, rfl⟩, (List.forall_mem_cons.2 ⟨⟨hc_tm, rfl⟩, (List.forall_mem_cons.2 ⟨⟨hc_ff, rfl⟩, (by simp)⟩)⟩)⟩)⟩) hnd
 refine wl_tail ?_
 refine wl_assoc ?_
 refine wl_ops ?_
 refine wr_run 1 [(4, (.bool (false)))] (by kernel_rfl) ?_
 refine wr_done ?_
 refine wl_assoc ?_
 refine wl_draw0 (fun n => by kernel_rfl) ?_
 refine wd_load H 0 cc 0 _ false rfl (by kernel_rfl) (.ptr c 0) (by kernel_rfl) [] (by kernel_rfl) True.intro (by kernel_rfl) ?_
 refine wd_run 1 [(6, (.int (n)))] (by kernel_rfl) (by kernel_rfl) ?_
 have H2519 := H
 refine wd_call [(.ptr c 0), (.int (n))] (by kernel_rfl) (by kernel_rfl) [] [] (by kernel_rfl) (by kernel_rfl) (WF.mono (tell_ok C c v0 v1 v2 tm es k n _ (H.fact 1 rfl) (H.fact 2 rfl) (H.pick [1, 2] (by decide) rfl) hm (by omega) (by omega) (by omega) (by omega) (by omega) (by omega) g6) ?_)
 rintro r2520 st2521 ⟨n2522, es2523, k2524, rfl, hf2528, hm2525, E2526⟩
 replace H := H.eff1 2 rfl rfl (.map es2523 k2524) E2526
 refine ⟨(by exact ⟨True.intro, True.intro⟩), ?_⟩
 refine wd_load H 3 ff 0 _ false rfl (by kernel_rfl) (.int (f)) (by kernel_rfl) [0] (by kernel_rfl) ⟨(rd_ok H2519 3 ff 0 _ false rfl (.int (f)) (by kernel_rfl)), True.intro⟩ (by kernel_rfl) ?_
 refine wd_pureX (fun y => .int y) _ (ev_int (.int (n2522)) (.int (f)) (by kernel_rfl) (by kernel_rfl) (bx_shr _ _ (by omega))) (by kernel_rfl) (by kernel_rfl) fun n2529 hn2529 => ?_
 replace hn2529 := hn2529 (by unfold I64; omega)
 unfold I64 at hn2529
 refine wd_pureX (fun y => .int y) _ (ev_int (.int (n2529)) (.int (1)) (by kernel_rfl) (by kernel_rfl) (bx_and _ _)) (by kernel_rfl) (by kernel_rfl) fun n2530 hn2530 => ?_
 unfold I64 at hn2530
 refine wd_run 2 [(11, (.bool ((n2530 : Int) == (1 : Int)))), (4, (.bool ((n2530 : Int) == (1 : Int))))] (by kernel_rfl) (by kernel_rfl) ?_
 refine wd_done ?_
 refine wl_ret ?_
 refine post_i (Or.inr rfl) (.bool ((n2530 : Int) == (1 : Int))) (by kernel_rfl) ?_
 exact ⟨(n2530 : Int) == (1 : Int), es2523, k2524, rfl, hm2525, H.eff _ (List.forall_mem_cons.2 ⟨(fun _ => Or.inr hc_cc), (List.forall_mem_cons.2 ⟨(fun _ => Or.inr hc_c), (List.forall_mem_cons.2 ⟨(fun _ => Or.inl (by simp)), (List.forall_mem_cons.2 ⟨(fun _ => Or.inr hc_ff), (by simp)⟩)⟩)⟩)⟩) (List.forall_mem_cons.2 ⟨⟨_, List.mem_of_getElem? (i := 2) rfl, rfl, rfl⟩, (by simp)⟩)⟩

set_option maxHeartbeats 4000000 in
theorem lock1_ok (C : ChChest) (c : Nat) (v0 : Int) (v1 : Int) (v2 : Int) (tm : Nat) (es : List MEnt) (k : Nat) (cc : Nat) (n : Int) (aa : Nat) (ff : Nat) (a : Int) (f : Int) (st : St) (hc_cc : st.get cc = some (.cells [(.ptr c 0)])) (hc_c : st.get c = some (.cells [(.int (C.Words)), (.int (C.Facts)), (lst .any encS C.People), (.int (C.Last)), (lst .any encCopy C.Copies), (lst .any encRule C.Rules), (.int (v0)), (.int (v1)), (.int (v2)), (.map tm)])) (hc_tm : st.get tm = some (.map es k)) (hc_aa : st.get aa = some (.cells [(.int (a))])) (hc_ff : st.get ff = some (.cells [(.int (f))])) (hnd : [cc, c, tm, aa, ff].Nodup) (hm : MapOK KInt (fun x => ∃ n : Int, x = .int n ∧ (-9223372036854775808 ≤ n ∧ n ≤ 9223372036854775807)) es) (g0 : 1 ≤ C.Words ∧ C.Words ≤ 5) (g1 : 1 ≤ C.Facts ∧ C.Facts ≤ 6) (g2 : 0 ≤ C.Last ∧ C.Last ≤ 30) (g3 : (C.People.length : Int) ≤ 3) (g4 : (C.Copies.length : Int) ≤ 6) (g5 : (C.Rules.length : Int) ≤ 4) (g6 : ∀ x ∈ C.Rules, 0 ≤ x.Then ∧ x.Then ≤ C.Facts - 1) (hn : -9223372036854775808 ≤ n ∧ n ≤ 9223372036854775807) (hf : 0 ≤ f ∧ f < 64) (ha : -9223372036854775808 ≤ a ∧ a ≤ 9223372036854775807) : WF Try.prog 60 [(.int (n)), (.ptr cc 0), (.ptr aa 0), (.ptr ff 0)] st fun r st' => ∃ (b2531 : Bool) (es2532 : List MEnt) (k2533 : Nat), r = (.bool (b2531)) ∧ MapOK KInt (fun x => ∃ n : Int, x = .int n ∧ (-9223372036854775808 ≤ n ∧ n ≤ 9223372036854775807)) es2532 ∧ Eff [(tm, .map es2532 k2533)] st st' := by
 refine wf_L c60 rfl ?_
 have H : SP st [⟨cc, .cells [(.ptr c 0)], false⟩, ⟨c, .cells [(.int (C.Words)), (.int (C.Facts)), (lst .any encS C.People), (.int (C.Last)), (lst .any encCopy C.Copies), (lst .any encRule C.Rules), (.int (v0)), (.int (v1)), (.int (v2)), (.map tm)], false⟩, ⟨tm, .map es k, false⟩, ⟨aa, .cells [(.int (a))], false⟩, ⟨ff, .cells [(.int (f))], false⟩] [] st := SP.startm _ (List.forall_mem_cons.2 ⟨⟨hc_cc, rfl⟩, (List.forall_mem_cons.2 ⟨⟨hc_c, rfl⟩, (List.forall_mem_cons.2 ⟨⟨hc_tm, rfl⟩, (List.forall_mem_cons.2 ⟨⟨hc_aa, rfl⟩, (List.forall_mem_cons.2 ⟨⟨hc_ff, rfl⟩, (by simp)⟩)⟩)⟩)⟩)⟩) hnd
 refine wl_tail ?_
 refine wl_assoc ?_
 refine wl_ops ?_
 refine wr_run 1 [(5, (.bool (false)))] (by kernel_rfl) ?_
 refine wr_done ?_
 refine wl_assoc ?_
 refine wl_draw0 (fun n => by kernel_rfl) ?_
 refine wd_load H 0 cc 0 _ false rfl (by kernel_rfl) (.ptr c 0) (by kernel_rfl) [] (by kernel_rfl) True.intro (by kernel_rfl) ?_
 refine wd_load H 3 aa 0 _ false rfl (by kernel_rfl) (.int (a)) (by kernel_rfl) [] (by kernel_rfl) True.intro (by kernel_rfl) ?_
 refine wd_run 1 [(8, (.int (n)))] (by kernel_rfl) (by kernel_rfl) ?_
 refine wd_pureX (fun y => .int y) _ (ev_int (.int (a)) (.int (n)) (by kernel_rfl) (by kernel_rfl) (bx_andNot _ _)) (by kernel_rfl) (by kernel_rfl) fun n2535 hn2535 => ?_
 unfold I64 at hn2535
 have H2536 := H
 refine wd_call [(.ptr c 0), (.int (n2535))] (by kernel_rfl) (by kernel_rfl) [] [] (by kernel_rfl) (by kernel_rfl) (WF.mono (tell_ok C c v0 v1 v2 tm es k n2535 _ (H.fact 1 rfl) (H.fact 2 rfl) (H.pick [1, 2] (by decide) rfl) hm (by omega) (by omega) (by omega) (by omega) (by omega) (by omega) g6) ?_)
 rintro r2537 st2538 ⟨n2539, es2540, k2541, rfl, hf2545, hm2542, E2543⟩
 replace H := H.eff1 2 rfl rfl (.map es2540 k2541) E2543
 refine ⟨(by exact ⟨True.intro, True.intro⟩), ?_⟩
 refine wd_load H 4 ff 0 _ false rfl (by kernel_rfl) (.int (f)) (by kernel_rfl) [0] (by kernel_rfl) ⟨(rd_ok H2536 4 ff 0 _ false rfl (.int (f)) (by kernel_rfl)), True.intro⟩ (by kernel_rfl) ?_
 refine wd_pureX (fun y => .int y) _ (ev_int (.int (n2539)) (.int (f)) (by kernel_rfl) (by kernel_rfl) (bx_shr _ _ (by omega))) (by kernel_rfl) (by kernel_rfl) fun n2546 hn2546 => ?_
 replace hn2546 := hn2546 (by unfold I64; omega)
 unfold I64 at hn2546
 refine wd_pureX (fun y => .int y) _ (ev_int (.int (n2546)) (.int (1)) (by kernel_rfl) (by kernel_rfl) (bx_and _ _)) (by kernel_rfl) (by kernel_rfl) fun n2547 hn2547 => ?_
 unfold I64 at hn2547
 refine wd_run 2 [(14, (.bool ((n2547 : Int) == (0 : Int)))), (5, (.bool ((n2547 : Int) == (0 : Int))))] (by kernel_rfl) (by kernel_rfl) ?_
 refine wd_done ?_
 refine wl_ret ?_
 refine post_i (Or.inr rfl) (.bool ((n2547 : Int) == (0 : Int))) (by kernel_rfl) ?_
 exact ⟨(n2547 : Int) == (0 : Int), es2540, k2541, rfl, hm2542, H.eff _ (List.forall_mem_cons.2 ⟨(fun _ => Or.inr hc_cc), (List.forall_mem_cons.2 ⟨(fun _ => Or.inr hc_c), (List.forall_mem_cons.2 ⟨(fun _ => Or.inl (by simp)), (List.forall_mem_cons.2 ⟨(fun _ => Or.inr hc_aa), (List.forall_mem_cons.2 ⟨(fun _ => Or.inr hc_ff), (by simp)⟩)⟩)⟩)⟩)⟩) (List.forall_mem_cons.2 ⟨⟨_, List.mem_of_getElem? (i := 2) rfl, rfl, rfl⟩, (by simp)⟩)⟩

set_option maxHeartbeats 4000000 in
theorem least1_ok (C : ChChest) (c : Nat) (v0 : Int) (v1 : Int) (v2 : Int) (tm : Nat) (es : List MEnt) (k : Nat) (cc : Nat) (n : Int) (aa : Nat) (a : Int) (st : St) (hc_cc : st.get cc = some (.cells [(.ptr c 0)])) (hc_c : st.get c = some (.cells [(.int (C.Words)), (.int (C.Facts)), (lst .any encS C.People), (.int (C.Last)), (lst .any encCopy C.Copies), (lst .any encRule C.Rules), (.int (v0)), (.int (v1)), (.int (v2)), (.map tm)])) (hc_tm : st.get tm = some (.map es k)) (hc_aa : st.get aa = some (.cells [(.int (a))])) (hnd : [cc, c, tm, aa].Nodup) (hm : MapOK KInt (fun x => ∃ n : Int, x = .int n ∧ (-9223372036854775808 ≤ n ∧ n ≤ 9223372036854775807)) es) (g0 : 1 ≤ C.Words ∧ C.Words ≤ 5) (g1 : 1 ≤ C.Facts ∧ C.Facts ≤ 6) (g2 : 0 ≤ C.Last ∧ C.Last ≤ 30) (g3 : (C.People.length : Int) ≤ 3) (g4 : (C.Copies.length : Int) ≤ 6) (g5 : (C.Rules.length : Int) ≤ 4) (g6 : ∀ x ∈ C.Rules, 0 ≤ x.Then ∧ x.Then ≤ C.Facts - 1) (hn : -9223372036854775808 ≤ n ∧ n ≤ 9223372036854775807) (ha : -9223372036854775808 ≤ a ∧ a ≤ 9223372036854775807) : WF Try.prog 61 [(.int (n)), (.ptr cc 0), (.ptr aa 0)] st fun r st' => ∃ (b2548 : Bool) (es2549 : List MEnt) (k2550 : Nat), r = (.bool (b2548)) ∧ MapOK KInt (fun x => ∃ n : Int, x = .int n ∧ (-9223372036854775808 ≤ n ∧ n ≤ 9223372036854775807)) es2549 ∧ Eff [(tm, .map es2549 k2550)] st st' := by
 refine wf_L c61 rfl ?_
 have H : SP st [⟨cc, .cells [(.ptr c 0)], false⟩, ⟨c, .cells [(.int (C.Words)), (.int (C.Facts)), (lst .any encS C.People), (.int (C.Last)), (lst .any encCopy C.Copies), (lst .any encRule C.Rules), (.int (v0)), (.int (v1)), (.int (v2)), (.map tm)], false⟩, ⟨tm, .map es k, false⟩, ⟨aa, .cells [(.int (a))], false⟩] [] st := SP.startm _ (List.forall_mem_cons.2 ⟨⟨hc_cc, rfl⟩, (List.forall_mem_cons.2 ⟨⟨hc_c, rfl⟩, (List.forall_mem_cons.2 ⟨⟨hc_tm, rfl⟩, (List.forall_mem_cons.2 ⟨⟨hc_aa, rfl⟩, (by simp)⟩)⟩)⟩)⟩) hnd
 refine wl_tail ?_
 refine wl_assoc ?_
 refine wl_ops ?_
 refine wr_run 1 [(4, (.bool (false)))] (by kernel_rfl) ?_
 refine wr_done ?_
 refine wl_assoc ?_
 refine wl_draw0 (fun n => by kernel_rfl) ?_
 refine wd_load H 0 cc 0 _ false rfl (by kernel_rfl) (.ptr c 0) (by kernel_rfl) [] (by kernel_rfl) True.intro (by kernel_rfl) ?_
 refine wd_run 1 [(6, (.int (n)))] (by kernel_rfl) (by kernel_rfl) ?_
 have H2552 := H
 refine wd_call [(.ptr c 0), (.int (n))] (by kernel_rfl) (by kernel_rfl) [] [] (by kernel_rfl) (by kernel_rfl) (WF.mono (tell_ok C c v0 v1 v2 tm es k n _ (H.fact 1 rfl) (H.fact 2 rfl) (H.pick [1, 2] (by decide) rfl) hm (by omega) (by omega) (by omega) (by omega) (by omega) (by omega) g6) ?_)
 rintro r2553 st2554 ⟨n2555, es2556, k2557, rfl, hf2561, hm2558, E2559⟩
 replace H := H.eff1 2 rfl rfl (.map es2556 k2557) E2559
 refine ⟨(by exact ⟨True.intro, True.intro⟩), ?_⟩
 refine wd_load H 0 cc 0 _ false rfl (by kernel_rfl) (.ptr c 0) (by kernel_rfl) [0] (by kernel_rfl) ⟨(rd_ok H2552 0 cc 0 _ false rfl (.ptr c 0) (by kernel_rfl)), True.intro⟩ (by kernel_rfl) ?_
 refine wd_load H 3 aa 0 _ false rfl (by kernel_rfl) (.int (a)) (by kernel_rfl) [0] (by kernel_rfl) ⟨(rd_ok H2552 3 aa 0 _ false rfl (.int (a)) (by kernel_rfl)), True.intro⟩ (by kernel_rfl) ?_
 have H2562 := H
 refine wd_call [(.ptr c 0), (.int (a))] (by kernel_rfl) (by kernel_rfl) [] [] (by kernel_rfl) (by kernel_rfl) (WF.mono (tell_ok C c v0 v1 v2 tm es2556 k2557 a _ (H.fact 1 rfl) (H.fact 2 rfl) (H.pick [1, 2] (by decide) rfl) hm2558 (by omega) (by omega) (by omega) (by omega) (by omega) (by omega) g6) ?_)
 rintro r2563 st2564 ⟨n2565, es2566, k2567, rfl, hf2571, hm2568, E2569⟩
 replace H := H.eff1 2 rfl rfl (.map es2566 k2567) E2569
 refine ⟨(by exact ⟨True.intro, True.intro⟩), ?_⟩
 refine wd_run 2 [(11, (.bool ((n2555 : Int) == (n2565 : Int)))), (4, (.bool ((n2555 : Int) == (n2565 : Int))))] (by kernel_rfl) (by kernel_rfl) ?_
 refine wd_done ?_
 refine wl_ret ?_
 refine post_i (Or.inr rfl) (.bool ((n2555 : Int) == (n2565 : Int))) (by kernel_rfl) ?_
 exact ⟨(n2555 : Int) == (n2565 : Int), es2566, k2567, rfl, hm2568, H.eff _ (List.forall_mem_cons.2 ⟨(fun _ => Or.inr hc_cc), (List.forall_mem_cons.2 ⟨(fun _ => Or.inr hc_c), (List.forall_mem_cons.2 ⟨(fun _ => Or.inl (by simp)), (List.forall_mem_cons.2 ⟨(fun _ => Or.inr hc_aa), (by simp)⟩)⟩)⟩)⟩) (List.forall_mem_cons.2 ⟨⟨_, List.mem_of_getElem? (i := 2) rfl, rfl, rfl⟩, (by simp)⟩)⟩

set_option maxHeartbeats 4000000 in
theorem Knows_ok (C : ChChest) (own : EF.Own) (l : List Int) (st : St) (hp : (C.People.length : Int) ≤ 1048576) (hc : (C.Copies.length : Int) ≤ 1048576) (hr : (C.Rules.length : Int) ≤ 1048576) (hl : (l.length : Int) ≤ 1048576) : WF Try.prog 23 [(.agg [(.int (C.Words)), (.int (C.Facts)), (lst .any encS C.People), (.int (C.Last)), (lst .any encCopy C.Copies), (lst .any encRule C.Rules)]), (lst own encI l)] st fun r st' => ∃ (own2572 : EF.Own) (l2573 : List Int) (e2574 : Int), r = (.tup [(lst own2572 encI l2573), (.int (e2574))]) ∧ ((l2573.length : Int) ≤ 1048576) ∧ (Grown st st' (own2572, 1) ∧ (own2572 = .exact → l2573 = [])) ∧ Ext st st' := by
 refine wf_L c23 rfl ?_
 have H := SP.start st
 refine wl_tail ?_
 refine wl_assoc ?_
 refine wl_ops ?_
 refine wr_box (.agg [(.int (C.Words)), (.int (C.Facts)), (lst .any encS C.People), (.int (C.Last)), (lst .any encCopy C.Copies), (lst .any encRule C.Rules)]) (by kernel_rfl) [(.int (C.Words)), (.int (C.Facts)), (lst .any encS C.People), (.int (C.Last)), (lst .any encCopy C.Copies), (lst .any encRule C.Rules)] (by kernel_rfl) (by kernel_rfl) H (by kernel_rfl) fun a2575 st2576 H => ?_
 refine wr_run 2 [(4, (.list .exact [] 0)), (5, (.int (0)))] (by kernel_rfl) ?_
 refine wr_done ?_
 refine wl_assoc ?_
 refine wl_ops ?_
 refine wr_load H 0 a2575 0 _ true rfl (by kernel_rfl) (.agg [(.int (C.Words)), (.int (C.Facts)), (lst .any encS C.People), (.int (C.Last)), (lst .any encCopy C.Copies), (lst .any encRule C.Rules)]) (by kernel_rfl) (by kernel_rfl) ?_
 refine wr_call [(.agg [(.int (C.Words)), (.int (C.Facts)), (lst .any encS C.People), (.int (C.Last)), (lst .any encCopy C.Copies), (lst .any encRule C.Rules)]), (.list .exact [] 0)] (by kernel_rfl) (by kernel_rfl) (WF.mono (enter_ok C .exact ([]) _ (by first | omega | simp | (simp; omega)) (by first | omega | simp | (simp; omega)) (by first | omega | simp | (simp; omega)) (by first | omega | simp | (simp; omega))) ?_)
 rintro r2577 st2578 (⟨e2579, rfl, hf2590, E2588⟩ | ⟨a2580, tm2581, v2582, v2583, v2584, es2585, k2586, rfl, hf2593, hf2594, hf2595, hf2596, hf2597, hf2598, hf2599, hf2600, hf2601, hf2602, hf2603, hm2587, W2592, E2591⟩)
 ·skip
  replace H := H.then E2588
  refine wr_run 5 [(9, (.tup [(.v (.pointer none)), (.int (e2579))])), (12, (.v (.pointer none))), (13, (.int (e2579))), (6, (.v (.pointer none))), (7, (.int (e2579)))] (by kernel_rfl) ?_
  refine wr_done ?_
  refine wl_assoc ?_
  refine wl_assoc ?_
  refine wl_ops ?_
  refine wr_run 2 [(14, (.int (e2579))), (15, (.bool ((e2579 : Int) != (0 : Int))))] (by kernel_rfl) ?_
  refine wr_done ?_
  refine wl_cond ((e2579 : Int) != (0 : Int)) (by kernel_rfl) (fun c2604 => ?_) (fun c2604 => ?_)
  ·skip
   have c2604' : ¬ ((e2579 : Int) = 0) := by simpa using c2604
   refine wl_assoc ?_
   refine wl_ops ?_
   refine wr_run 3 [(16, (.int (e2579))), (4, (.list .exact [] 0)), (5, (.int (e2579)))] (by kernel_rfl) ?_
   refine wr_done ?_
   refine wl_ret ?_
   refine post_i (Or.inr rfl) (.tup [(.list .exact [] 0), (.int (e2579))]) (by kernel_rfl) ?_
   exact ⟨.exact, [], e2579, rfl, by first | omega | (simp; omega) | simp, ⟨True.intro, fun _ => rfl⟩, H.ext rfl⟩
  ·skip
   have c2604' : (e2579 : Int) = 0 := by simpa using c2604
   exfalso; omega
 ·skip
  replace H : SP st [⟨a2580, .cells [(.int (C.Words)), (.int (C.Facts)), (lst .any encS C.People), (.int (C.Last)), (lst .any encCopy C.Copies), (lst .any encRule C.Rules), (.int (v2582)), (.int (v2583)), (.int (v2584)), (.map tm2581)], true⟩, ⟨tm2581, .map es2585 k2586, true⟩, ⟨a2575, .cells [(.int (C.Words)), (.int (C.Facts)), (lst .any encS C.People), (.int (C.Last)), (lst .any encCopy C.Copies), (lst .any encRule C.Rules)], true⟩] [] st2578 := H.addnew E2591 W2592
  refine wr_run 5 [(9, (.tup [(.ptr a2580 0), (.int (0))])), (12, (.ptr a2580 0)), (13, (.int (0))), (6, (.ptr a2580 0)), (7, (.int (0)))] (by kernel_rfl) ?_
  refine wr_done ?_
  refine wl_assoc ?_
  refine wl_assoc ?_
  refine wl_ops ?_
  refine wr_run 2 [(14, (.int (0))), (15, (.bool (false)))] (by kernel_rfl) ?_
  refine wr_done ?_
  refine wl_cond false (by kernel_rfl) (fun c2605 => by cases c2605) (fun c2605 => ?_)
  clear c2605
  refine wl_skip_seq ?_
  refine wl_assoc ?_
  refine wl_ops ?_
  refine wr_run 2 [(18, (lst own encI l)), (19, (.ptr a2575 4))] (by kernel_rfl) ?_
  refine wr_load H 2 a2575 4 _ true rfl (by kernel_rfl) (lst .any encCopy C.Copies) (by kernel_rfl) (by kernel_rfl) ?_
  refine wr_run 1 [(21, (.int ((C.Copies.length : Int))))] (by kernel_rfl) ?_
  refine wr_call [(lst own encI l), (.int ((C.Copies.length : Int)))] (by kernel_rfl) (by kernel_rfl) (WF.mono (bits_ok own l ((C.Copies.length : Int)) _ (by omega) (by omega)) ?_)
  rintro r2606 st2607 (⟨n2608, e2609, rfl, hf2613, E2611⟩ | ⟨n2610, rfl, hf2616, hf2617, hf2618, E2614⟩)
  ·skip
   replace H := H.then E2611
   refine wr_run 5 [(17, (.tup [(.int (n2608)), (.int (e2609))])), (23, (.int (n2608))), (24, (.int (e2609))), (8, (.int (n2608))), (7, (.int (e2609)))] (by kernel_rfl) ?_
   refine wr_done ?_
   refine wl_assoc ?_
   refine wl_assoc ?_
   refine wl_ops ?_
   refine wr_run 2 [(25, (.int (e2609))), (26, (.bool ((e2609 : Int) != (0 : Int))))] (by kernel_rfl) ?_
   refine wr_done ?_
   refine wl_cond ((e2609 : Int) != (0 : Int)) (by kernel_rfl) (fun c2619 => ?_) (fun c2619 => ?_)
   ·skip
    have c2619' : ¬ ((e2609 : Int) = 0) := by simpa using c2619
    refine wl_assoc ?_
    refine wl_ops ?_
    refine wr_run 3 [(27, (.int (e2609))), (4, (.list .exact [] 0)), (5, (.int (e2609)))] (by kernel_rfl) ?_
    refine wr_done ?_
    refine wl_ret ?_
    refine post_i (Or.inr rfl) (.tup [(.list .exact [] 0), (.int (e2609))]) (by kernel_rfl) ?_
    exact ⟨.exact, [], e2609, rfl, by first | omega | (simp; omega) | simp, ⟨True.intro, fun _ => rfl⟩, H.ext rfl⟩
   ·skip
    have c2619' : (e2609 : Int) = 0 := by simpa using c2619
    exfalso; omega
  ·skip
   replace H := H.then E2614
   refine wr_run 5 [(17, (.tup [(.int (n2610)), (.int (0))])), (23, (.int (n2610))), (24, (.int (0))), (8, (.int (n2610))), (7, (.int (0)))] (by kernel_rfl) ?_
   refine wr_done ?_
   refine wl_assoc ?_
   refine wl_assoc ?_
   refine wl_ops ?_
   refine wr_run 2 [(25, (.int (0))), (26, (.bool (false)))] (by kernel_rfl) ?_
   refine wr_done ?_
   refine wl_cond false (by kernel_rfl) (fun c2620 => by cases c2620) (fun c2620 => ?_)
   clear c2620
   refine wl_skip_seq ?_
   refine wl_assoc ?_
   refine wl_ops ?_
   refine wr_run 2 [(28, (.ptr a2580 0)), (29, (.int (n2610)))] (by kernel_rfl) ?_
   refine wr_call [(.ptr a2580 0), (.int (n2610))] (by kernel_rfl) (by kernel_rfl) (WF.mono (tell_ok C a2580 v2582 v2583 v2584 tm2581 es2585 k2586 n2610 _ (H.fact 0 rfl) (H.fact 1 rfl) (H.pick [0, 1] (by decide) rfl) hm2587 (by omega) (by omega) (by omega) (by omega) (by omega) (by omega) hf2602) ?_)
   rintro r2621 st2622 ⟨n2623, es2624, k2625, rfl, hf2629, hm2626, E2627⟩
   replace H := H.eff1 1 rfl rfl (.map es2624 k2625) E2627
   refine wr_call [(.int (n2623))] (by kernel_rfl) (by kernel_rfl) (WF.mono (list_ok n2623 _ (by omega)) ?_)
   rintro r2630 st2631 ⟨own2632, l2633, rfl, hf2636, hf2637, hf2638, E2634⟩
   have H2639 := H
   replace H := H.then E2634
   obtain ⟨hg2641, hx2642⟩ := hf2638
   replace H := H.addtok H2639 _ _ hg2641
   refine wr_run 2 [(4, (lst own2632 encI l2633)), (5, (.int (0)))] (by kernel_rfl) ?_
   refine wr_done ?_
   refine wl_ret ?_
   refine post_i (Or.inr rfl) (.tup [(lst own2632 encI l2633), (.int (0))]) (by kernel_rfl) ?_
   exact ⟨own2632, l2633, 0, rfl, by first | omega | (simp; omega) | simp, ⟨H.tok 0 rfl, hx2642⟩, H.ext rfl⟩

set_option maxHeartbeats 4000000 in
theorem Why_ok (C : ChChest) (own : EF.Own) (l : List Int) (f : Int) (st : St) (hp : (C.People.length : Int) ≤ 1048576) (hc : (C.Copies.length : Int) ≤ 1048576) (hr : (C.Rules.length : Int) ≤ 1048576) (hl : (l.length : Int) ≤ 1048576) : WF Try.prog 26 [(.agg [(.int (C.Words)), (.int (C.Facts)), (lst .any encS C.People), (.int (C.Last)), (lst .any encCopy C.Copies), (lst .any encRule C.Rules)]), (lst own encI l), (.int (f))] st fun r st' => ∃ (own2643 : EF.Own) (l2644 : List Int) (e2645 : Int), r = (.tup [(lst own2643 encI l2644), (.int (e2645))]) ∧ ((l2644.length : Int) ≤ 1048576) ∧ (Grown st st' (own2643, 1) ∧ (own2643 = .exact → l2644 = [])) ∧ Ext st st' := by
 refine wf_L c26 rfl ?_
 have H := SP.start st
 refine wl_tail ?_
 refine wl_assoc ?_
 refine wl_ops ?_
 refine wr_box (.agg [(.int (C.Words)), (.int (C.Facts)), (lst .any encS C.People), (.int (C.Last)), (lst .any encCopy C.Copies), (lst .any encRule C.Rules)]) (by kernel_rfl) [(.int (C.Words)), (.int (C.Facts)), (lst .any encS C.People), (.int (C.Last)), (lst .any encCopy C.Copies), (lst .any encRule C.Rules)] (by kernel_rfl) (by kernel_rfl) H (by kernel_rfl) fun a2646 st2647 H => ?_
 refine wr_box (.int (f)) (by kernel_rfl) [(.int (f))] (by kernel_rfl) (by kernel_rfl) H (by kernel_rfl) fun a2648 st2649 H => ?_
 refine wr_run 2 [(6, (.list .exact [] 0)), (7, (.int (0)))] (by kernel_rfl) ?_
 refine wr_done ?_
 refine wl_assoc ?_
 refine wl_ops ?_
 refine wr_load H 1 a2646 0 _ true rfl (by kernel_rfl) (.agg [(.int (C.Words)), (.int (C.Facts)), (lst .any encS C.People), (.int (C.Last)), (lst .any encCopy C.Copies), (lst .any encRule C.Rules)]) (by kernel_rfl) (by kernel_rfl) ?_
 refine wr_load H 0 a2648 0 _ true rfl (by kernel_rfl) (.int (f)) (by kernel_rfl) (by kernel_rfl) ?_
 refine wr_run 1 [(15, (.ptr a2646 1))] (by kernel_rfl) ?_
 refine wr_load H 1 a2646 1 _ true rfl (by kernel_rfl) (.int (C.Facts)) (by kernel_rfl) (by kernel_rfl) ?_
 refine wr_run 1 [(17, (lst .exact encI [f, C.Facts]))] (by kernel_rfl) ?_
 refine wr_call [(.agg [(.int (C.Words)), (.int (C.Facts)), (lst .any encS C.People), (.int (C.Last)), (lst .any encCopy C.Copies), (lst .any encRule C.Rules)]), (lst .exact encI [f, C.Facts])] (by kernel_rfl) (by kernel_rfl) (WF.mono (enter_ok C .exact ([f, C.Facts]) _ (by first | omega | simp | (simp; omega)) (by first | omega | simp | (simp; omega)) (by first | omega | simp | (simp; omega)) (by first | omega | simp | (simp; omega))) ?_)
 rintro r2650 st2651 (⟨e2652, rfl, hf2663, E2661⟩ | ⟨a2653, tm2654, v2655, v2656, v2657, es2658, k2659, rfl, hf2666, hf2667, hf2668, hf2669, hf2670, hf2671, hf2672, hf2673, hf2674, hf2675, hf2676, hm2660, W2665, E2664⟩)
 ·skip
  replace H := H.then E2661
  refine wr_run 3 [(12, (.tup [(.v (.pointer none)), (.int (e2652))])), (19, (.v (.pointer none))), (20, (.int (e2652)))] (by kernel_rfl) ?_
  refine wr_alloc H (by kernel_rfl) fun a2677 st2678 H => ?_
  refine wr_store H 0 a2677 0 _ true rfl (by kernel_rfl) (.v (.pointer none)) (by kernel_rfl) [(.v (.pointer none))] (by kernel_rfl) (by kernel_rfl) (by kernel_rfl) (Nat.le_of_ble_eq_true rfl) (by kernel_rfl) (by kernel_rfl) fun st2679 H => ?_
  refine wr_run 1 [(9, (.int (e2652)))] (by kernel_rfl) ?_
  refine wr_done ?_
  refine wl_assoc ?_
  refine wl_assoc ?_
  refine wl_ops ?_
  refine wr_run 2 [(21, (.int (e2652))), (22, (.bool ((e2652 : Int) == (0 : Int))))] (by kernel_rfl) ?_
  refine wr_done ?_
  refine wl_cond ((e2652 : Int) == (0 : Int)) (by kernel_rfl) (fun c2680 => ?_) (fun c2680 => ?_)
  ·skip
   have c2680' : (e2652 : Int) = 0 := by simpa using c2680
   exfalso; omega
  ·skip
   have c2680' : ¬ ((e2652 : Int) = 0) := by simpa using c2680
   refine wl_skip_seq ?_
   refine wl_assoc ?_
   refine wl_assoc ?_
   refine wl_ops ?_
   refine wr_run 2 [(31, (.int (e2652))), (32, (.bool ((e2652 : Int) != (0 : Int))))] (by kernel_rfl) ?_
   refine wr_done ?_
   refine wl_cond ((e2652 : Int) != (0 : Int)) (by kernel_rfl) (fun c2681 => ?_) (fun c2681 => ?_)
   ·skip
    have c2681' : ¬ ((e2652 : Int) = 0) := by simpa using c2681
    refine wl_assoc ?_
    refine wl_ops ?_
    refine wr_run 3 [(33, (.int (e2652))), (6, (.list .exact [] 0)), (7, (.int (e2652)))] (by kernel_rfl) ?_
    refine wr_done ?_
    refine wl_ret ?_
    refine post_i (Or.inr rfl) (.tup [(.list .exact [] 0), (.int (e2652))]) (by kernel_rfl) ?_
    exact ⟨.exact, [], e2652, rfl, by first | omega | (simp; omega) | simp, ⟨True.intro, fun _ => rfl⟩, H.ext rfl⟩
   ·skip
    have c2681' : (e2652 : Int) = 0 := by simpa using c2681
    exfalso; omega
 ·skip
  have hr2682 := hf2676 0 (f) (C.Facts) rfl rfl (by omega)
  replace H : SP st [⟨a2653, .cells [(.int (C.Words)), (.int (C.Facts)), (lst .any encS C.People), (.int (C.Last)), (lst .any encCopy C.Copies), (lst .any encRule C.Rules), (.int (v2655)), (.int (v2656)), (.int (v2657)), (.map tm2654)], true⟩, ⟨tm2654, .map es2658 k2659, true⟩, ⟨a2648, .cells [(.int (f))], true⟩, ⟨a2646, .cells [(.int (C.Words)), (.int (C.Facts)), (lst .any encS C.People), (.int (C.Last)), (lst .any encCopy C.Copies), (lst .any encRule C.Rules)], true⟩] [] st2651 := H.addnew E2664 W2665
  refine wr_run 3 [(12, (.tup [(.ptr a2653 0), (.int (0))])), (19, (.ptr a2653 0)), (20, (.int (0)))] (by kernel_rfl) ?_
  refine wr_alloc H (by kernel_rfl) fun a2683 st2684 H => ?_
  refine wr_store H 0 a2683 0 _ true rfl (by kernel_rfl) (.ptr a2653 0) (by kernel_rfl) [(.ptr a2653 0)] (by kernel_rfl) (by kernel_rfl) (by kernel_rfl) (Nat.le_of_ble_eq_true rfl) (by kernel_rfl) (by kernel_rfl) fun st2685 H => ?_
  refine wr_run 1 [(9, (.int (0)))] (by kernel_rfl) ?_
  refine wr_done ?_
  refine wl_assoc ?_
  refine wl_assoc ?_
  refine wl_ops ?_
  refine wr_run 2 [(21, (.int (0))), (22, (.bool (true)))] (by kernel_rfl) ?_
  refine wr_done ?_
  refine wl_cond true (by kernel_rfl) (fun c2686 => ?_) (fun c2686 => by cases c2686)
  clear c2686
  refine wl_ops ?_
  refine wr_run 2 [(24, (lst own encI l)), (25, (.ptr a2646 4))] (by kernel_rfl) ?_
  refine wr_load H 4 a2646 4 _ true rfl (by kernel_rfl) (lst .any encCopy C.Copies) (by kernel_rfl) (by kernel_rfl) ?_
  refine wr_run 1 [(27, (.int ((C.Copies.length : Int))))] (by kernel_rfl) ?_
  refine wr_call [(lst own encI l), (.int ((C.Copies.length : Int)))] (by kernel_rfl) (by kernel_rfl) (WF.mono (bits_ok own l ((C.Copies.length : Int)) _ (by omega) (by omega)) ?_)
  rintro r2687 st2688 (⟨n2689, e2690, rfl, hf2694, E2692⟩ | ⟨n2691, rfl, hf2697, hf2698, hf2699, E2695⟩)
  ·skip
   replace H := H.then E2692
   refine wr_run 4 [(23, (.tup [(.int (n2689)), (.int (e2690))])), (29, (.int (n2689))), (30, (.int (e2690))), (9, (.int (e2690)))] (by kernel_rfl) ?_
   refine wr_done ?_
   refine wl_assoc ?_
   refine wl_assoc ?_
   refine wl_ops ?_
   refine wr_run 2 [(31, (.int (e2690))), (32, (.bool ((e2690 : Int) != (0 : Int))))] (by kernel_rfl) ?_
   refine wr_done ?_
   refine wl_cond ((e2690 : Int) != (0 : Int)) (by kernel_rfl) (fun c2700 => ?_) (fun c2700 => ?_)
   ·skip
    have c2700' : ¬ ((e2690 : Int) = 0) := by simpa using c2700
    refine wl_assoc ?_
    refine wl_ops ?_
    refine wr_run 3 [(33, (.int (e2690))), (6, (.list .exact [] 0)), (7, (.int (e2690)))] (by kernel_rfl) ?_
    refine wr_done ?_
    refine wl_ret ?_
    refine post_i (Or.inr rfl) (.tup [(.list .exact [] 0), (.int (e2690))]) (by kernel_rfl) ?_
    exact ⟨.exact, [], e2690, rfl, by first | omega | (simp; omega) | simp, ⟨True.intro, fun _ => rfl⟩, H.ext rfl⟩
   ·skip
    have c2700' : (e2690 : Int) = 0 := by simpa using c2700
    exfalso; omega
  ·skip
   replace H := H.then E2695
   refine wr_run 4 [(23, (.tup [(.int (n2691)), (.int (0))])), (29, (.int (n2691))), (30, (.int (0))), (9, (.int (0)))] (by kernel_rfl) ?_
   refine wr_done ?_
   refine wl_assoc ?_
   refine wl_assoc ?_
   refine wl_ops ?_
   refine wr_run 2 [(31, (.int (0))), (32, (.bool (false)))] (by kernel_rfl) ?_
   refine wr_done ?_
   refine wl_cond false (by kernel_rfl) (fun c2701 => by cases c2701) (fun c2701 => ?_)
   clear c2701
   refine wl_skip_seq ?_
   refine wl_assoc ?_
   refine wl_ops ?_
   refine wr_run 3 [(35, (lst own encI l)), (36, (.fn 59 [] [(.ptr a2683 0), (.ptr a2648 0)])), (37, (.agg [(.fn 59 [] [(.ptr a2683 0), (.ptr a2648 0)])]))] (by kernel_rfl) ?_
   refine wr_call [(lst own encI l), (.agg [(.fn 59 [] [(.ptr a2683 0), (.ptr a2648 0)])])] (by kernel_rfl) (by kernel_rfl) ?_
   refine wf_L c55 rfl ?_
   refine wl_tail ?_
   refine wl_assoc ?_
   refine wl_ops ?_
   refine wr_box (.agg [(.fn 59 [] [(.ptr a2683 0), (.ptr a2648 0)])]) (by kernel_rfl) [(.fn 59 [] [(.ptr a2683 0), (.ptr a2648 0)])] (by kernel_rfl) (by kernel_rfl) H (by kernel_rfl) fun a2702 st2703 H => ?_
   refine wr_alloc H (by kernel_rfl) fun a2704 st2705 H => ?_
   refine wr_alloc H (by kernel_rfl) fun a2706 st2707 H => ?_
   refine wr_done ?_
   refine wl_assoc ?_
   refine wl_assoc ?_
   refine wl_ops ?_
   refine wr_run 1 [(7, (lst own encI l))] (by kernel_rfl) ?_
   refine wr_call [(lst own encI l)] (by kernel_rfl) (by kernel_rfl) ?_
   refine wf_L c73 rfl ?_
   refine wl_tail ?_
   refine wl_assoc ?_
   refine wl_ops ?_
   refine wr_box (lst own encI l) (by kernel_rfl) [(lst own encI l)] (by kernel_rfl) (by kernel_rfl) H (by kernel_rfl) fun a2710 st2711 H => ?_
   refine wr_run 1 [(2, (.v .nilFunc))] (by kernel_rfl) ?_
   refine wr_done ?_
   refine wl_assoc ?_
   refine wl_ops ?_
   refine wr_run 2 [(3, (.fn 83 [] [(.ptr a2710 0)])), (2, (.fn 83 [] [(.ptr a2710 0)]))] (by kernel_rfl) ?_
   refine wr_done ?_
   refine wl_ret ?_
   refine post_i (Or.inr rfl) (.fn 83 [] [(.ptr a2710 0)]) (by kernel_rfl) ?_
   refine wr_done ?_
   refine wl_frame [(lst own encI l), (.agg [(.fn 59 [] [(.ptr a2683 0), (.ptr a2648 0)])]), .junk, (.ptr a2702 0), (.ptr a2704 0), (.ptr a2706 0), .junk, (lst own encI l), (.fn 83 [] [(.ptr a2710 0)]), .junk, .junk, .junk, .junk, .junk, .junk, .junk] (by kernel_rfl) ?_
   refine wl_rangef H 83 [] [(.ptr a2710 0)] (by kernel_rfl) fun l2712 s2712 R2712 H hN2712 hE2712 hX2712 => ?_
   have hlt2712 : ∀ a ∈ [l2712, a2710, a2706, a2704, a2702, a2683, a2653, tm2654, a2648, a2646], a < s2712.next := (List.forall_mem_cons.2 ⟨St.lt_of_get (H.fact 0 rfl), (List.forall_mem_cons.2 ⟨St.lt_of_get (H.fact 1 rfl), (List.forall_mem_cons.2 ⟨St.lt_of_get (H.fact 2 rfl), (List.forall_mem_cons.2 ⟨St.lt_of_get (H.fact 3 rfl), (List.forall_mem_cons.2 ⟨St.lt_of_get (H.fact 4 rfl), (List.forall_mem_cons.2 ⟨St.lt_of_get (H.fact 5 rfl), (List.forall_mem_cons.2 ⟨St.lt_of_get (H.fact 6 rfl), (List.forall_mem_cons.2 ⟨St.lt_of_get (H.fact 7 rfl), (List.forall_mem_cons.2 ⟨St.lt_of_get (H.fact 8 rfl), (List.forall_mem_cons.2 ⟨St.lt_of_get (H.fact 9 rfl), (by simp)⟩)⟩)⟩)⟩)⟩)⟩)⟩)⟩)⟩)⟩)
   have hbs2712 := H.next
   suffices key2712 : ∃ I : Bool → St → Prop, I true s2712 ∧ Lasts s2712.next I ∧ YieldsTo Try.prog (.yld l2712) s2712.next I (fun xs : List AV => ∃ x : Int, xs = [.int x] ∧ (-9223372036854775808 ≤ x ∧ x ≤ 9223372036854775807)) ∧ (∀ b s, I b s → s.get a2710 = some (.cells [(lst own encI l)])) ∧ ∀ b s, I b s → R2712 s by
    obtain ⟨I, h1, h2, h3, h4, h5⟩ := key2712
    exact WF.mono (some1_ok I s2712.next l2712 a2710 own l h2 h3 h4 s2712 (Nat.le_refl _) h1 (by omega) (fun x hx => by have hf2699x := hf2699 x hx; omega)) fun r s ⟨b, _, h, _⟩ => h5 b s h
   refine ⟨(fun (b : Bool) (s : St) => (b = true ∧ ∃ (es2739 : List MEnt) (k2740 : Nat), SP st [⟨l2712, .loop .ready none (L [(lst own encI l), (.agg [(.fn 59 [] [(.ptr a2683 0), (.ptr a2648 0)])]), .junk, (.ptr a2702 0), (.ptr a2704 0), (.ptr a2706 0), .junk, (lst own encI l), (.fn 83 [] [(.ptr a2710 0)]), .junk, .junk, .junk, .junk, .junk, .junk, .junk]) 16 [9] (rfA Try.f55 0) (rfB Try.f55 0), true⟩, ⟨a2710, .cells [(lst own encI l)], true⟩, ⟨a2706, .cells [(.bool (false))], true⟩, ⟨a2704, .cells [(.list .exact [] 0)], true⟩, ⟨a2702, .cells [(.fn 59 [] [(.ptr a2683 0), (.ptr a2648 0)])], true⟩, ⟨a2683, .cells [(.ptr a2653 0)], true⟩, ⟨a2653, .cells [(.int (C.Words)), (.int (C.Facts)), (lst .any encS C.People), (.int (C.Last)), (lst .any encCopy C.Copies), (lst .any encRule C.Rules), (.int (v2655)), (.int (v2656)), (.int (v2657)), (.map tm2654)], true⟩, ⟨tm2654, .map es2739 k2740, true⟩, ⟨a2648, .cells [(.int (f))], true⟩, ⟨a2646, .cells [(.int (C.Words)), (.int (C.Facts)), (lst .any encS C.People), (.int (C.Last)), (lst .any encCopy C.Copies), (lst .any encRule C.Rules)], true⟩] [] s ∧ MapOK KInt (fun x => ∃ n : Int, x = .int n ∧ (-9223372036854775808 ≤ n ∧ n ≤ 9223372036854775807)) es2739) ∨ (b = false ∧ ∃ (own2794 : EF.Own) (l2795 : List Int) (es2796 : List MEnt) (k2797 : Nat), SP st [⟨l2712, .loop .done (some .ret) (L [(lst own encI l), (.agg [(.fn 59 [] [(.ptr a2683 0), (.ptr a2648 0)])]), .junk, (.ptr a2702 0), (.ptr a2704 0), (.ptr a2706 0), .junk, (lst own encI l), (.fn 83 [] [(.ptr a2710 0)]), .junk, .junk, .junk, .junk, .junk, .junk, .junk]) 16 [9] (rfA Try.f55 0) (rfB Try.f55 0), true⟩, ⟨a2710, .cells [(lst own encI l)], true⟩, ⟨a2706, .cells [(.bool (true))], true⟩, ⟨a2704, .cells [(lst own2794 encI l2795)], true⟩, ⟨a2702, .cells [(.fn 59 [] [(.ptr a2683 0), (.ptr a2648 0)])], true⟩, ⟨a2683, .cells [(.ptr a2653 0)], true⟩, ⟨a2653, .cells [(.int (C.Words)), (.int (C.Facts)), (lst .any encS C.People), (.int (C.Last)), (lst .any encCopy C.Copies), (lst .any encRule C.Rules), (.int (v2655)), (.int (v2656)), (.int (v2657)), (.map tm2654)], true⟩, ⟨tm2654, .map es2796 k2797, true⟩, ⟨a2648, .cells [(.int (f))], true⟩, ⟨a2646, .cells [(.int (C.Words)), (.int (C.Facts)), (lst .any encS C.People), (.int (C.Last)), (lst .any encCopy C.Copies), (lst .any encRule C.Rules)], true⟩] [(own2794, 1)] s ∧ MapOK KInt (fun x => ∃ n : Int, x = .int n ∧ (-9223372036854775808 ≤ n ∧ n ≤ 9223372036854775807)) es2796 ∧ ((l2795.length : Int) ≤ 64) ∧ (own2794 = .exact → l2795 = []))), Or.inl ⟨rfl, es2658, k2659, H, hm2660⟩, ?_, ?_, ?_, ?_⟩
   all_goals clear H
   ·skip
    rintro b s s' (⟨hb, es2739, k2740, HS, hm2741⟩ | ⟨hb, own2794, l2795, es2796, k2797, HS, hm2798, hf2712_0, hx_l2795⟩) hr
    ·exact Or.inl ⟨hb, es2739, k2740, HS.relied hbs2712 (fun c hc => hlt2712 c.a (List.mem_map.2 ⟨c, hc, rfl⟩)) hr, hm2741⟩
    ·exact Or.inr (⟨hb, own2794, l2795, es2796, k2797, HS.relied hbs2712 (fun c hc => hlt2712 c.a (List.mem_map.2 ⟨c, hc, rfl⟩)) hr, hm2798, hf2712_0, hx_l2795⟩)
   ·skip
    rintro xs sb2712 (⟨hb, es2739, k2740, HS, hm2741⟩ | ⟨hb, own2794, l2795, es2796, k2797, HS, hm2798, hf2712_0, hx_l2795⟩) hx
    ·skip
     obtain ⟨x2799, rfl, hx⟩ := hx
     have hy2712_0 := hx
     have H := HS.restart [⟨l2712, .loop .ready none (L [(lst own encI l), (.agg [(.fn 59 [] [(.ptr a2683 0), (.ptr a2648 0)])]), .junk, (.ptr a2702 0), (.ptr a2704 0), (.ptr a2706 0), .junk, (lst own encI l), (.fn 83 [] [(.ptr a2710 0)]), .junk, .junk, .junk, .junk, .junk, .junk, .junk]) 16 [9] (rfA Try.f55 0) (rfB Try.f55 0), false⟩, ⟨a2710, .cells [(lst own encI l)], false⟩, ⟨a2706, .cells [(.bool (false))], false⟩, ⟨a2704, .cells [(.list .exact [] 0)], false⟩, ⟨a2702, .cells [(.fn 59 [] [(.ptr a2683 0), (.ptr a2648 0)])], false⟩, ⟨a2683, .cells [(.ptr a2653 0)], false⟩, ⟨a2653, .cells [(.int (C.Words)), (.int (C.Facts)), (lst .any encS C.People), (.int (C.Last)), (lst .any encCopy C.Copies), (lst .any encRule C.Rules), (.int (v2655)), (.int (v2656)), (.int (v2657)), (.map tm2654)], false⟩, ⟨tm2654, .map es2739 k2740, false⟩, ⟨a2648, .cells [(.int (f))], false⟩, ⟨a2646, .cells [(.int (C.Words)), (.int (C.Facts)), (lst .any encS C.People), (.int (C.Last)), (lst .any encCopy C.Copies), (lst .any encRule C.Rules)], false⟩] rfl rfl rfl
     refine wy_body [(.int (x2799))] H a55_0 b55_0 rfl (by kernel_rfl) fun Q1 Q2 hA2712 hB2712 hC2712 => ?_
     refine wl_frame [(lst own encI l), (.agg [(.fn 59 [] [(.ptr a2683 0), (.ptr a2648 0)])]), .junk, (.ptr a2702 0), (.ptr a2704 0), (.ptr a2706 0), .junk, (lst own encI l), (.fn 83 [] [(.ptr a2710 0)]), (.int (x2799)), .junk, .junk, .junk, .junk, .junk, .junk] (by kernel_rfl) ?_
     refine wl_tail ?_
     refine wl_ops ?_
     refine wr_run 1 [(6, (.int (x2799)))] (by kernel_rfl) ?_
     refine wr_done ?_
     refine wl_skip ?_
     refine hA2712 _ _ _ _ _ _ H fun st2800 H => ?_
     refine wl_tail ?_
     refine wl_block fun Q2801 hN2801 hE2801 hX2801 => ?_
     refine wl_tail ?_
     refine wl_assoc ?_
     refine wl_ops ?_
     refine wr_run 1 [(10, (.ptr a2702 0))] (by kernel_rfl) ?_
     refine wr_load H 4 a2702 0 _ false rfl (by kernel_rfl) (.fn 59 [] [(.ptr a2683 0), (.ptr a2648 0)]) (by kernel_rfl) (by kernel_rfl) ?_
     refine wr_run 1 [(12, (.int (x2799)))] (by kernel_rfl) ?_
     refine wr_callv (.fn 59 [] [(.ptr a2683 0), (.ptr a2648 0)]) (by kernel_rfl) [(.int (x2799))] (by kernel_rfl) (by kernel_rfl) (WF.mono (why1_ok C a2653 v2655 v2656 v2657 tm2654 es2739 k2740 a2683 x2799 a2648 f _ (H.fact 5 rfl) (H.fact 6 rfl) (H.fact 7 rfl) (H.fact 8 rfl) (H.pick [5, 6, 7, 8] (by decide) rfl) hm2741 (by omega) (by omega) (by omega) (by omega) (by omega) (by omega) hf2675 (by omega) (by omega)) ?_)
     rintro r2802 st2803 ⟨b2804, es2805, k2806, rfl, hm2807, E2808⟩
     replace H := H.eff1 7 rfl rfl (.map es2805 k2806) E2808
     refine wr_done ?_
     refine wl_cond (b2804) (by kernel_rfl) (fun c2810 => ?_) (fun c2810 => ?_)
     ·skip
      refine wl_assoc ?_
      refine wl_ops ?_
      refine wr_run 1 [(14, (.int (x2799)))] (by kernel_rfl) ?_
      refine wr_call [(.int (x2799))] (by kernel_rfl) (by kernel_rfl) (WF.mono (list_ok x2799 _ (by omega)) ?_)
      rintro r2811 st2812 ⟨own2813, l2814, rfl, hf2817, hf2818, hf2819, E2815⟩
      have H2820 := H
      replace H := H.then E2815
      obtain ⟨hg2822, hx2823⟩ := hf2819
      replace H := H.addtok H2820 _ _ hg2822
      refine wr_store H 3 a2704 0 _ false rfl (by kernel_rfl) (lst own2813 encI l2814) (by kernel_rfl) [(lst own2813 encI l2814)] (by kernel_rfl) (by kernel_rfl) (by kernel_rfl) (Nat.le_of_ble_eq_true rfl) (by kernel_rfl) (by kernel_rfl) fun st2824 H => ?_
      refine wr_store H 2 a2706 0 _ false rfl (by kernel_rfl) (.bool (true)) (by kernel_rfl) [(.bool (true))] (by kernel_rfl) (by kernel_rfl) (by kernel_rfl) (Nat.le_of_ble_eq_true rfl) (by kernel_rfl) (by kernel_rfl) fun st2825 H => ?_
      refine wr_done ?_
      refine wl_ret ?_
      refine hX2801 _ _ _ (by decide) (by decide) ?_
      refine hC2712 _ _ _ _ _ _ _ (by decide) H fun st2826 H => ?_
      exact ⟨false, rfl, Or.inr (⟨rfl, own2813, l2814, es2805, k2806, HS.compose (m2 := [⟨l2712, .loop .done (some .ret) (L [(lst own encI l), (.agg [(.fn 59 [] [(.ptr a2683 0), (.ptr a2648 0)])]), .junk, (.ptr a2702 0), (.ptr a2704 0), (.ptr a2706 0), .junk, (lst own encI l), (.fn 83 [] [(.ptr a2710 0)]), .junk, .junk, .junk, .junk, .junk, .junk, .junk]) 16 [9] (rfA Try.f55 0) (rfB Try.f55 0), true⟩, ⟨a2710, .cells [(lst own encI l)], true⟩, ⟨a2706, .cells [(.bool (true))], true⟩, ⟨a2704, .cells [(lst own2813 encI l2814)], true⟩, ⟨a2702, .cells [(.fn 59 [] [(.ptr a2683 0), (.ptr a2648 0)])], true⟩, ⟨a2683, .cells [(.ptr a2653 0)], true⟩, ⟨a2653, .cells [(.int (C.Words)), (.int (C.Facts)), (lst .any encS C.People), (.int (C.Last)), (lst .any encCopy C.Copies), (lst .any encRule C.Rules), (.int (v2655)), (.int (v2656)), (.int (v2657)), (.map tm2654)], true⟩, ⟨tm2654, .map es2805 k2806, true⟩, ⟨a2648, .cells [(.int (f))], true⟩, ⟨a2646, .cells [(.int (C.Words)), (.int (C.Facts)), (lst .any encS C.People), (.int (C.Last)), (lst .any encCopy C.Copies), (lst .any encRule C.Rules)], true⟩]) H rfl rfl rfl rfl, hm2807, by omega, hx2823⟩), SP.body_keep HS.toks_arr H (fun c hc _ => hlt2712 c.a (List.mem_map.2 ⟨c, hc, rfl⟩))⟩
     ·skip
      refine wl_skip_seq ?_
      refine wl_skip ?_
      refine hN2801 _ _ ?_
      refine wl_skip ?_
      refine hB2712 _ _ _ _ _ _ H fun st2827 H => ?_
      exact ⟨true, rfl, Or.inl ⟨rfl, es2805, k2806, HS.compose (m2 := [⟨l2712, .loop .ready none (L [(lst own encI l), (.agg [(.fn 59 [] [(.ptr a2683 0), (.ptr a2648 0)])]), .junk, (.ptr a2702 0), (.ptr a2704 0), (.ptr a2706 0), .junk, (lst own encI l), (.fn 83 [] [(.ptr a2710 0)]), .junk, .junk, .junk, .junk, .junk, .junk, .junk]) 16 [9] (rfA Try.f55 0) (rfB Try.f55 0), true⟩, ⟨a2710, .cells [(lst own encI l)], true⟩, ⟨a2706, .cells [(.bool (false))], true⟩, ⟨a2704, .cells [(.list .exact [] 0)], true⟩, ⟨a2702, .cells [(.fn 59 [] [(.ptr a2683 0), (.ptr a2648 0)])], true⟩, ⟨a2683, .cells [(.ptr a2653 0)], true⟩, ⟨a2653, .cells [(.int (C.Words)), (.int (C.Facts)), (lst .any encS C.People), (.int (C.Last)), (lst .any encCopy C.Copies), (lst .any encRule C.Rules), (.int (v2655)), (.int (v2656)), (.int (v2657)), (.map tm2654)], true⟩, ⟨tm2654, .map es2805 k2806, true⟩, ⟨a2648, .cells [(.int (f))], true⟩, ⟨a2646, .cells [(.int (C.Words)), (.int (C.Facts)), (lst .any encS C.People), (.int (C.Last)), (lst .any encCopy C.Copies), (lst .any encRule C.Rules)], true⟩]) H rfl rfl rfl rfl, hm2807⟩, SP.body_keep HS.toks_arr H (fun c hc _ => hlt2712 c.a (List.mem_map.2 ⟨c, hc, rfl⟩))⟩
    ·cases hb
   ·skip
    rintro b s (⟨hb, es2739, k2740, HS, hm2741⟩ | ⟨hb, own2794, l2795, es2796, k2797, HS, hm2798, hf2712_0, hx_l2795⟩)
    ·exact HS.fact 1 rfl
    ·exact HS.fact 1 rfl
   ·skip
    rintro b s (⟨hb, es2739, k2740, H, hm2741⟩ | ⟨hb, own2794, l2795, es2796, k2797, H, hm2798, hf2712_0, hx_l2795⟩)
    ·skip
     clear hb
     refine hN2712 _ _ _ _ H (by decide) fun st2828 H => ?_
     refine wl_assoc ?_
     refine wl_ops ?_
     refine wr_store H 2 a2704 0 _ true rfl (by kernel_rfl) (.list .exact [] 0) (by kernel_rfl) [(.list .exact [] 0)] (by kernel_rfl) (by kernel_rfl) (by kernel_rfl) (Nat.le_of_ble_eq_true rfl) (by kernel_rfl) (by kernel_rfl) fun st2829 H => ?_
     refine wr_store H 1 a2706 0 _ true rfl (by kernel_rfl) (.bool (false)) (by kernel_rfl) [(.bool (false))] (by kernel_rfl) (by kernel_rfl) (by kernel_rfl) (Nat.le_of_ble_eq_true rfl) (by kernel_rfl) (by kernel_rfl) fun st2830 H => ?_
     refine wr_done ?_
     refine wl_ret ?_
     refine post_i (Or.inr rfl) (.tup [(.list .exact [] 0), (.bool (false))]) (resV_many (resX (resC (g := false) (s := 1) (o := 0) (by kernel_rfl) (by kernel_rfl) (by kernel_rfl) (H.fact 2 rfl) (by kernel_rfl)) (resX (resC (g := false) (s := 1) (o := 0) (by kernel_rfl) (by kernel_rfl) (by kernel_rfl) (H.fact 1 rfl) (by kernel_rfl)) resN)) (by simp)) ?_
     refine wr_run 5 [(34, (.tup [(.list .exact [] 0), (.bool (false))])), (39, (.list .exact [] 0)), (40, (.bool (false))), (10, (.list .exact [] 0)), (11, (.bool (false)))] (by kernel_rfl) ?_
     refine wr_done ?_
     refine wl_assoc ?_
     refine wl_assoc ?_
     refine wl_ops ?_
     refine wr_run 2 [(41, (.bool (false))), (42, (.bool (true)))] (by kernel_rfl) ?_
     refine wr_done ?_
     refine wl_cond true (by kernel_rfl) (fun c2831 => ?_) (fun c2831 => by cases c2831)
     clear c2831
     refine wl_assoc ?_
     refine wl_ops ?_
     refine wr_run 2 [(6, (.list .exact [] 0)), (7, (.int (9)))] (by kernel_rfl) ?_
     refine wr_done ?_
     refine wl_ret ?_
     refine post_i (Or.inr rfl) (.tup [(.list .exact [] 0), (.int (9))]) (by kernel_rfl) ?_
     exact ⟨.exact, [], 9, rfl, by first | omega | (simp; omega) | simp, ⟨True.intro, fun _ => rfl⟩, H.ext rfl⟩
    ·skip
     clear hb
     refine hX2712 _ _ _ _ _ (by decide) (by decide) H (by decide) fun st2832 H => ?_
     refine post_i (Or.inr rfl) (.tup [(lst own2794 encI l2795), (.bool (true))]) (resV_many (resX (resC (g := false) (s := 1) (o := 0) (by kernel_rfl) (by kernel_rfl) (by kernel_rfl) (H.fact 2 rfl) (by kernel_rfl)) (resX (resC (g := false) (s := 1) (o := 0) (by kernel_rfl) (by kernel_rfl) (by kernel_rfl) (H.fact 1 rfl) (by kernel_rfl)) resN)) (by simp)) ?_
     refine wr_run 5 [(34, (.tup [(lst own2794 encI l2795), (.bool (true))])), (39, (lst own2794 encI l2795)), (40, (.bool (true))), (10, (lst own2794 encI l2795)), (11, (.bool (true)))] (by kernel_rfl) ?_
     refine wr_done ?_
     refine wl_assoc ?_
     refine wl_assoc ?_
     refine wl_ops ?_
     refine wr_run 2 [(41, (.bool (true))), (42, (.bool (false)))] (by kernel_rfl) ?_
     refine wr_done ?_
     refine wl_cond false (by kernel_rfl) (fun c2833 => by cases c2833) (fun c2833 => ?_)
     clear c2833
     refine wl_skip_seq ?_
     refine wl_assoc ?_
     refine wl_ops ?_
     refine wr_run 3 [(43, (lst own2794 encI l2795)), (6, (lst own2794 encI l2795)), (7, (.int (0)))] (by kernel_rfl) ?_
     refine wr_done ?_
     refine wl_ret ?_
     refine post_i (Or.inr rfl) (.tup [(lst own2794 encI l2795), (.int (0))]) (by kernel_rfl) ?_
     exact ⟨own2794, l2795, 0, rfl, by first | omega | (simp; omega) | simp, ⟨H.tok 0 rfl, hx_l2795⟩, H.ext rfl⟩

set_option maxHeartbeats 4000000 in
theorem Key_ok (C : ChChest) (p : Int) (n : Int) (st : St) (hp : (C.People.length : Int) ≤ 1048576) (hc : (C.Copies.length : Int) ≤ 1048576) (hr : (C.Rules.length : Int) ≤ 1048576) : WF Try.prog 20 [(.agg [(.int (C.Words)), (.int (C.Facts)), (lst .any encS C.People), (.int (C.Last)), (lst .any encCopy C.Copies), (lst .any encRule C.Rules)]), (.int (p)), (.int (n))] st fun r st' => ∃ (own2834 : EF.Own) (l2835 : List Int) (e2836 : Int), r = (.tup [(lst own2834 encI l2835), (.int (e2836))]) ∧ ((l2835.length : Int) ≤ 1048576) ∧ (Grown st st' (own2834, 1) ∧ (own2834 = .exact → l2835 = [])) ∧ Ext st st' := by
 refine wf_L c20 rfl ?_
 have H := SP.start st
 refine wl_tail ?_
 refine wl_assoc ?_
 refine wl_ops ?_
 refine wr_box (.agg [(.int (C.Words)), (.int (C.Facts)), (lst .any encS C.People), (.int (C.Last)), (lst .any encCopy C.Copies), (lst .any encRule C.Rules)]) (by kernel_rfl) [(.int (C.Words)), (.int (C.Facts)), (lst .any encS C.People), (.int (C.Last)), (lst .any encCopy C.Copies), (lst .any encRule C.Rules)] (by kernel_rfl) (by kernel_rfl) H (by kernel_rfl) fun a2837 st2838 H => ?_
 refine wr_box (.int (p)) (by kernel_rfl) [(.int (p))] (by kernel_rfl) (by kernel_rfl) H (by kernel_rfl) fun a2839 st2840 H => ?_
 refine wr_box (.int (n)) (by kernel_rfl) [(.int (n))] (by kernel_rfl) (by kernel_rfl) H (by kernel_rfl) fun a2841 st2842 H => ?_
 refine wr_run 2 [(6, (.list .exact [] 0)), (7, (.int (0)))] (by kernel_rfl) ?_
 refine wr_done ?_
 refine wl_assoc ?_
 refine wl_ops ?_
 refine wr_load H 2 a2837 0 _ true rfl (by kernel_rfl) (.agg [(.int (C.Words)), (.int (C.Facts)), (lst .any encS C.People), (.int (C.Last)), (lst .any encCopy C.Copies), (lst .any encRule C.Rules)]) (by kernel_rfl) (by kernel_rfl) ?_
 refine wr_load H 1 a2839 0 _ true rfl (by kernel_rfl) (.int (p)) (by kernel_rfl) (by kernel_rfl) ?_
 refine wr_run 1 [(16, (.ptr a2837 2))] (by kernel_rfl) ?_
 refine wr_load H 2 a2837 2 _ true rfl (by kernel_rfl) (lst .any encS C.People) (by kernel_rfl) (by kernel_rfl) ?_
 refine wr_run 2 [(18, (.int ((C.People.length : Int)))), (19, (lst .exact encI [p, (C.People.length : Int)]))] (by kernel_rfl) ?_
 refine wr_call [(.agg [(.int (C.Words)), (.int (C.Facts)), (lst .any encS C.People), (.int (C.Last)), (lst .any encCopy C.Copies), (lst .any encRule C.Rules)]), (lst .exact encI [p, (C.People.length : Int)])] (by kernel_rfl) (by kernel_rfl) (WF.mono (enter_ok C .exact ([p, (C.People.length : Int)]) _ (by first | omega | simp | (simp; omega)) (by first | omega | simp | (simp; omega)) (by first | omega | simp | (simp; omega)) (by first | omega | simp | (simp; omega))) ?_)
 rintro r2843 st2844 (⟨e2845, rfl, hf2856, E2854⟩ | ⟨a2846, tm2847, v2848, v2849, v2850, es2851, k2852, rfl, hf2859, hf2860, hf2861, hf2862, hf2863, hf2864, hf2865, hf2866, hf2867, hf2868, hf2869, hm2853, W2858, E2857⟩)
 ·skip
  replace H := H.then E2854
  refine wr_run 3 [(13, (.tup [(.v (.pointer none)), (.int (e2845))])), (21, (.v (.pointer none))), (22, (.int (e2845)))] (by kernel_rfl) ?_
  refine wr_alloc H (by kernel_rfl) fun a2870 st2871 H => ?_
  refine wr_store H 0 a2870 0 _ true rfl (by kernel_rfl) (.v (.pointer none)) (by kernel_rfl) [(.v (.pointer none))] (by kernel_rfl) (by kernel_rfl) (by kernel_rfl) (Nat.le_of_ble_eq_true rfl) (by kernel_rfl) (by kernel_rfl) fun st2872 H => ?_
  refine wr_run 1 [(9, (.int (e2845)))] (by kernel_rfl) ?_
  refine wr_done ?_
  refine wl_assoc ?_
  refine wl_assoc ?_
  refine wl_ops ?_
  refine wr_run 2 [(23, (.int (e2845))), (24, (.bool ((e2845 : Int) != (0 : Int))))] (by kernel_rfl) ?_
  refine wr_done ?_
  refine wl_cond ((e2845 : Int) != (0 : Int)) (by kernel_rfl) (fun c2873 => ?_) (fun c2873 => ?_)
  ·skip
   have c2873' : ¬ ((e2845 : Int) = 0) := by simpa using c2873
   refine wl_assoc ?_
   refine wl_ops ?_
   refine wr_run 3 [(25, (.int (e2845))), (6, (.list .exact [] 0)), (7, (.int (e2845)))] (by kernel_rfl) ?_
   refine wr_done ?_
   refine wl_ret ?_
   refine post_i (Or.inr rfl) (.tup [(.list .exact [] 0), (.int (e2845))]) (by kernel_rfl) ?_
   exact ⟨.exact, [], e2845, rfl, by first | omega | (simp; omega) | simp, ⟨True.intro, fun _ => rfl⟩, H.ext rfl⟩
  ·skip
   have c2873' : (e2845 : Int) = 0 := by simpa using c2873
   exfalso; omega
 ·skip
  have hr2874 := hf2869 0 (p) ((C.People.length : Int)) rfl rfl (by omega)
  replace H : SP st [⟨a2846, .cells [(.int (C.Words)), (.int (C.Facts)), (lst .any encS C.People), (.int (C.Last)), (lst .any encCopy C.Copies), (lst .any encRule C.Rules), (.int (v2848)), (.int (v2849)), (.int (v2850)), (.map tm2847)], true⟩, ⟨tm2847, .map es2851 k2852, true⟩, ⟨a2841, .cells [(.int (n))], true⟩, ⟨a2839, .cells [(.int (p))], true⟩, ⟨a2837, .cells [(.int (C.Words)), (.int (C.Facts)), (lst .any encS C.People), (.int (C.Last)), (lst .any encCopy C.Copies), (lst .any encRule C.Rules)], true⟩] [] st2844 := H.addnew E2857 W2858
  refine wr_run 3 [(13, (.tup [(.ptr a2846 0), (.int (0))])), (21, (.ptr a2846 0)), (22, (.int (0)))] (by kernel_rfl) ?_
  refine wr_alloc H (by kernel_rfl) fun a2875 st2876 H => ?_
  refine wr_store H 0 a2875 0 _ true rfl (by kernel_rfl) (.ptr a2846 0) (by kernel_rfl) [(.ptr a2846 0)] (by kernel_rfl) (by kernel_rfl) (by kernel_rfl) (Nat.le_of_ble_eq_true rfl) (by kernel_rfl) (by kernel_rfl) fun st2877 H => ?_
  refine wr_run 1 [(9, (.int (0)))] (by kernel_rfl) ?_
  refine wr_done ?_
  refine wl_assoc ?_
  refine wl_assoc ?_
  refine wl_ops ?_
  refine wr_run 2 [(23, (.int (0))), (24, (.bool (false)))] (by kernel_rfl) ?_
  refine wr_done ?_
  refine wl_cond false (by kernel_rfl) (fun c2878 => by cases c2878) (fun c2878 => ?_)
  clear c2878
  refine wl_skip_seq ?_
  refine wl_assoc ?_
  refine wl_ops ?_
  refine wr_run 1 [(26, (.ptr a2837 4))] (by kernel_rfl) ?_
  refine wr_load H 5 a2837 4 _ true rfl (by kernel_rfl) (lst .any encCopy C.Copies) (by kernel_rfl) (by kernel_rfl) ?_
  refine wr_run 1 [(28, (.fn 54 [] [(.ptr a2841 0)]))] (by kernel_rfl) ?_
  refine wr_call [(lst .any encCopy C.Copies), (.fn 54 [] [(.ptr a2841 0)])] (by kernel_rfl) (by kernel_rfl) (WF.mono (idxC_ok .any C.Copies (.fn 54 [] [(.ptr a2841 0)]) (fun _ _ => True) _ (by omega) (fun x hx s' E => WF.mono (key1_ok x a2841 n s' (E.here (H.fact 3 rfl))) (fun r s' ⟨b, h1, h2⟩ => ⟨b, h1, trivial, h2⟩))) ?_)
  rintro r2879 st2880 ⟨i2881, rfl, h2882, E2883⟩
  have h2882r : -1 ≤ i2881 ∧ i2881 < (C.Copies.length : Int) := by
   rcases h2882 with ⟨h, _⟩ | ⟨n, _, h, hn, _⟩
   ·omega
   ·have := (List.getElem?_eq_some_iff.1 hn).1; omega
  replace H := H.then E2883
  refine wr_alloc H (by kernel_rfl) fun a2884 st2885 H => ?_
  refine wr_store H 0 a2884 0 _ true rfl (by kernel_rfl) (.int (i2881)) (by kernel_rfl) [(.int (i2881))] (by kernel_rfl) (by kernel_rfl) (by kernel_rfl) (Nat.le_of_ble_eq_true rfl) (by kernel_rfl) (by kernel_rfl) fun st2886 H => ?_
  refine wr_done ?_
  refine wl_assoc ?_
  refine wl_block fun Q2887 hN2887 hE2887 hX2887 => ?_
  refine wl_tail ?_
  refine wl_assoc ?_
  refine wl_ops ?_
  refine wr_load H 0 a2884 0 _ true rfl (by kernel_rfl) (.int (i2881)) (by kernel_rfl) (by kernel_rfl) ?_
  refine wr_run 2 [(32, (.bool (decide ((i2881 : Int) < (0 : Int))))), (30, (.bool (decide ((i2881 : Int) < (0 : Int)))))] (by kernel_rfl) ?_
  refine wr_done ?_
  refine wl_cond (decide ((i2881 : Int) < (0 : Int))) (by kernel_rfl) (fun c2888 => ?_) (fun c2888 => ?_)
  ·skip
   have c2888' : (i2881 : Int) < 0 := of_decide_eq_true c2888
   refine wl_assoc ?_
   refine wl_ops ?_
   refine wr_run 2 [(6, (.list .exact [] 0)), (7, (.int (7)))] (by kernel_rfl) ?_
   refine wr_done ?_
   refine wl_ret ?_
   refine hX2887 _ _ _ (by decide) (by decide) ?_
   refine post_i (Or.inr rfl) (.tup [(.list .exact [] 0), (.int (7))]) (by kernel_rfl) ?_
   exact ⟨.exact, [], 7, rfl, by first | omega | (simp; omega) | simp, ⟨True.intro, fun _ => rfl⟩, H.ext rfl⟩
  ·skip
   have c2888' : ¬ ((i2881 : Int) < 0) := of_decide_eq_false c2888
   refine wl_assoc ?_
   refine wl_draw0 (fun n => by kernel_rfl) ?_
   refine wd_load H 1 a2875 0 _ true rfl (by kernel_rfl) (.ptr a2846 0) (by kernel_rfl) [] (by kernel_rfl) True.intro (by kernel_rfl) ?_
   refine wd_load H 5 a2839 0 _ true rfl (by kernel_rfl) (.int (p)) (by kernel_rfl) [] (by kernel_rfl) True.intro (by kernel_rfl) ?_
   refine wd_run 2 [(36, (.ptr a2846 0)), (37, (.ptr a2846 6))] (by kernel_rfl) (by kernel_rfl) ?_
   refine wd_pure (.ptr a2846 (6 + (p : Int).toNat * 1)) (ev_iaddra a2846 6 (by kernel_rfl) (p) (by kernel_rfl) (by omega) _) (by kernel_rfl) (by kernel_rfl) ?_
   have han2889 : p = 0 ∨ p = 1 ∨ p = 2 := by omega
   obtain ⟨n2889, hn2889, hon2889⟩ : ∃ y : Int, getCells [(.int (C.Words)), (.int (C.Facts)), (lst .any encS C.People), (.int (C.Last)), (lst .any encCopy C.Copies), (lst .any encRule C.Rules), (.int (v2848)), (.int (v2849)), (.int (v2850)), (.map tm2847)] false 1 (6 + (p : Int).toNat * 1) = some ((fun y : Int => .int y) y) ∧ (y = v2848 ∨ y = v2849 ∨ y = v2850) := by
    rcases han2889 with e | e | e
    ·rw [e]; exact ⟨v2848, by kernel_rfl, by simp⟩
    ·rw [e]; exact ⟨v2849, by kernel_rfl, by simp⟩
    ·rw [e]; exact ⟨v2850, by kernel_rfl, by simp⟩
   have hrn2889 : -9223372036854775808 ≤ n2889 ∧ n2889 ≤ 9223372036854775807 := by omega
   clear hon2889
   clear han2889
   refine wd_load H 2 a2846 (6 + (p : Int).toNat * 1) _ true rfl (by kernel_rfl) (.int (n2889)) hn2889 [] (by kernel_rfl) True.intro (by kernel_rfl) ?_
   refine wd_load H 0 a2884 0 _ true rfl (by kernel_rfl) (.int (i2881)) (by kernel_rfl) [] (by kernel_rfl) True.intro (by kernel_rfl) ?_
   refine wd_frame [(.agg [(.int (C.Words)), (.int (C.Facts)), (lst .any encS C.People), (.int (C.Last)), (lst .any encCopy C.Copies), (lst .any encRule C.Rules)]), (.int (p)), (.int (n)), (.ptr a2837 0), (.ptr a2839 0), (.ptr a2841 0), (.list .exact [] 0), (.int (0)), (.ptr a2875 0), (.int (0)), (.ptr a2884 0), .junk, .junk, (.tup [(.ptr a2846 0), (.int (0))]), (.agg [(.int (C.Words)), (.int (C.Facts)), (lst .any encS C.People), (.int (C.Last)), (lst .any encCopy C.Copies), (lst .any encRule C.Rules)]), (.int (p)), (.ptr a2837 2), (lst .any encS C.People), (.int ((C.People.length : Int))), (lst .exact encI [p, (C.People.length : Int)]), (.tup [(.ptr a2846 0), (.int (0))]), (.ptr a2846 0), (.int (0)), (.int (0)), (.bool (false)), .junk, (.ptr a2837 4), (lst .any encCopy C.Copies), (.fn 54 [] [(.ptr a2841 0)]), (.int (i2881)), (.bool (decide ((i2881 : Int) < (0 : Int)))), (.int (i2881)), (.bool (decide ((i2881 : Int) < (0 : Int)))), .junk, (.ptr a2846 0), (.int (p)), (.ptr a2846 0), (.ptr a2846 6), (.ptr a2846 (6 + (p : Int).toNat * 1)), (.int (n2889)), (.int (i2881)), .junk, .junk, .junk, .junk, .junk, .junk, .junk, .junk, .junk, .junk, .junk, .junk, .junk, .junk, .junk] (by kernel_rfl) ?_
   refine wd_pureX (fun y => .int y) _ (ev_int (.int (n2889)) (.int (i2881)) (by kernel_rfl) (by kernel_rfl) (bx_shr _ _ (by omega))) (by kernel_rfl) (by kernel_rfl) fun n2890 hn2890 => ?_
   replace hn2890 := hn2890 (by unfold I64; omega)
   unfold I64 at hn2890
   refine wd_pureX (fun y => .int y) _ (ev_int (.int (n2890)) (.int (1)) (by kernel_rfl) (by kernel_rfl) (bx_and _ _)) (by kernel_rfl) (by kernel_rfl) fun n2891 hn2891 => ?_
   unfold I64 at hn2891
   refine wd_run 2 [(43, (.bool ((n2891 : Int) == (0 : Int)))), (33, (.bool ((n2891 : Int) == (0 : Int))))] (by kernel_rfl) (by kernel_rfl) ?_
   refine wd_done ?_
   refine wl_cond ((n2891 : Int) == (0 : Int)) (by kernel_rfl) (fun c2892 => ?_) (fun c2892 => ?_)
   ·skip
    have c2892' : (n2891 : Int) = 0 := by simpa using c2892
    refine wl_assoc ?_
    refine wl_ops ?_
    refine wr_run 2 [(6, (.list .exact [] 0)), (7, (.int (2)))] (by kernel_rfl) ?_
    refine wr_done ?_
    refine wl_ret ?_
    refine hX2887 _ _ _ (by decide) (by decide) ?_
    refine post_i (Or.inr rfl) (.tup [(.list .exact [] 0), (.int (2))]) (by kernel_rfl) ?_
    exact ⟨.exact, [], 2, rfl, by first | omega | (simp; omega) | simp, ⟨True.intro, fun _ => rfl⟩, H.ext rfl⟩
   ·skip
    have c2892' : ¬ ((n2891 : Int) = 0) := by simpa using c2892
    refine wl_skip_seq ?_
    refine wl_skip ?_
    refine hN2887 _ _ ?_
    refine wl_assoc ?_
    refine wl_ops ?_
    refine wr_run 1 [(45, (.ptr a2837 0))] (by kernel_rfl) ?_
    refine wr_load H 6 a2837 0 _ true rfl (by kernel_rfl) (.int (C.Words)) (by kernel_rfl) (by kernel_rfl) ?_
    refine wr_call [(.int (C.Words))] (by kernel_rfl) (by kernel_rfl) (WF.mono (upTo_ok C.Words _ (by omega)) ?_)
    rintro r2893 st2894 ⟨own2895, l2896, rfl, hf2899, hf2900, hf2901, E2897⟩
    have H2902 := H
    replace H := H.then E2897
    obtain ⟨hg2904, hx2905⟩ := hf2901
    replace H := H.addtok H2902 _ _ hg2904
    refine wr_run 2 [(48, (.fn 57 [] [(.ptr a2875 0), (.ptr a2839 0), (.ptr a2884 0)])), (49, (.agg [(.fn 57 [] [(.ptr a2875 0), (.ptr a2839 0), (.ptr a2884 0)])]))] (by kernel_rfl) ?_
    refine wr_call [(lst own2895 encI l2896), (.agg [(.fn 57 [] [(.ptr a2875 0), (.ptr a2839 0), (.ptr a2884 0)])])] (by kernel_rfl) (by kernel_rfl) ?_
    refine wf_L c55 rfl ?_
    refine wl_tail ?_
    refine wl_assoc ?_
    refine wl_ops ?_
    refine wr_box (.agg [(.fn 57 [] [(.ptr a2875 0), (.ptr a2839 0), (.ptr a2884 0)])]) (by kernel_rfl) [(.fn 57 [] [(.ptr a2875 0), (.ptr a2839 0), (.ptr a2884 0)])] (by kernel_rfl) (by kernel_rfl) H (by kernel_rfl) fun a2906 st2907 H => ?_
    refine wr_alloc H (by kernel_rfl) fun a2908 st2909 H => ?_
    refine wr_alloc H (by kernel_rfl) fun a2910 st2911 H => ?_
    refine wr_done ?_
    refine wl_assoc ?_
    refine wl_assoc ?_
    refine wl_ops ?_
    refine wr_run 1 [(7, (lst own2895 encI l2896))] (by kernel_rfl) ?_
    refine wr_call [(lst own2895 encI l2896)] (by kernel_rfl) (by kernel_rfl) ?_
    refine wf_L c73 rfl ?_
    refine wl_tail ?_
    refine wl_assoc ?_
    refine wl_ops ?_
    refine wr_box (lst own2895 encI l2896) (by kernel_rfl) [(lst own2895 encI l2896)] (by kernel_rfl) (by kernel_rfl) H (by kernel_rfl) fun a2914 st2915 H => ?_
    refine wr_run 1 [(2, (.v .nilFunc))] (by kernel_rfl) ?_
    refine wr_done ?_
    refine wl_assoc ?_
    refine wl_ops ?_
    refine wr_run 2 [(3, (.fn 83 [] [(.ptr a2914 0)])), (2, (.fn 83 [] [(.ptr a2914 0)]))] (by kernel_rfl) ?_
    refine wr_done ?_
    refine wl_ret ?_
    refine post_i (Or.inr rfl) (.fn 83 [] [(.ptr a2914 0)]) (by kernel_rfl) ?_
    refine wr_done ?_
    refine wl_frame [(lst own2895 encI l2896), (.agg [(.fn 57 [] [(.ptr a2875 0), (.ptr a2839 0), (.ptr a2884 0)])]), .junk, (.ptr a2906 0), (.ptr a2908 0), (.ptr a2910 0), .junk, (lst own2895 encI l2896), (.fn 83 [] [(.ptr a2914 0)]), .junk, .junk, .junk, .junk, .junk, .junk, .junk] (by kernel_rfl) ?_
    refine wl_rangef H 83 [] [(.ptr a2914 0)] (by kernel_rfl) fun l2916 s2916 R2916 H hN2916 hE2916 hX2916 => ?_
    have hlt2916 : ∀ a ∈ [l2916, a2914, a2910, a2908, a2906, a2884, a2875, a2846, tm2847, a2841, a2839, a2837], a < s2916.next := (List.forall_mem_cons.2 ⟨St.lt_of_get (H.fact 0 rfl), (List.forall_mem_cons.2 ⟨St.lt_of_get (H.fact 1 rfl), (List.forall_mem_cons.2 ⟨St.lt_of_get (H.fact 2 rfl), (List.forall_mem_cons.2 ⟨St.lt_of_get (H.fact 3 rfl), (List.forall_mem_cons.2 ⟨St.lt_of_get (H.fact 4 rfl), (List.forall_mem_cons.2 ⟨St.lt_of_get (H.fact 5 rfl), (List.forall_mem_cons.2 ⟨St.lt_of_get (H.fact 6 rfl), (List.forall_mem_cons.2 ⟨St.lt_of_get (H.fact 7 rfl), (List.forall_mem_cons.2 ⟨St.lt_of_get (H.fact 8 rfl), (List.forall_mem_cons.2 ⟨St.lt_of_get (H.fact 9 rfl), (List.forall_mem_cons.2 ⟨St.lt_of_get (H.fact 10 rfl), (List.forall_mem_cons.2 ⟨St.lt_of_get (H.fact 11 rfl), (by simp)⟩)⟩)⟩)⟩)⟩)⟩)⟩)⟩)⟩)⟩)⟩)⟩)
    have hbs2916 := H.next
    suffices key2916 : ∃ I : Bool → St → Prop, I true s2916 ∧ Lasts s2916.next I ∧ YieldsTo Try.prog (.yld l2916) s2916.next I (fun xs : List AV => ∃ x : Int, xs = [.int x] ∧ (-9223372036854775808 ≤ x ∧ x ≤ 9223372036854775807)) ∧ (∀ b s, I b s → s.get a2914 = some (.cells [(lst own2895 encI l2896)])) ∧ ∀ b s, I b s → R2916 s by
     obtain ⟨I, h1, h2, h3, h4, h5⟩ := key2916
     exact WF.mono (some1_ok I s2916.next l2916 a2914 own2895 l2896 h2 h3 h4 s2916 (Nat.le_refl _) h1 (by omega) (fun x hx => by have hf2899x := hf2899 x hx; omega)) fun r s ⟨b, _, h, _⟩ => h5 b s h
    refine ⟨(fun (b : Bool) (s : St) => (b = true ∧ SP st [⟨l2916, .loop .ready none (L [(lst own2895 encI l2896), (.agg [(.fn 57 [] [(.ptr a2875 0), (.ptr a2839 0), (.ptr a2884 0)])]), .junk, (.ptr a2906 0), (.ptr a2908 0), (.ptr a2910 0), .junk, (lst own2895 encI l2896), (.fn 83 [] [(.ptr a2914 0)]), .junk, .junk, .junk, .junk, .junk, .junk, .junk]) 16 [9] (rfA Try.f55 0) (rfB Try.f55 0), true⟩, ⟨a2914, .cells [(lst own2895 encI l2896)], true⟩, ⟨a2910, .cells [(.bool (false))], true⟩, ⟨a2908, .cells [(.list .exact [] 0)], true⟩, ⟨a2906, .cells [(.fn 57 [] [(.ptr a2875 0), (.ptr a2839 0), (.ptr a2884 0)])], true⟩, ⟨a2884, .cells [(.int (i2881))], true⟩, ⟨a2875, .cells [(.ptr a2846 0)], true⟩, ⟨a2846, .cells [(.int (C.Words)), (.int (C.Facts)), (lst .any encS C.People), (.int (C.Last)), (lst .any encCopy C.Copies), (lst .any encRule C.Rules), (.int (v2848)), (.int (v2849)), (.int (v2850)), (.map tm2847)], true⟩, ⟨tm2847, .map es2851 k2852, true⟩, ⟨a2841, .cells [(.int (n))], true⟩, ⟨a2839, .cells [(.int (p))], true⟩, ⟨a2837, .cells [(.int (C.Words)), (.int (C.Facts)), (lst .any encS C.People), (.int (C.Last)), (lst .any encCopy C.Copies), (lst .any encRule C.Rules)], true⟩] [(own2895, 1)] s ∧ MapOK KInt (fun x => ∃ n : Int, x = .int n ∧ (-9223372036854775808 ≤ n ∧ n ≤ 9223372036854775807)) es2851) ∨ (b = false ∧ ∃ (own2963 : EF.Own) (l2964 : List Int), SP st [⟨l2916, .loop .done (some .ret) (L [(lst own2895 encI l2896), (.agg [(.fn 57 [] [(.ptr a2875 0), (.ptr a2839 0), (.ptr a2884 0)])]), .junk, (.ptr a2906 0), (.ptr a2908 0), (.ptr a2910 0), .junk, (lst own2895 encI l2896), (.fn 83 [] [(.ptr a2914 0)]), .junk, .junk, .junk, .junk, .junk, .junk, .junk]) 16 [9] (rfA Try.f55 0) (rfB Try.f55 0), true⟩, ⟨a2914, .cells [(lst own2895 encI l2896)], true⟩, ⟨a2910, .cells [(.bool (true))], true⟩, ⟨a2908, .cells [(lst own2963 encI l2964)], true⟩, ⟨a2906, .cells [(.fn 57 [] [(.ptr a2875 0), (.ptr a2839 0), (.ptr a2884 0)])], true⟩, ⟨a2884, .cells [(.int (i2881))], true⟩, ⟨a2875, .cells [(.ptr a2846 0)], true⟩, ⟨a2846, .cells [(.int (C.Words)), (.int (C.Facts)), (lst .any encS C.People), (.int (C.Last)), (lst .any encCopy C.Copies), (lst .any encRule C.Rules), (.int (v2848)), (.int (v2849)), (.int (v2850)), (.map tm2847)], true⟩, ⟨tm2847, .map es2851 k2852, true⟩, ⟨a2841, .cells [(.int (n))], true⟩, ⟨a2839, .cells [(.int (p))], true⟩, ⟨a2837, .cells [(.int (C.Words)), (.int (C.Facts)), (lst .any encS C.People), (.int (C.Last)), (lst .any encCopy C.Copies), (lst .any encRule C.Rules)], true⟩] [(own2963, 1), (own2895, 1)] s ∧ MapOK KInt (fun x => ∃ n : Int, x = .int n ∧ (-9223372036854775808 ≤ n ∧ n ≤ 9223372036854775807)) es2851 ∧ ((l2964.length : Int) ≤ 64) ∧ (own2963 = .exact → l2964 = []))), Or.inl ⟨rfl, H, hm2853⟩, ?_, ?_, ?_, ?_⟩
    all_goals clear H
    ·skip
     rintro b s s' (⟨hb, HS, hm2853⟩ | ⟨hb, own2963, l2964, HS, hm2853, hf2916_0, hx_l2964⟩) hr
     ·exact Or.inl ⟨hb, HS.relied hbs2916 (fun c hc => hlt2916 c.a (List.mem_map.2 ⟨c, hc, rfl⟩)) hr, hm2853⟩
     ·exact Or.inr (⟨hb, own2963, l2964, HS.relied hbs2916 (fun c hc => hlt2916 c.a (List.mem_map.2 ⟨c, hc, rfl⟩)) hr, hm2853, hf2916_0, hx_l2964⟩)
    ·skip
     rintro xs sb2916 (⟨hb, HS, hm2853⟩ | ⟨hb, own2963, l2964, HS, hm2853, hf2916_0, hx_l2964⟩) hx
     ·skip
      obtain ⟨x2965, rfl, hx⟩ := hx
      have hy2916_0 := hx
      have H := HS.restart [⟨l2916, .loop .ready none (L [(lst own2895 encI l2896), (.agg [(.fn 57 [] [(.ptr a2875 0), (.ptr a2839 0), (.ptr a2884 0)])]), .junk, (.ptr a2906 0), (.ptr a2908 0), (.ptr a2910 0), .junk, (lst own2895 encI l2896), (.fn 83 [] [(.ptr a2914 0)]), .junk, .junk, .junk, .junk, .junk, .junk, .junk]) 16 [9] (rfA Try.f55 0) (rfB Try.f55 0), false⟩, ⟨a2914, .cells [(lst own2895 encI l2896)], false⟩, ⟨a2910, .cells [(.bool (false))], false⟩, ⟨a2908, .cells [(.list .exact [] 0)], false⟩, ⟨a2906, .cells [(.fn 57 [] [(.ptr a2875 0), (.ptr a2839 0), (.ptr a2884 0)])], false⟩, ⟨a2884, .cells [(.int (i2881))], false⟩, ⟨a2875, .cells [(.ptr a2846 0)], false⟩, ⟨a2846, .cells [(.int (C.Words)), (.int (C.Facts)), (lst .any encS C.People), (.int (C.Last)), (lst .any encCopy C.Copies), (lst .any encRule C.Rules), (.int (v2848)), (.int (v2849)), (.int (v2850)), (.map tm2847)], false⟩, ⟨tm2847, .map es2851 k2852, false⟩, ⟨a2841, .cells [(.int (n))], false⟩, ⟨a2839, .cells [(.int (p))], false⟩, ⟨a2837, .cells [(.int (C.Words)), (.int (C.Facts)), (lst .any encS C.People), (.int (C.Last)), (lst .any encCopy C.Copies), (lst .any encRule C.Rules)], false⟩] rfl rfl rfl
      refine wy_body [(.int (x2965))] H a55_0 b55_0 rfl (by kernel_rfl) fun Q1 Q2 hA2916 hB2916 hC2916 => ?_
      refine wl_frame [(lst own2895 encI l2896), (.agg [(.fn 57 [] [(.ptr a2875 0), (.ptr a2839 0), (.ptr a2884 0)])]), .junk, (.ptr a2906 0), (.ptr a2908 0), (.ptr a2910 0), .junk, (lst own2895 encI l2896), (.fn 83 [] [(.ptr a2914 0)]), (.int (x2965)), .junk, .junk, .junk, .junk, .junk, .junk] (by kernel_rfl) ?_
      refine wl_tail ?_
      refine wl_ops ?_
      refine wr_run 1 [(6, (.int (x2965)))] (by kernel_rfl) ?_
      refine wr_done ?_
      refine wl_skip ?_
      refine hA2916 _ _ _ _ _ _ H fun st2966 H => ?_
      refine wl_tail ?_
      refine wl_block fun Q2967 hN2967 hE2967 hX2967 => ?_
      refine wl_tail ?_
      refine wl_assoc ?_
      refine wl_ops ?_
      refine wr_run 1 [(10, (.ptr a2906 0))] (by kernel_rfl) ?_
      refine wr_load H 4 a2906 0 _ false rfl (by kernel_rfl) (.fn 57 [] [(.ptr a2875 0), (.ptr a2839 0), (.ptr a2884 0)]) (by kernel_rfl) (by kernel_rfl) ?_
      refine wr_run 1 [(12, (.int (x2965)))] (by kernel_rfl) ?_
      refine wr_callv (.fn 57 [] [(.ptr a2875 0), (.ptr a2839 0), (.ptr a2884 0)]) (by kernel_rfl) [(.int (x2965))] (by kernel_rfl) (by kernel_rfl) (WF.mono (key2_ok C a2846 v2848 v2849 v2850 tm2847 a2875 a2839 a2884 p i2881 x2965 _ (H.fact 6 rfl) (H.fact 7 rfl) (H.fact 10 rfl) (H.fact 5 rfl) (H.pick [6, 7, 10, 5] (by decide) rfl) (by omega) (by omega) (by omega) (by omega) (by omega) (by omega) (by omega) (by omega)) ?_)
      rintro r2968 st2969 ⟨b2970, rfl, E2971⟩
      replace H := H.then E2971
      refine wr_done ?_
      refine wl_cond (b2970) (by kernel_rfl) (fun c2973 => ?_) (fun c2973 => ?_)
      ·skip
       refine wl_assoc ?_
       refine wl_ops ?_
       refine wr_run 1 [(14, (.int (x2965)))] (by kernel_rfl) ?_
       refine wr_call [(.int (x2965))] (by kernel_rfl) (by kernel_rfl) (WF.mono (list_ok x2965 _ (by omega)) ?_)
       rintro r2974 st2975 ⟨own2976, l2977, rfl, hf2980, hf2981, hf2982, E2978⟩
       have H2983 := H
       replace H := H.then E2978
       obtain ⟨hg2985, hx2986⟩ := hf2982
       replace H := H.addtok H2983 _ _ hg2985
       refine wr_store H 3 a2908 0 _ false rfl (by kernel_rfl) (lst own2976 encI l2977) (by kernel_rfl) [(lst own2976 encI l2977)] (by kernel_rfl) (by kernel_rfl) (by kernel_rfl) (Nat.le_of_ble_eq_true rfl) (by kernel_rfl) (by kernel_rfl) fun st2987 H => ?_
       refine wr_store H 2 a2910 0 _ false rfl (by kernel_rfl) (.bool (true)) (by kernel_rfl) [(.bool (true))] (by kernel_rfl) (by kernel_rfl) (by kernel_rfl) (Nat.le_of_ble_eq_true rfl) (by kernel_rfl) (by kernel_rfl) fun st2988 H => ?_
       refine wr_done ?_
       refine wl_ret ?_
       refine hX2967 _ _ _ (by decide) (by decide) ?_
       refine hC2916 _ _ _ _ _ _ _ (by decide) H fun st2989 H => ?_
       exact ⟨false, rfl, Or.inr (⟨rfl, own2976, l2977, HS.compose (m2 := [⟨l2916, .loop .done (some .ret) (L [(lst own2895 encI l2896), (.agg [(.fn 57 [] [(.ptr a2875 0), (.ptr a2839 0), (.ptr a2884 0)])]), .junk, (.ptr a2906 0), (.ptr a2908 0), (.ptr a2910 0), .junk, (lst own2895 encI l2896), (.fn 83 [] [(.ptr a2914 0)]), .junk, .junk, .junk, .junk, .junk, .junk, .junk]) 16 [9] (rfA Try.f55 0) (rfB Try.f55 0), true⟩, ⟨a2914, .cells [(lst own2895 encI l2896)], true⟩, ⟨a2910, .cells [(.bool (true))], true⟩, ⟨a2908, .cells [(lst own2976 encI l2977)], true⟩, ⟨a2906, .cells [(.fn 57 [] [(.ptr a2875 0), (.ptr a2839 0), (.ptr a2884 0)])], true⟩, ⟨a2884, .cells [(.int (i2881))], true⟩, ⟨a2875, .cells [(.ptr a2846 0)], true⟩, ⟨a2846, .cells [(.int (C.Words)), (.int (C.Facts)), (lst .any encS C.People), (.int (C.Last)), (lst .any encCopy C.Copies), (lst .any encRule C.Rules), (.int (v2848)), (.int (v2849)), (.int (v2850)), (.map tm2847)], true⟩, ⟨tm2847, .map es2851 k2852, true⟩, ⟨a2841, .cells [(.int (n))], true⟩, ⟨a2839, .cells [(.int (p))], true⟩, ⟨a2837, .cells [(.int (C.Words)), (.int (C.Facts)), (lst .any encS C.People), (.int (C.Last)), (lst .any encCopy C.Copies), (lst .any encRule C.Rules)], true⟩]) H rfl rfl rfl rfl, hm2853, by omega, hx2986⟩), SP.body_keep HS.toks_arr H (fun c hc _ => hlt2916 c.a (List.mem_map.2 ⟨c, hc, rfl⟩))⟩
      ·skip
       refine wl_skip_seq ?_
       refine wl_skip ?_
       refine hN2967 _ _ ?_
       refine wl_skip ?_
       refine hB2916 _ _ _ _ _ _ H fun st2990 H => ?_
       exact ⟨true, rfl, Or.inl ⟨rfl, HS.compose (m2 := [⟨l2916, .loop .ready none (L [(lst own2895 encI l2896), (.agg [(.fn 57 [] [(.ptr a2875 0), (.ptr a2839 0), (.ptr a2884 0)])]), .junk, (.ptr a2906 0), (.ptr a2908 0), (.ptr a2910 0), .junk, (lst own2895 encI l2896), (.fn 83 [] [(.ptr a2914 0)]), .junk, .junk, .junk, .junk, .junk, .junk, .junk]) 16 [9] (rfA Try.f55 0) (rfB Try.f55 0), true⟩, ⟨a2914, .cells [(lst own2895 encI l2896)], true⟩, ⟨a2910, .cells [(.bool (false))], true⟩, ⟨a2908, .cells [(.list .exact [] 0)], true⟩, ⟨a2906, .cells [(.fn 57 [] [(.ptr a2875 0), (.ptr a2839 0), (.ptr a2884 0)])], true⟩, ⟨a2884, .cells [(.int (i2881))], true⟩, ⟨a2875, .cells [(.ptr a2846 0)], true⟩, ⟨a2846, .cells [(.int (C.Words)), (.int (C.Facts)), (lst .any encS C.People), (.int (C.Last)), (lst .any encCopy C.Copies), (lst .any encRule C.Rules), (.int (v2848)), (.int (v2849)), (.int (v2850)), (.map tm2847)], true⟩, ⟨tm2847, .map es2851 k2852, true⟩, ⟨a2841, .cells [(.int (n))], true⟩, ⟨a2839, .cells [(.int (p))], true⟩, ⟨a2837, .cells [(.int (C.Words)), (.int (C.Facts)), (lst .any encS C.People), (.int (C.Last)), (lst .any encCopy C.Copies), (lst .any encRule C.Rules)], true⟩]) H rfl rfl rfl rfl, hm2853⟩, SP.body_keep HS.toks_arr H (fun c hc _ => hlt2916 c.a (List.mem_map.2 ⟨c, hc, rfl⟩))⟩
     ·cases hb
    ·skip
     rintro b s (⟨hb, HS, hm2853⟩ | ⟨hb, own2963, l2964, HS, hm2853, hf2916_0, hx_l2964⟩)
     ·exact HS.fact 1 rfl
     ·exact HS.fact 1 rfl
    ·skip
     rintro b s (⟨hb, H, hm2853⟩ | ⟨hb, own2963, l2964, H, hm2853, hf2916_0, hx_l2964⟩)
     ·skip
      clear hb
      refine hN2916 _ _ _ _ H (by decide) fun st2991 H => ?_
      refine wl_assoc ?_
      refine wl_ops ?_
      refine wr_store H 2 a2908 0 _ true rfl (by kernel_rfl) (.list .exact [] 0) (by kernel_rfl) [(.list .exact [] 0)] (by kernel_rfl) (by kernel_rfl) (by kernel_rfl) (Nat.le_of_ble_eq_true rfl) (by kernel_rfl) (by kernel_rfl) fun st2992 H => ?_
      refine wr_store H 1 a2910 0 _ true rfl (by kernel_rfl) (.bool (false)) (by kernel_rfl) [(.bool (false))] (by kernel_rfl) (by kernel_rfl) (by kernel_rfl) (Nat.le_of_ble_eq_true rfl) (by kernel_rfl) (by kernel_rfl) fun st2993 H => ?_
      refine wr_done ?_
      refine wl_ret ?_
      refine post_i (Or.inr rfl) (.tup [(.list .exact [] 0), (.bool (false))]) (resV_many (resX (resC (g := false) (s := 1) (o := 0) (by kernel_rfl) (by kernel_rfl) (by kernel_rfl) (H.fact 2 rfl) (by kernel_rfl)) (resX (resC (g := false) (s := 1) (o := 0) (by kernel_rfl) (by kernel_rfl) (by kernel_rfl) (H.fact 1 rfl) (by kernel_rfl)) resN)) (by simp)) ?_
      refine wr_run 5 [(44, (.tup [(.list .exact [] 0), (.bool (false))])), (51, (.list .exact [] 0)), (52, (.bool (false))), (11, (.list .exact [] 0)), (12, (.bool (false)))] (by kernel_rfl) ?_
      refine wr_done ?_
      refine wl_assoc ?_
      refine wl_assoc ?_
      refine wl_ops ?_
      refine wr_run 2 [(53, (.bool (false))), (54, (.bool (true)))] (by kernel_rfl) ?_
      refine wr_done ?_
      refine wl_cond true (by kernel_rfl) (fun c2994 => ?_) (fun c2994 => by cases c2994)
      clear c2994
      refine wl_assoc ?_
      refine wl_ops ?_
      refine wr_run 2 [(6, (.list .exact [] 0)), (7, (.int (9)))] (by kernel_rfl) ?_
      refine wr_done ?_
      refine wl_ret ?_
      refine post_i (Or.inr rfl) (.tup [(.list .exact [] 0), (.int (9))]) (by kernel_rfl) ?_
      exact ⟨.exact, [], 9, rfl, by first | omega | (simp; omega) | simp, ⟨True.intro, fun _ => rfl⟩, H.ext rfl⟩
     ·skip
      clear hb
      refine hX2916 _ _ _ _ _ (by decide) (by decide) H (by decide) fun st2995 H => ?_
      refine post_i (Or.inr rfl) (.tup [(lst own2963 encI l2964), (.bool (true))]) (resV_many (resX (resC (g := false) (s := 1) (o := 0) (by kernel_rfl) (by kernel_rfl) (by kernel_rfl) (H.fact 2 rfl) (by kernel_rfl)) (resX (resC (g := false) (s := 1) (o := 0) (by kernel_rfl) (by kernel_rfl) (by kernel_rfl) (H.fact 1 rfl) (by kernel_rfl)) resN)) (by simp)) ?_
      refine wr_run 5 [(44, (.tup [(lst own2963 encI l2964), (.bool (true))])), (51, (lst own2963 encI l2964)), (52, (.bool (true))), (11, (lst own2963 encI l2964)), (12, (.bool (true)))] (by kernel_rfl) ?_
      refine wr_done ?_
      refine wl_assoc ?_
      refine wl_assoc ?_
      refine wl_ops ?_
      refine wr_run 2 [(53, (.bool (true))), (54, (.bool (false)))] (by kernel_rfl) ?_
      refine wr_done ?_
      refine wl_cond false (by kernel_rfl) (fun c2996 => by cases c2996) (fun c2996 => ?_)
      clear c2996
      refine wl_skip_seq ?_
      refine wl_assoc ?_
      refine wl_ops ?_
      refine wr_run 3 [(55, (lst own2963 encI l2964)), (6, (lst own2963 encI l2964)), (7, (.int (0)))] (by kernel_rfl) ?_
      refine wr_done ?_
      refine wl_ret ?_
      refine post_i (Or.inr rfl) (.tup [(lst own2963 encI l2964), (.int (0))]) (by kernel_rfl) ?_
      exact ⟨own2963, l2964, 0, rfl, by first | omega | (simp; omega) | simp, ⟨H.tok 0 rfl, hx_l2964⟩, H.ext rfl⟩

set_option maxHeartbeats 4000000 in
theorem Lock_ok (C : ChChest) (p : Int) (f : Int) (st : St) (hp : (C.People.length : Int) ≤ 1048576) (hc : (C.Copies.length : Int) ≤ 1048576) (hr : (C.Rules.length : Int) ≤ 1048576) : WF Try.prog 29 [(.agg [(.int (C.Words)), (.int (C.Facts)), (lst .any encS C.People), (.int (C.Last)), (lst .any encCopy C.Copies), (lst .any encRule C.Rules)]), (.int (p)), (.int (f))] st fun r st' => ∃ (own2997 : EF.Own) (l2998 : List Int) (e2999 : Int), r = (.tup [(lst own2997 encI l2998), (.int (e2999))]) ∧ ((l2998.length : Int) ≤ 1048576) ∧ (Grown st st' (own2997, 1) ∧ (own2997 = .exact → l2998 = [])) ∧ Ext st st' := by
 refine wf_L c29 rfl ?_
 have H := SP.start st
 refine wl_tail ?_
 refine wl_assoc ?_
 refine wl_ops ?_
 refine wr_box (.agg [(.int (C.Words)), (.int (C.Facts)), (lst .any encS C.People), (.int (C.Last)), (lst .any encCopy C.Copies), (lst .any encRule C.Rules)]) (by kernel_rfl) [(.int (C.Words)), (.int (C.Facts)), (lst .any encS C.People), (.int (C.Last)), (lst .any encCopy C.Copies), (lst .any encRule C.Rules)] (by kernel_rfl) (by kernel_rfl) H (by kernel_rfl) fun a3000 st3001 H => ?_
 refine wr_box (.int (f)) (by kernel_rfl) [(.int (f))] (by kernel_rfl) (by kernel_rfl) H (by kernel_rfl) fun a3002 st3003 H => ?_
 refine wr_run 2 [(6, (.list .exact [] 0)), (7, (.int (0)))] (by kernel_rfl) ?_
 refine wr_done ?_
 refine wl_assoc ?_
 refine wl_ops ?_
 refine wr_load H 1 a3000 0 _ true rfl (by kernel_rfl) (.agg [(.int (C.Words)), (.int (C.Facts)), (lst .any encS C.People), (.int (C.Last)), (lst .any encCopy C.Copies), (lst .any encRule C.Rules)]) (by kernel_rfl) (by kernel_rfl) ?_
 refine wr_run 2 [(15, (.int (p))), (16, (.ptr a3000 2))] (by kernel_rfl) ?_
 refine wr_load H 1 a3000 2 _ true rfl (by kernel_rfl) (lst .any encS C.People) (by kernel_rfl) (by kernel_rfl) ?_
 refine wr_run 1 [(18, (.int ((C.People.length : Int))))] (by kernel_rfl) ?_
 refine wr_load H 0 a3002 0 _ true rfl (by kernel_rfl) (.int (f)) (by kernel_rfl) (by kernel_rfl) ?_
 refine wr_run 1 [(20, (.ptr a3000 1))] (by kernel_rfl) ?_
 refine wr_load H 1 a3000 1 _ true rfl (by kernel_rfl) (.int (C.Facts)) (by kernel_rfl) (by kernel_rfl) ?_
 refine wr_run 1 [(22, (lst .exact encI [p, (C.People.length : Int), f, C.Facts]))] (by kernel_rfl) ?_
 refine wr_call [(.agg [(.int (C.Words)), (.int (C.Facts)), (lst .any encS C.People), (.int (C.Last)), (lst .any encCopy C.Copies), (lst .any encRule C.Rules)]), (lst .exact encI [p, (C.People.length : Int), f, C.Facts])] (by kernel_rfl) (by kernel_rfl) (WF.mono (enter_ok C .exact ([p, (C.People.length : Int), f, C.Facts]) _ (by first | omega | simp | (simp; omega)) (by first | omega | simp | (simp; omega)) (by first | omega | simp | (simp; omega)) (by first | omega | simp | (simp; omega))) ?_)
 rintro r3004 st3005 (⟨e3006, rfl, hf3017, E3015⟩ | ⟨a3007, tm3008, v3009, v3010, v3011, es3012, k3013, rfl, hf3020, hf3021, hf3022, hf3023, hf3024, hf3025, hf3026, hf3027, hf3028, hf3029, hf3030, hm3014, W3019, E3018⟩)
 ·skip
  replace H := H.then E3015
  refine wr_run 3 [(13, (.tup [(.v (.pointer none)), (.int (e3006))])), (24, (.v (.pointer none))), (25, (.int (e3006)))] (by kernel_rfl) ?_
  refine wr_alloc H (by kernel_rfl) fun a3031 st3032 H => ?_
  refine wr_store H 0 a3031 0 _ true rfl (by kernel_rfl) (.v (.pointer none)) (by kernel_rfl) [(.v (.pointer none))] (by kernel_rfl) (by kernel_rfl) (by kernel_rfl) (Nat.le_of_ble_eq_true rfl) (by kernel_rfl) (by kernel_rfl) fun st3033 H => ?_
  refine wr_run 1 [(9, (.int (e3006)))] (by kernel_rfl) ?_
  refine wr_done ?_
  refine wl_assoc ?_
  refine wl_assoc ?_
  refine wl_ops ?_
  refine wr_run 2 [(26, (.int (e3006))), (27, (.bool ((e3006 : Int) != (0 : Int))))] (by kernel_rfl) ?_
  refine wr_done ?_
  refine wl_cond ((e3006 : Int) != (0 : Int)) (by kernel_rfl) (fun c3034 => ?_) (fun c3034 => ?_)
  ·skip
   have c3034' : ¬ ((e3006 : Int) = 0) := by simpa using c3034
   refine wl_assoc ?_
   refine wl_ops ?_
   refine wr_run 3 [(28, (.int (e3006))), (6, (.list .exact [] 0)), (7, (.int (e3006)))] (by kernel_rfl) ?_
   refine wr_done ?_
   refine wl_ret ?_
   refine post_i (Or.inr rfl) (.tup [(.list .exact [] 0), (.int (e3006))]) (by kernel_rfl) ?_
   exact ⟨.exact, [], e3006, rfl, by first | omega | (simp; omega) | simp, ⟨True.intro, fun _ => rfl⟩, H.ext rfl⟩
  ·skip
   have c3034' : (e3006 : Int) = 0 := by simpa using c3034
   exfalso; omega
 ·skip
  have hr3035 := hf3030 0 (p) ((C.People.length : Int)) rfl rfl (by omega)
  have hr3036 := hf3030 1 (f) (C.Facts) rfl rfl (by omega)
  replace H : SP st [⟨a3007, .cells [(.int (C.Words)), (.int (C.Facts)), (lst .any encS C.People), (.int (C.Last)), (lst .any encCopy C.Copies), (lst .any encRule C.Rules), (.int (v3009)), (.int (v3010)), (.int (v3011)), (.map tm3008)], true⟩, ⟨tm3008, .map es3012 k3013, true⟩, ⟨a3002, .cells [(.int (f))], true⟩, ⟨a3000, .cells [(.int (C.Words)), (.int (C.Facts)), (lst .any encS C.People), (.int (C.Last)), (lst .any encCopy C.Copies), (lst .any encRule C.Rules)], true⟩] [] st3005 := H.addnew E3018 W3019
  refine wr_run 3 [(13, (.tup [(.ptr a3007 0), (.int (0))])), (24, (.ptr a3007 0)), (25, (.int (0)))] (by kernel_rfl) ?_
  refine wr_alloc H (by kernel_rfl) fun a3037 st3038 H => ?_
  refine wr_store H 0 a3037 0 _ true rfl (by kernel_rfl) (.ptr a3007 0) (by kernel_rfl) [(.ptr a3007 0)] (by kernel_rfl) (by kernel_rfl) (by kernel_rfl) (Nat.le_of_ble_eq_true rfl) (by kernel_rfl) (by kernel_rfl) fun st3039 H => ?_
  refine wr_run 1 [(9, (.int (0)))] (by kernel_rfl) ?_
  refine wr_done ?_
  refine wl_assoc ?_
  refine wl_assoc ?_
  refine wl_ops ?_
  refine wr_run 2 [(26, (.int (0))), (27, (.bool (false)))] (by kernel_rfl) ?_
  refine wr_done ?_
  refine wl_cond false (by kernel_rfl) (fun c3040 => by cases c3040) (fun c3040 => ?_)
  clear c3040
  refine wl_skip_seq ?_
  refine wl_assoc ?_
  refine wl_ops ?_
  refine wr_load H 0 a3037 0 _ true rfl (by kernel_rfl) (.ptr a3007 0) (by kernel_rfl) (by kernel_rfl) ?_
  refine wr_run 3 [(30, (.int (p))), (31, (.ptr a3007 0)), (32, (.ptr a3007 6))] (by kernel_rfl) ?_
  refine wr_iaddra a3007 6 (by kernel_rfl) (p) (by kernel_rfl) (by omega) (by kernel_rfl) ?_
  have han3041 : p = 0 ∨ p = 1 ∨ p = 2 := by omega
  obtain ⟨n3041, hn3041, hon3041⟩ : ∃ y : Int, getCells [(.int (C.Words)), (.int (C.Facts)), (lst .any encS C.People), (.int (C.Last)), (lst .any encCopy C.Copies), (lst .any encRule C.Rules), (.int (v3009)), (.int (v3010)), (.int (v3011)), (.map tm3008)] false 1 (6 + (p : Int).toNat * 1) = some ((fun y : Int => .int y) y) ∧ (y = v3009 ∨ y = v3010 ∨ y = v3011) := by
   rcases han3041 with e | e | e
   ·rw [e]; exact ⟨v3009, by kernel_rfl, by simp⟩
   ·rw [e]; exact ⟨v3010, by kernel_rfl, by simp⟩
   ·rw [e]; exact ⟨v3011, by kernel_rfl, by simp⟩
  have hrn3041 : -9223372036854775808 ≤ n3041 ∧ n3041 ≤ 9223372036854775807 := by omega
  clear hon3041
  clear han3041
  refine wr_load H 1 a3007 (6 + (p : Int).toNat * 1) _ true rfl (by kernel_rfl) (.int (n3041)) hn3041 (by kernel_rfl) ?_
  refine wr_alloc H (by kernel_rfl) fun a3042 st3043 H => ?_
  refine wr_store H 0 a3042 0 _ true rfl (by kernel_rfl) (.int (n3041)) (by kernel_rfl) [(.int (n3041))] (by kernel_rfl) (by kernel_rfl) (by kernel_rfl) (Nat.le_of_ble_eq_true rfl) (by kernel_rfl) (by kernel_rfl) fun st3044 H => ?_
  refine wr_done ?_
  refine wl_assoc ?_
  refine wl_ops ?_
  refine wr_load H 0 a3042 0 _ true rfl (by kernel_rfl) (.int (n3041)) (by kernel_rfl) (by kernel_rfl) ?_
  refine wr_call [(.int (n3041))] (by kernel_rfl) (by kernel_rfl) (WF.mono (list_ok n3041 _ (by omega)) ?_)
  rintro r3045 st3046 ⟨own3047, l3048, rfl, hf3051, hf3052, hf3053, E3049⟩
  have H3054 := H
  replace H := H.then E3049
  obtain ⟨hg3056, hx3057⟩ := hf3053
  replace H := H.addtok H3054 _ _ hg3056
  refine wr_run 2 [(38, (.fn 60 [] [(.ptr a3037 0), (.ptr a3042 0), (.ptr a3002 0)])), (39, (.agg [(.fn 60 [] [(.ptr a3037 0), (.ptr a3042 0), (.ptr a3002 0)])]))] (by kernel_rfl) ?_
  refine wr_call [(lst own3047 encI l3048), (.agg [(.fn 60 [] [(.ptr a3037 0), (.ptr a3042 0), (.ptr a3002 0)])])] (by kernel_rfl) (by kernel_rfl) ?_
  refine wf_L c55 rfl ?_
  refine wl_tail ?_
  refine wl_assoc ?_
  refine wl_ops ?_
  refine wr_box (.agg [(.fn 60 [] [(.ptr a3037 0), (.ptr a3042 0), (.ptr a3002 0)])]) (by kernel_rfl) [(.fn 60 [] [(.ptr a3037 0), (.ptr a3042 0), (.ptr a3002 0)])] (by kernel_rfl) (by kernel_rfl) H (by kernel_rfl) fun a3058 st3059 H => ?_
  refine wr_alloc H (by kernel_rfl) fun a3060 st3061 H => ?_
  refine wr_frame [(lst own3047 encI l3048), (.agg [(.fn 60 [] [(.ptr a3037 0), (.ptr a3042 0), (.ptr a3002 0)])]), .junk, (.ptr a3058 0), (.ptr a3060 0), .junk, .junk, .junk, .junk, .junk, .junk, .junk, .junk, .junk, .junk, .junk] (by kernel_rfl) ?_
  refine wr_alloc H (by kernel_rfl) fun a3062 st3063 H => ?_
  refine wr_done ?_
  refine wl_assoc ?_
  refine wl_assoc ?_
  refine wl_ops ?_
  refine wr_run 1 [(7, (lst own3047 encI l3048))] (by kernel_rfl) ?_
  refine wr_call [(lst own3047 encI l3048)] (by kernel_rfl) (by kernel_rfl) ?_
  refine wf_L c73 rfl ?_
  refine wl_tail ?_
  refine wl_assoc ?_
  refine wl_ops ?_
  refine wr_box (lst own3047 encI l3048) (by kernel_rfl) [(lst own3047 encI l3048)] (by kernel_rfl) (by kernel_rfl) H (by kernel_rfl) fun a3066 st3067 H => ?_
  refine wr_run 1 [(2, (.v .nilFunc))] (by kernel_rfl) ?_
  refine wr_done ?_
  refine wl_assoc ?_
  refine wl_ops ?_
  refine wr_run 2 [(3, (.fn 83 [] [(.ptr a3066 0)])), (2, (.fn 83 [] [(.ptr a3066 0)]))] (by kernel_rfl) ?_
  refine wr_done ?_
  refine wl_ret ?_
  refine post_i (Or.inr rfl) (.fn 83 [] [(.ptr a3066 0)]) (by kernel_rfl) ?_
  refine wr_done ?_
  refine wl_frame [(lst own3047 encI l3048), (.agg [(.fn 60 [] [(.ptr a3037 0), (.ptr a3042 0), (.ptr a3002 0)])]), .junk, (.ptr a3058 0), (.ptr a3060 0), (.ptr a3062 0), .junk, (lst own3047 encI l3048), (.fn 83 [] [(.ptr a3066 0)]), .junk, .junk, .junk, .junk, .junk, .junk, .junk] (by kernel_rfl) ?_
  refine wl_rangef H 83 [] [(.ptr a3066 0)] (by kernel_rfl) fun l3068 s3068 R3068 H hN3068 hE3068 hX3068 => ?_
  have hlt3068 : ∀ a ∈ [l3068, a3066, a3062, a3060, a3058, a3042, a3037, a3007, tm3008, a3002, a3000], a < s3068.next := (List.forall_mem_cons.2 ⟨St.lt_of_get (H.fact 0 rfl), (List.forall_mem_cons.2 ⟨St.lt_of_get (H.fact 1 rfl), (List.forall_mem_cons.2 ⟨St.lt_of_get (H.fact 2 rfl), (List.forall_mem_cons.2 ⟨St.lt_of_get (H.fact 3 rfl), (List.forall_mem_cons.2 ⟨St.lt_of_get (H.fact 4 rfl), (List.forall_mem_cons.2 ⟨St.lt_of_get (H.fact 5 rfl), (List.forall_mem_cons.2 ⟨St.lt_of_get (H.fact 6 rfl), (List.forall_mem_cons.2 ⟨St.lt_of_get (H.fact 7 rfl), (List.forall_mem_cons.2 ⟨St.lt_of_get (H.fact 8 rfl), (List.forall_mem_cons.2 ⟨St.lt_of_get (H.fact 9 rfl), (List.forall_mem_cons.2 ⟨St.lt_of_get (H.fact 10 rfl), (by simp)⟩)⟩)⟩)⟩)⟩)⟩)⟩)⟩)⟩)⟩)⟩)
  have hbs3068 := H.next
  suffices key3068 : ∃ I : Bool → St → Prop, I true s3068 ∧ Lasts s3068.next I ∧ YieldsTo Try.prog (.yld l3068) s3068.next I (fun xs : List AV => ∃ x : Int, xs = [.int x] ∧ (-9223372036854775808 ≤ x ∧ x ≤ 9223372036854775807)) ∧ (∀ b s, I b s → s.get a3066 = some (.cells [(lst own3047 encI l3048)])) ∧ ∀ b s, I b s → R3068 s by
   obtain ⟨I, h1, h2, h3, h4, h5⟩ := key3068
   exact WF.mono (some1_ok I s3068.next l3068 a3066 own3047 l3048 h2 h3 h4 s3068 (Nat.le_refl _) h1 (by omega) (fun x hx => by have hf3051x := hf3051 x hx; omega)) fun r s ⟨b, _, h, _⟩ => h5 b s h
  refine ⟨(fun (b : Bool) (s : St) => (b = true ∧ ∃ (es3095 : List MEnt) (k3096 : Nat), SP st [⟨l3068, .loop .ready none (L [(lst own3047 encI l3048), (.agg [(.fn 60 [] [(.ptr a3037 0), (.ptr a3042 0), (.ptr a3002 0)])]), .junk, (.ptr a3058 0), (.ptr a3060 0), (.ptr a3062 0), .junk, (lst own3047 encI l3048), (.fn 83 [] [(.ptr a3066 0)]), .junk, .junk, .junk, .junk, .junk, .junk, .junk]) 16 [9] (rfA Try.f55 0) (rfB Try.f55 0), true⟩, ⟨a3066, .cells [(lst own3047 encI l3048)], true⟩, ⟨a3062, .cells [(.bool (false))], true⟩, ⟨a3060, .cells [(.list .exact [] 0)], true⟩, ⟨a3058, .cells [(.fn 60 [] [(.ptr a3037 0), (.ptr a3042 0), (.ptr a3002 0)])], true⟩, ⟨a3042, .cells [(.int (n3041))], true⟩, ⟨a3037, .cells [(.ptr a3007 0)], true⟩, ⟨a3007, .cells [(.int (C.Words)), (.int (C.Facts)), (lst .any encS C.People), (.int (C.Last)), (lst .any encCopy C.Copies), (lst .any encRule C.Rules), (.int (v3009)), (.int (v3010)), (.int (v3011)), (.map tm3008)], true⟩, ⟨tm3008, .map es3095 k3096, true⟩, ⟨a3002, .cells [(.int (f))], true⟩, ⟨a3000, .cells [(.int (C.Words)), (.int (C.Facts)), (lst .any encS C.People), (.int (C.Last)), (lst .any encCopy C.Copies), (lst .any encRule C.Rules)], true⟩] [(own3047, 1)] s ∧ MapOK KInt (fun x => ∃ n : Int, x = .int n ∧ (-9223372036854775808 ≤ n ∧ n ≤ 9223372036854775807)) es3095) ∨ (b = false ∧ ∃ (own3150 : EF.Own) (l3151 : List Int) (es3152 : List MEnt) (k3153 : Nat), SP st [⟨l3068, .loop .done (some .ret) (L [(lst own3047 encI l3048), (.agg [(.fn 60 [] [(.ptr a3037 0), (.ptr a3042 0), (.ptr a3002 0)])]), .junk, (.ptr a3058 0), (.ptr a3060 0), (.ptr a3062 0), .junk, (lst own3047 encI l3048), (.fn 83 [] [(.ptr a3066 0)]), .junk, .junk, .junk, .junk, .junk, .junk, .junk]) 16 [9] (rfA Try.f55 0) (rfB Try.f55 0), true⟩, ⟨a3066, .cells [(lst own3047 encI l3048)], true⟩, ⟨a3062, .cells [(.bool (true))], true⟩, ⟨a3060, .cells [(lst own3150 encI l3151)], true⟩, ⟨a3058, .cells [(.fn 60 [] [(.ptr a3037 0), (.ptr a3042 0), (.ptr a3002 0)])], true⟩, ⟨a3042, .cells [(.int (n3041))], true⟩, ⟨a3037, .cells [(.ptr a3007 0)], true⟩, ⟨a3007, .cells [(.int (C.Words)), (.int (C.Facts)), (lst .any encS C.People), (.int (C.Last)), (lst .any encCopy C.Copies), (lst .any encRule C.Rules), (.int (v3009)), (.int (v3010)), (.int (v3011)), (.map tm3008)], true⟩, ⟨tm3008, .map es3152 k3153, true⟩, ⟨a3002, .cells [(.int (f))], true⟩, ⟨a3000, .cells [(.int (C.Words)), (.int (C.Facts)), (lst .any encS C.People), (.int (C.Last)), (lst .any encCopy C.Copies), (lst .any encRule C.Rules)], true⟩] [(own3150, 1), (own3047, 1)] s ∧ MapOK KInt (fun x => ∃ n : Int, x = .int n ∧ (-9223372036854775808 ≤ n ∧ n ≤ 9223372036854775807)) es3152 ∧ ((l3151.length : Int) ≤ 64) ∧ (own3150 = .exact → l3151 = []))), Or.inl ⟨rfl, es3012, k3013, H, hm3014⟩, ?_, ?_, ?_, ?_⟩
  all_goals clear H
  ·skip
   rintro b s s' (⟨hb, es3095, k3096, HS, hm3097⟩ | ⟨hb, own3150, l3151, es3152, k3153, HS, hm3154, hf3068_0, hx_l3151⟩) hr
   ·exact Or.inl ⟨hb, es3095, k3096, HS.relied hbs3068 (fun c hc => hlt3068 c.a (List.mem_map.2 ⟨c, hc, rfl⟩)) hr, hm3097⟩
   ·exact Or.inr (⟨hb, own3150, l3151, es3152, k3153, HS.relied hbs3068 (fun c hc => hlt3068 c.a (List.mem_map.2 ⟨c, hc, rfl⟩)) hr, hm3154, hf3068_0, hx_l3151⟩)
  ·skip
   rintro xs sb3068 (⟨hb, es3095, k3096, HS, hm3097⟩ | ⟨hb, own3150, l3151, es3152, k3153, HS, hm3154, hf3068_0, hx_l3151⟩) hx
   ·skip
    obtain ⟨x3155, rfl, hx⟩ := hx
    have hy3068_0 := hx
    have H := HS.restart [⟨l3068, .loop .ready none (L [(lst own3047 encI l3048), (.agg [(.fn 60 [] [(.ptr a3037 0), (.ptr a3042 0), (.ptr a3002 0)])]), .junk, (.ptr a3058 0), (.ptr a3060 0), (.ptr a3062 0), .junk, (lst own3047 encI l3048), (.fn 83 [] [(.ptr a3066 0)]), .junk, .junk, .junk, .junk, .junk, .junk, .junk]) 16 [9] (rfA Try.f55 0) (rfB Try.f55 0), false⟩, ⟨a3066, .cells [(lst own3047 encI l3048)], false⟩, ⟨a3062, .cells [(.bool (false))], false⟩, ⟨a3060, .cells [(.list .exact [] 0)], false⟩, ⟨a3058, .cells [(.fn 60 [] [(.ptr a3037 0), (.ptr a3042 0), (.ptr a3002 0)])], false⟩, ⟨a3042, .cells [(.int (n3041))], false⟩, ⟨a3037, .cells [(.ptr a3007 0)], false⟩, ⟨a3007, .cells [(.int (C.Words)), (.int (C.Facts)), (lst .any encS C.People), (.int (C.Last)), (lst .any encCopy C.Copies), (lst .any encRule C.Rules), (.int (v3009)), (.int (v3010)), (.int (v3011)), (.map tm3008)], false⟩, ⟨tm3008, .map es3095 k3096, false⟩, ⟨a3002, .cells [(.int (f))], false⟩, ⟨a3000, .cells [(.int (C.Words)), (.int (C.Facts)), (lst .any encS C.People), (.int (C.Last)), (lst .any encCopy C.Copies), (lst .any encRule C.Rules)], false⟩] rfl rfl rfl
    refine wy_body [(.int (x3155))] H a55_0 b55_0 rfl (by kernel_rfl) fun Q1 Q2 hA3068 hB3068 hC3068 => ?_
    refine wl_frame [(lst own3047 encI l3048), (.agg [(.fn 60 [] [(.ptr a3037 0), (.ptr a3042 0), (.ptr a3002 0)])]), .junk, (.ptr a3058 0), (.ptr a3060 0), (.ptr a3062 0), .junk, (lst own3047 encI l3048), (.fn 83 [] [(.ptr a3066 0)]), (.int (x3155)), .junk, .junk, .junk, .junk, .junk, .junk] (by kernel_rfl) ?_
    refine wl_tail ?_
    refine wl_ops ?_
    refine wr_run 1 [(6, (.int (x3155)))] (by kernel_rfl) ?_
    refine wr_done ?_
    refine wl_skip ?_
    refine hA3068 _ _ _ _ _ _ H fun st3156 H => ?_
    refine wl_tail ?_
    refine wl_block fun Q3157 hN3157 hE3157 hX3157 => ?_
    refine wl_tail ?_
    refine wl_assoc ?_
    refine wl_ops ?_
    refine wr_run 1 [(10, (.ptr a3058 0))] (by kernel_rfl) ?_
    refine wr_load H 4 a3058 0 _ false rfl (by kernel_rfl) (.fn 60 [] [(.ptr a3037 0), (.ptr a3042 0), (.ptr a3002 0)]) (by kernel_rfl) (by kernel_rfl) ?_
    refine wr_run 1 [(12, (.int (x3155)))] (by kernel_rfl) ?_
    refine wr_callv (.fn 60 [] [(.ptr a3037 0), (.ptr a3042 0), (.ptr a3002 0)]) (by kernel_rfl) [(.int (x3155))] (by kernel_rfl) (by kernel_rfl) (WF.mono (lock1_ok C a3007 v3009 v3010 v3011 tm3008 es3095 k3096 a3037 x3155 a3042 a3002 n3041 f _ (H.fact 6 rfl) (H.fact 7 rfl) (H.fact 8 rfl) (H.fact 5 rfl) (H.fact 9 rfl) (H.pick [6, 7, 8, 5, 9] (by decide) rfl) hm3097 (by omega) (by omega) (by omega) (by omega) (by omega) (by omega) hf3029 (by omega) (by omega) (by omega)) ?_)
    rintro r3158 st3159 ⟨b3160, es3161, k3162, rfl, hm3163, E3164⟩
    replace H := H.eff1 8 rfl rfl (.map es3161 k3162) E3164
    refine wr_done ?_
    refine wl_cond (b3160) (by kernel_rfl) (fun c3166 => ?_) (fun c3166 => ?_)
    ·skip
     refine wl_assoc ?_
     refine wl_ops ?_
     refine wr_run 1 [(14, (.int (x3155)))] (by kernel_rfl) ?_
     refine wr_call [(.int (x3155))] (by kernel_rfl) (by kernel_rfl) (WF.mono (list_ok x3155 _ (by omega)) ?_)
     rintro r3167 st3168 ⟨own3169, l3170, rfl, hf3173, hf3174, hf3175, E3171⟩
     have H3176 := H
     replace H := H.then E3171
     obtain ⟨hg3178, hx3179⟩ := hf3175
     replace H := H.addtok H3176 _ _ hg3178
     refine wr_store H 3 a3060 0 _ false rfl (by kernel_rfl) (lst own3169 encI l3170) (by kernel_rfl) [(lst own3169 encI l3170)] (by kernel_rfl) (by kernel_rfl) (by kernel_rfl) (Nat.le_of_ble_eq_true rfl) (by kernel_rfl) (by kernel_rfl) fun st3180 H => ?_
     refine wr_store H 2 a3062 0 _ false rfl (by kernel_rfl) (.bool (true)) (by kernel_rfl) [(.bool (true))] (by kernel_rfl) (by kernel_rfl) (by kernel_rfl) (Nat.le_of_ble_eq_true rfl) (by kernel_rfl) (by kernel_rfl) fun st3181 H => ?_
     refine wr_done ?_
     refine wl_ret ?_
     refine hX3157 _ _ _ (by decide) (by decide) ?_
     refine hC3068 _ _ _ _ _ _ _ (by decide) H fun st3182 H => ?_
     exact ⟨false, rfl, Or.inr (⟨rfl, own3169, l3170, es3161, k3162, HS.compose (m2 := [⟨l3068, .loop .done (some .ret) (L [(lst own3047 encI l3048), (.agg [(.fn 60 [] [(.ptr a3037 0), (.ptr a3042 0), (.ptr a3002 0)])]), .junk, (.ptr a3058 0), (.ptr a3060 0), (.ptr a3062 0), .junk, (lst own3047 encI l3048), (.fn 83 [] [(.ptr a3066 0)]), .junk, .junk, .junk, .junk, .junk, .junk, .junk]) 16 [9] (rfA Try.f55 0) (rfB Try.f55 0), true⟩, ⟨a3066, .cells [(lst own3047 encI l3048)], true⟩, ⟨a3062, .cells [(.bool (true))], true⟩, ⟨a3060, .cells [(lst own3169 encI l3170)], true⟩, ⟨a3058, .cells [(.fn 60 [] [(.ptr a3037 0), (.ptr a3042 0), (.ptr a3002 0)])], true⟩, ⟨a3042, .cells [(.int (n3041))], true⟩, ⟨a3037, .cells [(.ptr a3007 0)], true⟩, ⟨a3007, .cells [(.int (C.Words)), (.int (C.Facts)), (lst .any encS C.People), (.int (C.Last)), (lst .any encCopy C.Copies), (lst .any encRule C.Rules), (.int (v3009)), (.int (v3010)), (.int (v3011)), (.map tm3008)], true⟩, ⟨tm3008, .map es3161 k3162, true⟩, ⟨a3002, .cells [(.int (f))], true⟩, ⟨a3000, .cells [(.int (C.Words)), (.int (C.Facts)), (lst .any encS C.People), (.int (C.Last)), (lst .any encCopy C.Copies), (lst .any encRule C.Rules)], true⟩]) H rfl rfl rfl rfl, hm3163, by omega, hx3179⟩), SP.body_keep HS.toks_arr H (fun c hc _ => hlt3068 c.a (List.mem_map.2 ⟨c, hc, rfl⟩))⟩
    ·skip
     refine wl_skip_seq ?_
     refine wl_skip ?_
     refine hN3157 _ _ ?_
     refine wl_skip ?_
     refine hB3068 _ _ _ _ _ _ H fun st3183 H => ?_
     exact ⟨true, rfl, Or.inl ⟨rfl, es3161, k3162, HS.compose (m2 := [⟨l3068, .loop .ready none (L [(lst own3047 encI l3048), (.agg [(.fn 60 [] [(.ptr a3037 0), (.ptr a3042 0), (.ptr a3002 0)])]), .junk, (.ptr a3058 0), (.ptr a3060 0), (.ptr a3062 0), .junk, (lst own3047 encI l3048), (.fn 83 [] [(.ptr a3066 0)]), .junk, .junk, .junk, .junk, .junk, .junk, .junk]) 16 [9] (rfA Try.f55 0) (rfB Try.f55 0), true⟩, ⟨a3066, .cells [(lst own3047 encI l3048)], true⟩, ⟨a3062, .cells [(.bool (false))], true⟩, ⟨a3060, .cells [(.list .exact [] 0)], true⟩, ⟨a3058, .cells [(.fn 60 [] [(.ptr a3037 0), (.ptr a3042 0), (.ptr a3002 0)])], true⟩, ⟨a3042, .cells [(.int (n3041))], true⟩, ⟨a3037, .cells [(.ptr a3007 0)], true⟩, ⟨a3007, .cells [(.int (C.Words)), (.int (C.Facts)), (lst .any encS C.People), (.int (C.Last)), (lst .any encCopy C.Copies), (lst .any encRule C.Rules), (.int (v3009)), (.int (v3010)), (.int (v3011)), (.map tm3008)], true⟩, ⟨tm3008, .map es3161 k3162, true⟩, ⟨a3002, .cells [(.int (f))], true⟩, ⟨a3000, .cells [(.int (C.Words)), (.int (C.Facts)), (lst .any encS C.People), (.int (C.Last)), (lst .any encCopy C.Copies), (lst .any encRule C.Rules)], true⟩]) H rfl rfl rfl rfl, hm3163⟩, SP.body_keep HS.toks_arr H (fun c hc _ => hlt3068 c.a (List.mem_map.2 ⟨c, hc, rfl⟩))⟩
   ·cases hb
  ·skip
   rintro b s (⟨hb, es3095, k3096, HS, hm3097⟩ | ⟨hb, own3150, l3151, es3152, k3153, HS, hm3154, hf3068_0, hx_l3151⟩)
   ·exact HS.fact 1 rfl
   ·exact HS.fact 1 rfl
  ·skip
   rintro b s (⟨hb, es3095, k3096, H, hm3097⟩ | ⟨hb, own3150, l3151, es3152, k3153, H, hm3154, hf3068_0, hx_l3151⟩)
   ·skip
    clear hb
    refine hN3068 _ _ _ _ H (by decide) fun st3184 H => ?_
    refine wl_assoc ?_
    refine wl_ops ?_
    refine wr_store H 2 a3060 0 _ true rfl (by kernel_rfl) (.list .exact [] 0) (by kernel_rfl) [(.list .exact [] 0)] (by kernel_rfl) (by kernel_rfl) (by kernel_rfl) (Nat.le_of_ble_eq_true rfl) (by kernel_rfl) (by kernel_rfl) fun st3185 H => ?_
    refine wr_store H 1 a3062 0 _ true rfl (by kernel_rfl) (.bool (false)) (by kernel_rfl) [(.bool (false))] (by kernel_rfl) (by kernel_rfl) (by kernel_rfl) (Nat.le_of_ble_eq_true rfl) (by kernel_rfl) (by kernel_rfl) fun st3186 H => ?_
    refine wr_done ?_
    refine wl_ret ?_
    refine post_i (Or.inr rfl) (.tup [(.list .exact [] 0), (.bool (false))]) (resV_many (resX (resC (g := false) (s := 1) (o := 0) (by kernel_rfl) (by kernel_rfl) (by kernel_rfl) (H.fact 2 rfl) (by kernel_rfl)) (resX (resC (g := false) (s := 1) (o := 0) (by kernel_rfl) (by kernel_rfl) (by kernel_rfl) (H.fact 1 rfl) (by kernel_rfl)) resN)) (by simp)) ?_
    refine wr_run 5 [(35, (.tup [(.list .exact [] 0), (.bool (false))])), (41, (.list .exact [] 0)), (42, (.bool (false))), (11, (.list .exact [] 0)), (12, (.bool (false)))] (by kernel_rfl) ?_
    refine wr_done ?_
    refine wl_assoc ?_
    refine wl_ops ?_
    refine wr_run 3 [(43, (.list .exact [] 0)), (6, (.list .exact [] 0)), (7, (.int (0)))] (by kernel_rfl) ?_
    refine wr_done ?_
    refine wl_ret ?_
    refine post_i (Or.inr rfl) (.tup [(.list .exact [] 0), (.int (0))]) (by kernel_rfl) ?_
    exact ⟨.exact, [], 0, rfl, by first | omega | (simp; omega) | simp, ⟨True.intro, fun _ => rfl⟩, H.ext rfl⟩
   ·skip
    clear hb
    refine hX3068 _ _ _ _ _ (by decide) (by decide) H (by decide) fun st3187 H => ?_
    refine post_i (Or.inr rfl) (.tup [(lst own3150 encI l3151), (.bool (true))]) (resV_many (resX (resC (g := false) (s := 1) (o := 0) (by kernel_rfl) (by kernel_rfl) (by kernel_rfl) (H.fact 2 rfl) (by kernel_rfl)) (resX (resC (g := false) (s := 1) (o := 0) (by kernel_rfl) (by kernel_rfl) (by kernel_rfl) (H.fact 1 rfl) (by kernel_rfl)) resN)) (by simp)) ?_
    refine wr_run 5 [(35, (.tup [(lst own3150 encI l3151), (.bool (true))])), (41, (lst own3150 encI l3151)), (42, (.bool (true))), (11, (lst own3150 encI l3151)), (12, (.bool (true)))] (by kernel_rfl) ?_
    refine wr_done ?_
    refine wl_assoc ?_
    refine wl_ops ?_
    refine wr_run 3 [(43, (lst own3150 encI l3151)), (6, (lst own3150 encI l3151)), (7, (.int (0)))] (by kernel_rfl) ?_
    refine wr_done ?_
    refine wl_ret ?_
    refine post_i (Or.inr rfl) (.tup [(lst own3150 encI l3151), (.int (0))]) (by kernel_rfl) ?_
    exact ⟨own3150, l3151, 0, rfl, by first | omega | (simp; omega) | simp, ⟨H.tok 0 rfl, hx_l3151⟩, H.ext rfl⟩

set_option maxHeartbeats 4000000 in
theorem Least_ok (C : ChChest) (p : Int) (st : St) (hp : (C.People.length : Int) ≤ 1048576) (hc : (C.Copies.length : Int) ≤ 1048576) (hr : (C.Rules.length : Int) ≤ 1048576) : WF Try.prog 32 [(.agg [(.int (C.Words)), (.int (C.Facts)), (lst .any encS C.People), (.int (C.Last)), (lst .any encCopy C.Copies), (lst .any encRule C.Rules)]), (.int (p))] st fun r st' => ∃ (own3188 : EF.Own) (l3189 : List Int) (e3190 : Int), r = (.tup [(lst own3188 encI l3189), (.int (e3190))]) ∧ ((l3189.length : Int) ≤ 1048576) ∧ (Grown st st' (own3188, 1) ∧ (own3188 = .exact → l3189 = [])) ∧ Ext st st' := by
 refine wf_L c32 rfl ?_
 have H := SP.start st
 refine wl_tail ?_
 refine wl_assoc ?_
 refine wl_ops ?_
 refine wr_box (.agg [(.int (C.Words)), (.int (C.Facts)), (lst .any encS C.People), (.int (C.Last)), (lst .any encCopy C.Copies), (lst .any encRule C.Rules)]) (by kernel_rfl) [(.int (C.Words)), (.int (C.Facts)), (lst .any encS C.People), (.int (C.Last)), (lst .any encCopy C.Copies), (lst .any encRule C.Rules)] (by kernel_rfl) (by kernel_rfl) H (by kernel_rfl) fun a3191 st3192 H => ?_
 refine wr_run 2 [(4, (.list .exact [] 0)), (5, (.int (0)))] (by kernel_rfl) ?_
 refine wr_done ?_
 refine wl_assoc ?_
 refine wl_ops ?_
 refine wr_load H 0 a3191 0 _ true rfl (by kernel_rfl) (.agg [(.int (C.Words)), (.int (C.Facts)), (lst .any encS C.People), (.int (C.Last)), (lst .any encCopy C.Copies), (lst .any encRule C.Rules)]) (by kernel_rfl) (by kernel_rfl) ?_
 refine wr_run 2 [(14, (.int (p))), (15, (.ptr a3191 2))] (by kernel_rfl) ?_
 refine wr_load H 0 a3191 2 _ true rfl (by kernel_rfl) (lst .any encS C.People) (by kernel_rfl) (by kernel_rfl) ?_
 refine wr_run 2 [(17, (.int ((C.People.length : Int)))), (18, (lst .exact encI [p, (C.People.length : Int)]))] (by kernel_rfl) ?_
 refine wr_call [(.agg [(.int (C.Words)), (.int (C.Facts)), (lst .any encS C.People), (.int (C.Last)), (lst .any encCopy C.Copies), (lst .any encRule C.Rules)]), (lst .exact encI [p, (C.People.length : Int)])] (by kernel_rfl) (by kernel_rfl) (WF.mono (enter_ok C .exact ([p, (C.People.length : Int)]) _ (by first | omega | simp | (simp; omega)) (by first | omega | simp | (simp; omega)) (by first | omega | simp | (simp; omega)) (by first | omega | simp | (simp; omega))) ?_)
 rintro r3193 st3194 (⟨e3195, rfl, hf3206, E3204⟩ | ⟨a3196, tm3197, v3198, v3199, v3200, es3201, k3202, rfl, hf3209, hf3210, hf3211, hf3212, hf3213, hf3214, hf3215, hf3216, hf3217, hf3218, hf3219, hm3203, W3208, E3207⟩)
 ·skip
  replace H := H.then E3204
  refine wr_run 3 [(12, (.tup [(.v (.pointer none)), (.int (e3195))])), (20, (.v (.pointer none))), (21, (.int (e3195)))] (by kernel_rfl) ?_
  refine wr_alloc H (by kernel_rfl) fun a3220 st3221 H => ?_
  refine wr_store H 0 a3220 0 _ true rfl (by kernel_rfl) (.v (.pointer none)) (by kernel_rfl) [(.v (.pointer none))] (by kernel_rfl) (by kernel_rfl) (by kernel_rfl) (Nat.le_of_ble_eq_true rfl) (by kernel_rfl) (by kernel_rfl) fun st3222 H => ?_
  refine wr_run 1 [(7, (.int (e3195)))] (by kernel_rfl) ?_
  refine wr_done ?_
  refine wl_assoc ?_
  refine wl_assoc ?_
  refine wl_ops ?_
  refine wr_run 2 [(22, (.int (e3195))), (23, (.bool ((e3195 : Int) != (0 : Int))))] (by kernel_rfl) ?_
  refine wr_done ?_
  refine wl_cond ((e3195 : Int) != (0 : Int)) (by kernel_rfl) (fun c3223 => ?_) (fun c3223 => ?_)
  ·skip
   have c3223' : ¬ ((e3195 : Int) = 0) := by simpa using c3223
   refine wl_assoc ?_
   refine wl_ops ?_
   refine wr_run 3 [(24, (.int (e3195))), (4, (.list .exact [] 0)), (5, (.int (e3195)))] (by kernel_rfl) ?_
   refine wr_done ?_
   refine wl_ret ?_
   refine post_i (Or.inr rfl) (.tup [(.list .exact [] 0), (.int (e3195))]) (by kernel_rfl) ?_
   exact ⟨.exact, [], e3195, rfl, by first | omega | (simp; omega) | simp, ⟨True.intro, fun _ => rfl⟩, H.ext rfl⟩
  ·skip
   have c3223' : (e3195 : Int) = 0 := by simpa using c3223
   exfalso; omega
 ·skip
  have hr3224 := hf3219 0 (p) ((C.People.length : Int)) rfl rfl (by omega)
  replace H : SP st [⟨a3196, .cells [(.int (C.Words)), (.int (C.Facts)), (lst .any encS C.People), (.int (C.Last)), (lst .any encCopy C.Copies), (lst .any encRule C.Rules), (.int (v3198)), (.int (v3199)), (.int (v3200)), (.map tm3197)], true⟩, ⟨tm3197, .map es3201 k3202, true⟩, ⟨a3191, .cells [(.int (C.Words)), (.int (C.Facts)), (lst .any encS C.People), (.int (C.Last)), (lst .any encCopy C.Copies), (lst .any encRule C.Rules)], true⟩] [] st3194 := H.addnew E3207 W3208
  refine wr_run 3 [(12, (.tup [(.ptr a3196 0), (.int (0))])), (20, (.ptr a3196 0)), (21, (.int (0)))] (by kernel_rfl) ?_
  refine wr_alloc H (by kernel_rfl) fun a3225 st3226 H => ?_
  refine wr_store H 0 a3225 0 _ true rfl (by kernel_rfl) (.ptr a3196 0) (by kernel_rfl) [(.ptr a3196 0)] (by kernel_rfl) (by kernel_rfl) (by kernel_rfl) (Nat.le_of_ble_eq_true rfl) (by kernel_rfl) (by kernel_rfl) fun st3227 H => ?_
  refine wr_run 1 [(7, (.int (0)))] (by kernel_rfl) ?_
  refine wr_done ?_
  refine wl_assoc ?_
  refine wl_assoc ?_
  refine wl_ops ?_
  refine wr_run 2 [(22, (.int (0))), (23, (.bool (false)))] (by kernel_rfl) ?_
  refine wr_done ?_
  refine wl_cond false (by kernel_rfl) (fun c3228 => by cases c3228) (fun c3228 => ?_)
  clear c3228
  refine wl_skip_seq ?_
  refine wl_assoc ?_
  refine wl_ops ?_
  refine wr_load H 0 a3225 0 _ true rfl (by kernel_rfl) (.ptr a3196 0) (by kernel_rfl) (by kernel_rfl) ?_
  refine wr_run 3 [(26, (.int (p))), (27, (.ptr a3196 0)), (28, (.ptr a3196 6))] (by kernel_rfl) ?_
  refine wr_iaddra a3196 6 (by kernel_rfl) (p) (by kernel_rfl) (by omega) (by kernel_rfl) ?_
  have han3229 : p = 0 ∨ p = 1 ∨ p = 2 := by omega
  obtain ⟨n3229, hn3229, hon3229⟩ : ∃ y : Int, getCells [(.int (C.Words)), (.int (C.Facts)), (lst .any encS C.People), (.int (C.Last)), (lst .any encCopy C.Copies), (lst .any encRule C.Rules), (.int (v3198)), (.int (v3199)), (.int (v3200)), (.map tm3197)] false 1 (6 + (p : Int).toNat * 1) = some ((fun y : Int => .int y) y) ∧ (y = v3198 ∨ y = v3199 ∨ y = v3200) := by
   rcases han3229 with e | e | e
   ·rw [e]; exact ⟨v3198, by kernel_rfl, by simp⟩
   ·rw [e]; exact ⟨v3199, by kernel_rfl, by simp⟩
   ·rw [e]; exact ⟨v3200, by kernel_rfl, by simp⟩
  have hrn3229 : -9223372036854775808 ≤ n3229 ∧ n3229 ≤ 9223372036854775807 := by omega
  clear hon3229
  clear han3229
  refine wr_load H 1 a3196 (6 + (p : Int).toNat * 1) _ true rfl (by kernel_rfl) (.int (n3229)) hn3229 (by kernel_rfl) ?_
  refine wr_alloc H (by kernel_rfl) fun a3230 st3231 H => ?_
  refine wr_store H 0 a3230 0 _ true rfl (by kernel_rfl) (.int (n3229)) (by kernel_rfl) [(.int (n3229))] (by kernel_rfl) (by kernel_rfl) (by kernel_rfl) (Nat.le_of_ble_eq_true rfl) (by kernel_rfl) (by kernel_rfl) fun st3232 H => ?_
  refine wr_done ?_
  refine wl_assoc ?_
  refine wl_assoc ?_
  refine wl_ops ?_
  refine wr_load H 0 a3230 0 _ true rfl (by kernel_rfl) (.int (n3229)) (by kernel_rfl) (by kernel_rfl) ?_
  refine wr_load H 0 a3230 0 _ true rfl (by kernel_rfl) (.int (n3229)) (by kernel_rfl) (by kernel_rfl) ?_
  refine wr_load H 0 a3230 0 _ true rfl (by kernel_rfl) (.int (n3229)) (by kernel_rfl) (by kernel_rfl) ?_
  refine wr_run 1 [(34, (.agg [(.int (n3229)), (.int (n3229)), (.int (n3229))]))] (by kernel_rfl) ?_
  refine wr_alloc H (by kernel_rfl) fun a3233 st3234 H => ?_
  refine wr_store H 0 a3233 0 _ true rfl (by kernel_rfl) (.agg [(.int (n3229)), (.int (n3229)), (.int (n3229))]) (by kernel_rfl) [(.int (n3229)), (.int (n3229)), (.int (n3229))] (by kernel_rfl) (by kernel_rfl) (by kernel_rfl) (Nat.le_of_ble_eq_true rfl) (by kernel_rfl) (by kernel_rfl) fun st3235 H => ?_
  refine wr_done ?_
  refine wl_assoc ?_
  refine wl_draw0 (fun n => by kernel_rfl) ?_
  refine wd_load H 0 a3233 0 _ true rfl (by kernel_rfl) (.agg [(.int (n3229)), (.int (n3229)), (.int (n3229))]) (by kernel_rfl) [] (by kernel_rfl) True.intro (by kernel_rfl) ?_
  refine wd_load H 2 a3225 0 _ true rfl (by kernel_rfl) (.ptr a3196 0) (by kernel_rfl) [] (by kernel_rfl) True.intro (by kernel_rfl) ?_
  refine wd_run 2 [(37, (.ptr a3196 0)), (38, (.ptr a3196 6))] (by kernel_rfl) (by kernel_rfl) ?_
  refine wd_load H 3 a3196 6 _ true rfl (by kernel_rfl) (.agg [(.int (v3198)), (.int (v3199)), (.int (v3200))]) (by kernel_rfl) [] (by kernel_rfl) True.intro (by kernel_rfl) ?_
  refine wd_pureX (fun y => .bool y) _ (ev_bool (.agg (List.map AV.int [n3229, n3229, n3229])) (.agg (List.map AV.int [v3198, v3199, v3200])) (by kernel_rfl) (by kernel_rfl) (bin_eq_arr (by simp) (by kernel_rfl) 3 (by kernel_rfl) rfl rfl)) (by kernel_rfl) (by kernel_rfl) fun b3236 _ => ?_
  refine wd_run 1 [(41, (.bool (b3236)))] (by kernel_rfl) (by kernel_rfl) ?_
  refine wd_case 41 (b3236) (by kernel_rfl) (fun c3237 => ?_) (fun c3237 => ?_) (by kernel_rfl)
  ·skip
   refine wd_guard (by kernel_rfl) ?_ (by kernel_rfl)
   refine wd_frame [(.agg [(.int (C.Words)), (.int (C.Facts)), (lst .any encS C.People), (.int (C.Last)), (lst .any encCopy C.Copies), (lst .any encRule C.Rules)]), (.int (p)), (.ptr a3191 0), .junk, (.list .exact [] 0), (.int (0)), (.ptr a3225 0), (.int (0)), (.ptr a3230 0), (.ptr a3233 0), .junk, .junk, (.tup [(.ptr a3196 0), (.int (0))]), (.agg [(.int (C.Words)), (.int (C.Facts)), (lst .any encS C.People), (.int (C.Last)), (lst .any encCopy C.Copies), (lst .any encRule C.Rules)]), (.int (p)), (.ptr a3191 2), (lst .any encS C.People), (.int ((C.People.length : Int))), (lst .exact encI [p, (C.People.length : Int)]), (.tup [(.ptr a3196 0), (.int (0))]), (.ptr a3196 0), (.int (0)), (.int (0)), (.bool (false)), .junk, (.ptr a3196 0), (.int (p)), (.ptr a3196 0), (.ptr a3196 6), (.ptr a3196 (6 + (p : Int).toNat * 1)), (.int (n3229)), (.int (n3229)), (.int (n3229)), (.int (n3229)), (.agg [(.int (n3229)), (.int (n3229)), (.int (n3229))]), (.agg [(.int (n3229)), (.int (n3229)), (.int (n3229))]), (.ptr a3196 0), (.ptr a3196 0), (.ptr a3196 6), (.agg [(.int (v3198)), (.int (v3199)), (.int (v3200))]), (.bool (b3236)), (.bool (true)), .junk, .junk, .junk, .junk, .junk, .junk, .junk, .junk, .junk, .junk, .junk, .junk] (by kernel_rfl) ?_
   refine wd_load H 1 a3230 0 _ true rfl (by kernel_rfl) (.int (n3229)) (by kernel_rfl) [] (by kernel_rfl) True.intro (by kernel_rfl) ?_
   refine wd_run 2 [(43, (.bool ((n3229 : Int) == (0 : Int)))), (44, (.bool ((n3229 : Int) == (0 : Int))))] (by kernel_rfl) (by kernel_rfl) ?_
   refine wd_done ?_
   refine wl_cond ((n3229 : Int) == (0 : Int)) (by kernel_rfl) (fun c3238 => ?_) (fun c3238 => ?_)
   ·skip
    have c3238' : (n3229 : Int) = 0 := by simpa using c3238
    refine wl_assoc ?_
    refine wl_ops ?_
    refine wr_run 2 [(4, (.list .exact [] 0)), (5, (.int (0)))] (by kernel_rfl) ?_
    refine wr_done ?_
    refine wl_ret ?_
    refine post_i (Or.inr rfl) (.tup [(.list .exact [] 0), (.int (0))]) (by kernel_rfl) ?_
    exact ⟨.exact, [], 0, rfl, by first | omega | (simp; omega) | simp, ⟨True.intro, fun _ => rfl⟩, H.ext rfl⟩
   ·skip
    have c3238' : ¬ ((n3229 : Int) = 0) := by simpa using c3238
    refine wl_skip_seq ?_
    refine wl_assoc ?_
    refine wl_ops ?_
    refine wr_load H 1 a3230 0 _ true rfl (by kernel_rfl) (.int (n3229)) (by kernel_rfl) (by kernel_rfl) ?_
    refine wr_call [(.int (n3229))] (by kernel_rfl) (by kernel_rfl) (WF.mono (list_ok n3229 _ (by omega)) ?_)
    rintro r3239 st3240 ⟨own3241, l3242, rfl, hf3245, hf3246, hf3247, E3243⟩
    have H3248 := H
    replace H := H.then E3243
    obtain ⟨hg3250, hx3251⟩ := hf3247
    replace H := H.addtok H3248 _ _ hg3250
    refine wr_run 2 [(48, (.fn 61 [] [(.ptr a3225 0), (.ptr a3230 0)])), (49, (.agg [(.fn 61 [] [(.ptr a3225 0), (.ptr a3230 0)])]))] (by kernel_rfl) ?_
    refine wr_call [(lst own3241 encI l3242), (.agg [(.fn 61 [] [(.ptr a3225 0), (.ptr a3230 0)])])] (by kernel_rfl) (by kernel_rfl) ?_
    refine wf_L c55 rfl ?_
    refine wl_tail ?_
    refine wl_assoc ?_
    refine wl_ops ?_
    refine wr_box (.agg [(.fn 61 [] [(.ptr a3225 0), (.ptr a3230 0)])]) (by kernel_rfl) [(.fn 61 [] [(.ptr a3225 0), (.ptr a3230 0)])] (by kernel_rfl) (by kernel_rfl) H (by kernel_rfl) fun a3252 st3253 H => ?_
    refine wr_alloc H (by kernel_rfl) fun a3254 st3255 H => ?_
    refine wr_alloc H (by kernel_rfl) fun a3256 st3257 H => ?_
    refine wr_done ?_
    refine wl_assoc ?_
    refine wl_assoc ?_
    refine wl_ops ?_
    refine wr_run 1 [(7, (lst own3241 encI l3242))] (by kernel_rfl) ?_
    refine wr_call [(lst own3241 encI l3242)] (by kernel_rfl) (by kernel_rfl) ?_
    refine wf_L c73 rfl ?_
    refine wl_tail ?_
    refine wl_assoc ?_
    refine wl_ops ?_
    refine wr_box (lst own3241 encI l3242) (by kernel_rfl) [(lst own3241 encI l3242)] (by kernel_rfl) (by kernel_rfl) H (by kernel_rfl) fun a3260 st3261 H => ?_
    refine wr_run 1 [(2, (.v .nilFunc))] (by kernel_rfl) ?_
    refine wr_done ?_
    refine wl_assoc ?_
    refine wl_ops ?_
    refine wr_run 2 [(3, (.fn 83 [] [(.ptr a3260 0)])), (2, (.fn 83 [] [(.ptr a3260 0)]))] (by kernel_rfl) ?_
    refine wr_done ?_
    refine wl_ret ?_
    refine post_i (Or.inr rfl) (.fn 83 [] [(.ptr a3260 0)]) (by kernel_rfl) ?_
    refine wr_done ?_
    refine wl_frame [(lst own3241 encI l3242), (.agg [(.fn 61 [] [(.ptr a3225 0), (.ptr a3230 0)])]), .junk, (.ptr a3252 0), (.ptr a3254 0), (.ptr a3256 0), .junk, (lst own3241 encI l3242), (.fn 83 [] [(.ptr a3260 0)]), .junk, .junk, .junk, .junk, .junk, .junk, .junk] (by kernel_rfl) ?_
    refine wl_rangef H 83 [] [(.ptr a3260 0)] (by kernel_rfl) fun l3262 s3262 R3262 H hN3262 hE3262 hX3262 => ?_
    have hlt3262 : ∀ a ∈ [l3262, a3260, a3256, a3254, a3252, a3233, a3230, a3225, a3196, tm3197, a3191], a < s3262.next := (List.forall_mem_cons.2 ⟨St.lt_of_get (H.fact 0 rfl), (List.forall_mem_cons.2 ⟨St.lt_of_get (H.fact 1 rfl), (List.forall_mem_cons.2 ⟨St.lt_of_get (H.fact 2 rfl), (List.forall_mem_cons.2 ⟨St.lt_of_get (H.fact 3 rfl), (List.forall_mem_cons.2 ⟨St.lt_of_get (H.fact 4 rfl), (List.forall_mem_cons.2 ⟨St.lt_of_get (H.fact 5 rfl), (List.forall_mem_cons.2 ⟨St.lt_of_get (H.fact 6 rfl), (List.forall_mem_cons.2 ⟨St.lt_of_get (H.fact 7 rfl), (List.forall_mem_cons.2 ⟨St.lt_of_get (H.fact 8 rfl), (List.forall_mem_cons.2 ⟨St.lt_of_get (H.fact 9 rfl), (List.forall_mem_cons.2 ⟨St.lt_of_get (H.fact 10 rfl), (by simp)⟩)⟩)⟩)⟩)⟩)⟩)⟩)⟩)⟩)⟩)⟩)
    have hbs3262 := H.next
    suffices key3262 : ∃ I : Bool → St → Prop, I true s3262 ∧ Lasts s3262.next I ∧ YieldsTo Try.prog (.yld l3262) s3262.next I (fun xs : List AV => ∃ x : Int, xs = [.int x] ∧ (-9223372036854775808 ≤ x ∧ x ≤ 9223372036854775807)) ∧ (∀ b s, I b s → s.get a3260 = some (.cells [(lst own3241 encI l3242)])) ∧ ∀ b s, I b s → R3262 s by
     obtain ⟨I, h1, h2, h3, h4, h5⟩ := key3262
     exact WF.mono (some1_ok I s3262.next l3262 a3260 own3241 l3242 h2 h3 h4 s3262 (Nat.le_refl _) h1 (by omega) (fun x hx => by have hf3245x := hf3245 x hx; omega)) fun r s ⟨b, _, h, _⟩ => h5 b s h
    refine ⟨(fun (b : Bool) (s : St) => (b = true ∧ ∃ (es3289 : List MEnt) (k3290 : Nat), SP st [⟨l3262, .loop .ready none (L [(lst own3241 encI l3242), (.agg [(.fn 61 [] [(.ptr a3225 0), (.ptr a3230 0)])]), .junk, (.ptr a3252 0), (.ptr a3254 0), (.ptr a3256 0), .junk, (lst own3241 encI l3242), (.fn 83 [] [(.ptr a3260 0)]), .junk, .junk, .junk, .junk, .junk, .junk, .junk]) 16 [9] (rfA Try.f55 0) (rfB Try.f55 0), true⟩, ⟨a3260, .cells [(lst own3241 encI l3242)], true⟩, ⟨a3256, .cells [(.bool (false))], true⟩, ⟨a3254, .cells [(.list .exact [] 0)], true⟩, ⟨a3252, .cells [(.fn 61 [] [(.ptr a3225 0), (.ptr a3230 0)])], true⟩, ⟨a3233, .cells [(.int (n3229)), (.int (n3229)), (.int (n3229))], true⟩, ⟨a3230, .cells [(.int (n3229))], true⟩, ⟨a3225, .cells [(.ptr a3196 0)], true⟩, ⟨a3196, .cells [(.int (C.Words)), (.int (C.Facts)), (lst .any encS C.People), (.int (C.Last)), (lst .any encCopy C.Copies), (lst .any encRule C.Rules), (.int (v3198)), (.int (v3199)), (.int (v3200)), (.map tm3197)], true⟩, ⟨tm3197, .map es3289 k3290, true⟩, ⟨a3191, .cells [(.int (C.Words)), (.int (C.Facts)), (lst .any encS C.People), (.int (C.Last)), (lst .any encCopy C.Copies), (lst .any encRule C.Rules)], true⟩] [(own3241, 1)] s ∧ MapOK KInt (fun x => ∃ n : Int, x = .int n ∧ (-9223372036854775808 ≤ n ∧ n ≤ 9223372036854775807)) es3289) ∨ (b = false ∧ ∃ (own3344 : EF.Own) (l3345 : List Int) (es3346 : List MEnt) (k3347 : Nat), SP st [⟨l3262, .loop .done (some .ret) (L [(lst own3241 encI l3242), (.agg [(.fn 61 [] [(.ptr a3225 0), (.ptr a3230 0)])]), .junk, (.ptr a3252 0), (.ptr a3254 0), (.ptr a3256 0), .junk, (lst own3241 encI l3242), (.fn 83 [] [(.ptr a3260 0)]), .junk, .junk, .junk, .junk, .junk, .junk, .junk]) 16 [9] (rfA Try.f55 0) (rfB Try.f55 0), true⟩, ⟨a3260, .cells [(lst own3241 encI l3242)], true⟩, ⟨a3256, .cells [(.bool (true))], true⟩, ⟨a3254, .cells [(lst own3344 encI l3345)], true⟩, ⟨a3252, .cells [(.fn 61 [] [(.ptr a3225 0), (.ptr a3230 0)])], true⟩, ⟨a3233, .cells [(.int (n3229)), (.int (n3229)), (.int (n3229))], true⟩, ⟨a3230, .cells [(.int (n3229))], true⟩, ⟨a3225, .cells [(.ptr a3196 0)], true⟩, ⟨a3196, .cells [(.int (C.Words)), (.int (C.Facts)), (lst .any encS C.People), (.int (C.Last)), (lst .any encCopy C.Copies), (lst .any encRule C.Rules), (.int (v3198)), (.int (v3199)), (.int (v3200)), (.map tm3197)], true⟩, ⟨tm3197, .map es3346 k3347, true⟩, ⟨a3191, .cells [(.int (C.Words)), (.int (C.Facts)), (lst .any encS C.People), (.int (C.Last)), (lst .any encCopy C.Copies), (lst .any encRule C.Rules)], true⟩] [(own3344, 1), (own3241, 1)] s ∧ MapOK KInt (fun x => ∃ n : Int, x = .int n ∧ (-9223372036854775808 ≤ n ∧ n ≤ 9223372036854775807)) es3346 ∧ ((l3345.length : Int) ≤ 64) ∧ (own3344 = .exact → l3345 = []))), Or.inl ⟨rfl, es3201, k3202, H, hm3203⟩, ?_, ?_, ?_, ?_⟩
    all_goals clear H
    ·skip
     rintro b s s' (⟨hb, es3289, k3290, HS, hm3291⟩ | ⟨hb, own3344, l3345, es3346, k3347, HS, hm3348, hf3262_0, hx_l3345⟩) hr
     ·exact Or.inl ⟨hb, es3289, k3290, HS.relied hbs3262 (fun c hc => hlt3262 c.a (List.mem_map.2 ⟨c, hc, rfl⟩)) hr, hm3291⟩
     ·exact Or.inr (⟨hb, own3344, l3345, es3346, k3347, HS.relied hbs3262 (fun c hc => hlt3262 c.a (List.mem_map.2 ⟨c, hc, rfl⟩)) hr, hm3348, hf3262_0, hx_l3345⟩)
    ·skip
     rintro xs sb3262 (⟨hb, es3289, k3290, HS, hm3291⟩ | ⟨hb, own3344, l3345, es3346, k3347, HS, hm3348, hf3262_0, hx_l3345⟩) hx
     ·skip
      obtain ⟨x3349, rfl, hx⟩ := hx
      have hy3262_0 := hx
      have H := HS.restart [⟨l3262, .loop .ready none (L [(lst own3241 encI l3242), (.agg [(.fn 61 [] [(.ptr a3225 0), (.ptr a3230 0)])]), .junk, (.ptr a3252 0), (.ptr a3254 0), (.ptr a3256 0), .junk, (lst own3241 encI l3242), (.fn 83 [] [(.ptr a3260 0)]), .junk, .junk, .junk, .junk, .junk, .junk, .junk]) 16 [9] (rfA Try.f55 0) (rfB Try.f55 0), false⟩, ⟨a3260, .cells [(lst own3241 encI l3242)], false⟩, ⟨a3256, .cells [(.bool (false))], false⟩, ⟨a3254, .cells [(.list .exact [] 0)], false⟩, ⟨a3252, .cells [(.fn 61 [] [(.ptr a3225 0), (.ptr a3230 0)])], false⟩, ⟨a3233, .cells [(.int (n3229)), (.int (n3229)), (.int (n3229))], false⟩, ⟨a3230, .cells [(.int (n3229))], false⟩, ⟨a3225, .cells [(.ptr a3196 0)], false⟩, ⟨a3196, .cells [(.int (C.Words)), (.int (C.Facts)), (lst .any encS C.People), (.int (C.Last)), (lst .any encCopy C.Copies), (lst .any encRule C.Rules), (.int (v3198)), (.int (v3199)), (.int (v3200)), (.map tm3197)], false⟩, ⟨tm3197, .map es3289 k3290, false⟩, ⟨a3191, .cells [(.int (C.Words)), (.int (C.Facts)), (lst .any encS C.People), (.int (C.Last)), (lst .any encCopy C.Copies), (lst .any encRule C.Rules)], false⟩] rfl rfl rfl
      refine wy_body [(.int (x3349))] H a55_0 b55_0 rfl (by kernel_rfl) fun Q1 Q2 hA3262 hB3262 hC3262 => ?_
      refine wl_frame [(lst own3241 encI l3242), (.agg [(.fn 61 [] [(.ptr a3225 0), (.ptr a3230 0)])]), .junk, (.ptr a3252 0), (.ptr a3254 0), (.ptr a3256 0), .junk, (lst own3241 encI l3242), (.fn 83 [] [(.ptr a3260 0)]), (.int (x3349)), .junk, .junk, .junk, .junk, .junk, .junk] (by kernel_rfl) ?_
      refine wl_tail ?_
      refine wl_ops ?_
      refine wr_run 1 [(6, (.int (x3349)))] (by kernel_rfl) ?_
      refine wr_done ?_
      refine wl_skip ?_
      refine hA3262 _ _ _ _ _ _ H fun st3350 H => ?_
      refine wl_tail ?_
      refine wl_block fun Q3351 hN3351 hE3351 hX3351 => ?_
      refine wl_tail ?_
      refine wl_assoc ?_
      refine wl_ops ?_
      refine wr_run 1 [(10, (.ptr a3252 0))] (by kernel_rfl) ?_
      refine wr_load H 4 a3252 0 _ false rfl (by kernel_rfl) (.fn 61 [] [(.ptr a3225 0), (.ptr a3230 0)]) (by kernel_rfl) (by kernel_rfl) ?_
      refine wr_run 1 [(12, (.int (x3349)))] (by kernel_rfl) ?_
      refine wr_callv (.fn 61 [] [(.ptr a3225 0), (.ptr a3230 0)]) (by kernel_rfl) [(.int (x3349))] (by kernel_rfl) (by kernel_rfl) (WF.mono (least1_ok C a3196 v3198 v3199 v3200 tm3197 es3289 k3290 a3225 x3349 a3230 n3229 _ (H.fact 7 rfl) (H.fact 8 rfl) (H.fact 9 rfl) (H.fact 6 rfl) (H.pick [7, 8, 9, 6] (by decide) rfl) hm3291 (by omega) (by omega) (by omega) (by omega) (by omega) (by omega) hf3218 (by omega) (by omega)) ?_)
      rintro r3352 st3353 ⟨b3354, es3355, k3356, rfl, hm3357, E3358⟩
      replace H := H.eff1 9 rfl rfl (.map es3355 k3356) E3358
      refine wr_done ?_
      refine wl_cond (b3354) (by kernel_rfl) (fun c3360 => ?_) (fun c3360 => ?_)
      ·skip
       refine wl_assoc ?_
       refine wl_ops ?_
       refine wr_run 1 [(14, (.int (x3349)))] (by kernel_rfl) ?_
       refine wr_call [(.int (x3349))] (by kernel_rfl) (by kernel_rfl) (WF.mono (list_ok x3349 _ (by omega)) ?_)
       rintro r3361 st3362 ⟨own3363, l3364, rfl, hf3367, hf3368, hf3369, E3365⟩
       have H3370 := H
       replace H := H.then E3365
       obtain ⟨hg3372, hx3373⟩ := hf3369
       replace H := H.addtok H3370 _ _ hg3372
       refine wr_store H 3 a3254 0 _ false rfl (by kernel_rfl) (lst own3363 encI l3364) (by kernel_rfl) [(lst own3363 encI l3364)] (by kernel_rfl) (by kernel_rfl) (by kernel_rfl) (Nat.le_of_ble_eq_true rfl) (by kernel_rfl) (by kernel_rfl) fun st3374 H => ?_
       refine wr_store H 2 a3256 0 _ false rfl (by kernel_rfl) (.bool (true)) (by kernel_rfl) [(.bool (true))] (by kernel_rfl) (by kernel_rfl) (by kernel_rfl) (Nat.le_of_ble_eq_true rfl) (by kernel_rfl) (by kernel_rfl) fun st3375 H => ?_
       refine wr_done ?_
       refine wl_ret ?_
       refine hX3351 _ _ _ (by decide) (by decide) ?_
       refine hC3262 _ _ _ _ _ _ _ (by decide) H fun st3376 H => ?_
       exact ⟨false, rfl, Or.inr (⟨rfl, own3363, l3364, es3355, k3356, HS.compose (m2 := [⟨l3262, .loop .done (some .ret) (L [(lst own3241 encI l3242), (.agg [(.fn 61 [] [(.ptr a3225 0), (.ptr a3230 0)])]), .junk, (.ptr a3252 0), (.ptr a3254 0), (.ptr a3256 0), .junk, (lst own3241 encI l3242), (.fn 83 [] [(.ptr a3260 0)]), .junk, .junk, .junk, .junk, .junk, .junk, .junk]) 16 [9] (rfA Try.f55 0) (rfB Try.f55 0), true⟩, ⟨a3260, .cells [(lst own3241 encI l3242)], true⟩, ⟨a3256, .cells [(.bool (true))], true⟩, ⟨a3254, .cells [(lst own3363 encI l3364)], true⟩, ⟨a3252, .cells [(.fn 61 [] [(.ptr a3225 0), (.ptr a3230 0)])], true⟩, ⟨a3233, .cells [(.int (n3229)), (.int (n3229)), (.int (n3229))], true⟩, ⟨a3230, .cells [(.int (n3229))], true⟩, ⟨a3225, .cells [(.ptr a3196 0)], true⟩, ⟨a3196, .cells [(.int (C.Words)), (.int (C.Facts)), (lst .any encS C.People), (.int (C.Last)), (lst .any encCopy C.Copies), (lst .any encRule C.Rules), (.int (v3198)), (.int (v3199)), (.int (v3200)), (.map tm3197)], true⟩, ⟨tm3197, .map es3355 k3356, true⟩, ⟨a3191, .cells [(.int (C.Words)), (.int (C.Facts)), (lst .any encS C.People), (.int (C.Last)), (lst .any encCopy C.Copies), (lst .any encRule C.Rules)], true⟩]) H rfl rfl rfl rfl, hm3357, by omega, hx3373⟩), SP.body_keep HS.toks_arr H (fun c hc _ => hlt3262 c.a (List.mem_map.2 ⟨c, hc, rfl⟩))⟩
      ·skip
       refine wl_skip_seq ?_
       refine wl_skip ?_
       refine hN3351 _ _ ?_
       refine wl_skip ?_
       refine hB3262 _ _ _ _ _ _ H fun st3377 H => ?_
       exact ⟨true, rfl, Or.inl ⟨rfl, es3355, k3356, HS.compose (m2 := [⟨l3262, .loop .ready none (L [(lst own3241 encI l3242), (.agg [(.fn 61 [] [(.ptr a3225 0), (.ptr a3230 0)])]), .junk, (.ptr a3252 0), (.ptr a3254 0), (.ptr a3256 0), .junk, (lst own3241 encI l3242), (.fn 83 [] [(.ptr a3260 0)]), .junk, .junk, .junk, .junk, .junk, .junk, .junk]) 16 [9] (rfA Try.f55 0) (rfB Try.f55 0), true⟩, ⟨a3260, .cells [(lst own3241 encI l3242)], true⟩, ⟨a3256, .cells [(.bool (false))], true⟩, ⟨a3254, .cells [(.list .exact [] 0)], true⟩, ⟨a3252, .cells [(.fn 61 [] [(.ptr a3225 0), (.ptr a3230 0)])], true⟩, ⟨a3233, .cells [(.int (n3229)), (.int (n3229)), (.int (n3229))], true⟩, ⟨a3230, .cells [(.int (n3229))], true⟩, ⟨a3225, .cells [(.ptr a3196 0)], true⟩, ⟨a3196, .cells [(.int (C.Words)), (.int (C.Facts)), (lst .any encS C.People), (.int (C.Last)), (lst .any encCopy C.Copies), (lst .any encRule C.Rules), (.int (v3198)), (.int (v3199)), (.int (v3200)), (.map tm3197)], true⟩, ⟨tm3197, .map es3355 k3356, true⟩, ⟨a3191, .cells [(.int (C.Words)), (.int (C.Facts)), (lst .any encS C.People), (.int (C.Last)), (lst .any encCopy C.Copies), (lst .any encRule C.Rules)], true⟩]) H rfl rfl rfl rfl, hm3357⟩, SP.body_keep HS.toks_arr H (fun c hc _ => hlt3262 c.a (List.mem_map.2 ⟨c, hc, rfl⟩))⟩
     ·cases hb
    ·skip
     rintro b s (⟨hb, es3289, k3290, HS, hm3291⟩ | ⟨hb, own3344, l3345, es3346, k3347, HS, hm3348, hf3262_0, hx_l3345⟩)
     ·exact HS.fact 1 rfl
     ·exact HS.fact 1 rfl
    ·skip
     rintro b s (⟨hb, es3289, k3290, H, hm3291⟩ | ⟨hb, own3344, l3345, es3346, k3347, H, hm3348, hf3262_0, hx_l3345⟩)
     ·skip
      clear hb
      refine hN3262 _ _ _ _ H (by decide) fun st3378 H => ?_
      refine wl_assoc ?_
      refine wl_ops ?_
      refine wr_store H 2 a3254 0 _ true rfl (by kernel_rfl) (.list .exact [] 0) (by kernel_rfl) [(.list .exact [] 0)] (by kernel_rfl) (by kernel_rfl) (by kernel_rfl) (Nat.le_of_ble_eq_true rfl) (by kernel_rfl) (by kernel_rfl) fun st3379 H => ?_
      refine wr_store H 1 a3256 0 _ true rfl (by kernel_rfl) (.bool (false)) (by kernel_rfl) [(.bool (false))] (by kernel_rfl) (by kernel_rfl) (by kernel_rfl) (Nat.le_of_ble_eq_true rfl) (by kernel_rfl) (by kernel_rfl) fun st3380 H => ?_
      refine wr_done ?_
      refine wl_ret ?_
      refine post_i (Or.inr rfl) (.tup [(.list .exact [] 0), (.bool (false))]) (resV_many (resX (resC (g := false) (s := 1) (o := 0) (by kernel_rfl) (by kernel_rfl) (by kernel_rfl) (H.fact 2 rfl) (by kernel_rfl)) (resX (resC (g := false) (s := 1) (o := 0) (by kernel_rfl) (by kernel_rfl) (by kernel_rfl) (H.fact 1 rfl) (by kernel_rfl)) resN)) (by simp)) ?_
      refine wr_run 5 [(45, (.tup [(.list .exact [] 0), (.bool (false))])), (51, (.list .exact [] 0)), (52, (.bool (false))), (10, (.list .exact [] 0)), (11, (.bool (false)))] (by kernel_rfl) ?_
      refine wr_done ?_
      refine wl_assoc ?_
      refine wl_ops ?_
      refine wr_run 3 [(53, (.list .exact [] 0)), (4, (.list .exact [] 0)), (5, (.int (0)))] (by kernel_rfl) ?_
      refine wr_done ?_
      refine wl_ret ?_
      refine post_i (Or.inr rfl) (.tup [(.list .exact [] 0), (.int (0))]) (by kernel_rfl) ?_
      exact ⟨.exact, [], 0, rfl, by first | omega | (simp; omega) | simp, ⟨True.intro, fun _ => rfl⟩, H.ext rfl⟩
     ·skip
      clear hb
      refine hX3262 _ _ _ _ _ (by decide) (by decide) H (by decide) fun st3381 H => ?_
      refine post_i (Or.inr rfl) (.tup [(lst own3344 encI l3345), (.bool (true))]) (resV_many (resX (resC (g := false) (s := 1) (o := 0) (by kernel_rfl) (by kernel_rfl) (by kernel_rfl) (H.fact 2 rfl) (by kernel_rfl)) (resX (resC (g := false) (s := 1) (o := 0) (by kernel_rfl) (by kernel_rfl) (by kernel_rfl) (H.fact 1 rfl) (by kernel_rfl)) resN)) (by simp)) ?_
      refine wr_run 5 [(45, (.tup [(lst own3344 encI l3345), (.bool (true))])), (51, (lst own3344 encI l3345)), (52, (.bool (true))), (10, (lst own3344 encI l3345)), (11, (.bool (true)))] (by kernel_rfl) ?_
      refine wr_done ?_
      refine wl_assoc ?_
      refine wl_ops ?_
      refine wr_run 3 [(53, (lst own3344 encI l3345)), (4, (lst own3344 encI l3345)), (5, (.int (0)))] (by kernel_rfl) ?_
      refine wr_done ?_
      refine wl_ret ?_
      refine post_i (Or.inr rfl) (.tup [(lst own3344 encI l3345), (.int (0))]) (by kernel_rfl) ?_
      exact ⟨own3344, l3345, 0, rfl, by first | omega | (simp; omega) | simp, ⟨H.tok 0 rfl, hx_l3345⟩, H.ext rfl⟩
  ·skip
   refine wd_run 3 [(42, (.tup [])), (43, (.tup [])), (44, (.bool (false)))] (by kernel_rfl) (by kernel_rfl) ?_
   refine wd_done ?_
   refine wl_cond false (by kernel_rfl) (fun c3382 => by cases c3382) (fun c3382 => ?_)
   clear c3382
   refine wl_skip_seq ?_
   refine wl_assoc ?_
   refine wl_ops ?_
   refine wr_frame [(.agg [(.int (C.Words)), (.int (C.Facts)), (lst .any encS C.People), (.int (C.Last)), (lst .any encCopy C.Copies), (lst .any encRule C.Rules)]), (.int (p)), (.ptr a3191 0), .junk, (.list .exact [] 0), (.int (0)), (.ptr a3225 0), (.int (0)), (.ptr a3230 0), (.ptr a3233 0), .junk, .junk, (.tup [(.ptr a3196 0), (.int (0))]), (.agg [(.int (C.Words)), (.int (C.Facts)), (lst .any encS C.People), (.int (C.Last)), (lst .any encCopy C.Copies), (lst .any encRule C.Rules)]), (.int (p)), (.ptr a3191 2), (lst .any encS C.People), (.int ((C.People.length : Int))), (lst .exact encI [p, (C.People.length : Int)]), (.tup [(.ptr a3196 0), (.int (0))]), (.ptr a3196 0), (.int (0)), (.int (0)), (.bool (false)), .junk, (.ptr a3196 0), (.int (p)), (.ptr a3196 0), (.ptr a3196 6), (.ptr a3196 (6 + (p : Int).toNat * 1)), (.int (n3229)), (.int (n3229)), (.int (n3229)), (.int (n3229)), (.agg [(.int (n3229)), (.int (n3229)), (.int (n3229))]), (.agg [(.int (n3229)), (.int (n3229)), (.int (n3229))]), (.ptr a3196 0), (.ptr a3196 0), (.ptr a3196 6), (.agg [(.int (v3198)), (.int (v3199)), (.int (v3200))]), (.bool (b3236)), (.bool (false)), (.tup []), (.tup []), (.bool (false)), .junk, .junk, .junk, .junk, .junk, .junk, .junk, .junk, .junk] (by kernel_rfl) ?_
   refine wr_load H 1 a3230 0 _ true rfl (by kernel_rfl) (.int (n3229)) (by kernel_rfl) (by kernel_rfl) ?_
   refine wr_call [(.int (n3229))] (by kernel_rfl) (by kernel_rfl) (WF.mono (list_ok n3229 _ (by omega)) ?_)
   rintro r3383 st3384 ⟨own3385, l3386, rfl, hf3389, hf3390, hf3391, E3387⟩
   have H3392 := H
   replace H := H.then E3387
   obtain ⟨hg3394, hx3395⟩ := hf3391
   replace H := H.addtok H3392 _ _ hg3394
   refine wr_run 2 [(48, (.fn 61 [] [(.ptr a3225 0), (.ptr a3230 0)])), (49, (.agg [(.fn 61 [] [(.ptr a3225 0), (.ptr a3230 0)])]))] (by kernel_rfl) ?_
   refine wr_call [(lst own3385 encI l3386), (.agg [(.fn 61 [] [(.ptr a3225 0), (.ptr a3230 0)])])] (by kernel_rfl) (by kernel_rfl) ?_
   refine wf_L c55 rfl ?_
   refine wl_tail ?_
   refine wl_assoc ?_
   refine wl_ops ?_
   refine wr_box (.agg [(.fn 61 [] [(.ptr a3225 0), (.ptr a3230 0)])]) (by kernel_rfl) [(.fn 61 [] [(.ptr a3225 0), (.ptr a3230 0)])] (by kernel_rfl) (by kernel_rfl) H (by kernel_rfl) fun a3396 st3397 H => ?_
   refine wr_alloc H (by kernel_rfl) fun a3398 st3399 H => ?_
   refine wr_alloc H (by kernel_rfl) fun a3400 st3401 H => ?_
   refine wr_done ?_
   refine wl_assoc ?_
   refine wl_assoc ?_
   refine wl_ops ?_
   refine wr_run 1 [(7, (lst own3385 encI l3386))] (by kernel_rfl) ?_
   refine wr_call [(lst own3385 encI l3386)] (by kernel_rfl) (by kernel_rfl) ?_
   refine wf_L c73 rfl ?_
   refine wl_tail ?_
   refine wl_assoc ?_
   refine wl_ops ?_
   refine wr_box (lst own3385 encI l3386) (by kernel_rfl) [(lst own3385 encI l3386)] (by kernel_rfl) (by kernel_rfl) H (by kernel_rfl) fun a3404 st3405 H => ?_
   refine wr_run 1 [(2, (.v .nilFunc))] (by kernel_rfl) ?_
   refine wr_done ?_
   refine wl_assoc ?_
   refine wl_ops ?_
   refine wr_run 2 [(3, (.fn 83 [] [(.ptr a3404 0)])), (2, (.fn 83 [] [(.ptr a3404 0)]))] (by kernel_rfl) ?_
   refine wr_done ?_
   refine wl_ret ?_
   refine post_i (Or.inr rfl) (.fn 83 [] [(.ptr a3404 0)]) (by kernel_rfl) ?_
   refine wr_done ?_
   refine wl_frame [(lst own3385 encI l3386), (.agg [(.fn 61 [] [(.ptr a3225 0), (.ptr a3230 0)])]), .junk, (.ptr a3396 0), (.ptr a3398 0), (.ptr a3400 0), .junk, (lst own3385 encI l3386), (.fn 83 [] [(.ptr a3404 0)]), .junk, .junk, .junk, .junk, .junk, .junk, .junk] (by kernel_rfl) ?_
   refine wl_rangef H 83 [] [(.ptr a3404 0)] (by kernel_rfl) fun l3406 s3406 R3406 H hN3406 hE3406 hX3406 => ?_
   have hlt3406 : ∀ a ∈ [l3406, a3404, a3400, a3398, a3396, a3233, a3230, a3225, a3196, tm3197, a3191], a < s3406.next := (List.forall_mem_cons.2 ⟨St.lt_of_get (H.fact 0 rfl), (List.forall_mem_cons.2 ⟨St.lt_of_get (H.fact 1 rfl), (List.forall_mem_cons.2 ⟨St.lt_of_get (H.fact 2 rfl), (List.forall_mem_cons.2 ⟨St.lt_of_get (H.fact 3 rfl), (List.forall_mem_cons.2 ⟨St.lt_of_get (H.fact 4 rfl), (List.forall_mem_cons.2 ⟨St.lt_of_get (H.fact 5 rfl), (List.forall_mem_cons.2 ⟨St.lt_of_get (H.fact 6 rfl), (List.forall_mem_cons.2 ⟨St.lt_of_get (H.fact 7 rfl), (List.forall_mem_cons.2 ⟨St.lt_of_get (H.fact 8 rfl), (List.forall_mem_cons.2 ⟨St.lt_of_get (H.fact 9 rfl), (List.forall_mem_cons.2 ⟨St.lt_of_get (H.fact 10 rfl), (by simp)⟩)⟩)⟩)⟩)⟩)⟩)⟩)⟩)⟩)⟩)⟩)
   have hbs3406 := H.next
   suffices key3406 : ∃ I : Bool → St → Prop, I true s3406 ∧ Lasts s3406.next I ∧ YieldsTo Try.prog (.yld l3406) s3406.next I (fun xs : List AV => ∃ x : Int, xs = [.int x] ∧ (-9223372036854775808 ≤ x ∧ x ≤ 9223372036854775807)) ∧ (∀ b s, I b s → s.get a3404 = some (.cells [(lst own3385 encI l3386)])) ∧ ∀ b s, I b s → R3406 s by
    obtain ⟨I, h1, h2, h3, h4, h5⟩ := key3406
    exact WF.mono (some1_ok I s3406.next l3406 a3404 own3385 l3386 h2 h3 h4 s3406 (Nat.le_refl _) h1 (by omega) (fun x hx => by have hf3389x := hf3389 x hx; omega)) fun r s ⟨b, _, h, _⟩ => h5 b s h
   refine ⟨(fun (b : Bool) (s : St) => (b = true ∧ ∃ (es3433 : List MEnt) (k3434 : Nat), SP st [⟨l3406, .loop .ready none (L [(lst own3385 encI l3386), (.agg [(.fn 61 [] [(.ptr a3225 0), (.ptr a3230 0)])]), .junk, (.ptr a3396 0), (.ptr a3398 0), (.ptr a3400 0), .junk, (lst own3385 encI l3386), (.fn 83 [] [(.ptr a3404 0)]), .junk, .junk, .junk, .junk, .junk, .junk, .junk]) 16 [9] (rfA Try.f55 0) (rfB Try.f55 0), true⟩, ⟨a3404, .cells [(lst own3385 encI l3386)], true⟩, ⟨a3400, .cells [(.bool (false))], true⟩, ⟨a3398, .cells [(.list .exact [] 0)], true⟩, ⟨a3396, .cells [(.fn 61 [] [(.ptr a3225 0), (.ptr a3230 0)])], true⟩, ⟨a3233, .cells [(.int (n3229)), (.int (n3229)), (.int (n3229))], true⟩, ⟨a3230, .cells [(.int (n3229))], true⟩, ⟨a3225, .cells [(.ptr a3196 0)], true⟩, ⟨a3196, .cells [(.int (C.Words)), (.int (C.Facts)), (lst .any encS C.People), (.int (C.Last)), (lst .any encCopy C.Copies), (lst .any encRule C.Rules), (.int (v3198)), (.int (v3199)), (.int (v3200)), (.map tm3197)], true⟩, ⟨tm3197, .map es3433 k3434, true⟩, ⟨a3191, .cells [(.int (C.Words)), (.int (C.Facts)), (lst .any encS C.People), (.int (C.Last)), (lst .any encCopy C.Copies), (lst .any encRule C.Rules)], true⟩] [(own3385, 1)] s ∧ MapOK KInt (fun x => ∃ n : Int, x = .int n ∧ (-9223372036854775808 ≤ n ∧ n ≤ 9223372036854775807)) es3433) ∨ (b = false ∧ ∃ (own3488 : EF.Own) (l3489 : List Int) (es3490 : List MEnt) (k3491 : Nat), SP st [⟨l3406, .loop .done (some .ret) (L [(lst own3385 encI l3386), (.agg [(.fn 61 [] [(.ptr a3225 0), (.ptr a3230 0)])]), .junk, (.ptr a3396 0), (.ptr a3398 0), (.ptr a3400 0), .junk, (lst own3385 encI l3386), (.fn 83 [] [(.ptr a3404 0)]), .junk, .junk, .junk, .junk, .junk, .junk, .junk]) 16 [9] (rfA Try.f55 0) (rfB Try.f55 0), true⟩, ⟨a3404, .cells [(lst own3385 encI l3386)], true⟩, ⟨a3400, .cells [(.bool (true))], true⟩, ⟨a3398, .cells [(lst own3488 encI l3489)], true⟩, ⟨a3396, .cells [(.fn 61 [] [(.ptr a3225 0), (.ptr a3230 0)])], true⟩, ⟨a3233, .cells [(.int (n3229)), (.int (n3229)), (.int (n3229))], true⟩, ⟨a3230, .cells [(.int (n3229))], true⟩, ⟨a3225, .cells [(.ptr a3196 0)], true⟩, ⟨a3196, .cells [(.int (C.Words)), (.int (C.Facts)), (lst .any encS C.People), (.int (C.Last)), (lst .any encCopy C.Copies), (lst .any encRule C.Rules), (.int (v3198)), (.int (v3199)), (.int (v3200)), (.map tm3197)], true⟩, ⟨tm3197, .map es3490 k3491, true⟩, ⟨a3191, .cells [(.int (C.Words)), (.int (C.Facts)), (lst .any encS C.People), (.int (C.Last)), (lst .any encCopy C.Copies), (lst .any encRule C.Rules)], true⟩] [(own3488, 1), (own3385, 1)] s ∧ MapOK KInt (fun x => ∃ n : Int, x = .int n ∧ (-9223372036854775808 ≤ n ∧ n ≤ 9223372036854775807)) es3490 ∧ ((l3489.length : Int) ≤ 64) ∧ (own3488 = .exact → l3489 = []))), Or.inl ⟨rfl, es3201, k3202, H, hm3203⟩, ?_, ?_, ?_, ?_⟩
   all_goals clear H
   ·skip
    rintro b s s' (⟨hb, es3433, k3434, HS, hm3435⟩ | ⟨hb, own3488, l3489, es3490, k3491, HS, hm3492, hf3406_0, hx_l3489⟩) hr
    ·exact Or.inl ⟨hb, es3433, k3434, HS.relied hbs3406 (fun c hc => hlt3406 c.a (List.mem_map.2 ⟨c, hc, rfl⟩)) hr, hm3435⟩
    ·exact Or.inr (⟨hb, own3488, l3489, es3490, k3491, HS.relied hbs3406 (fun c hc => hlt3406 c.a (List.mem_map.2 ⟨c, hc, rfl⟩)) hr, hm3492, hf3406_0, hx_l3489⟩)
   ·skip
    rintro xs sb3406 (⟨hb, es3433, k3434, HS, hm3435⟩ | ⟨hb, own3488, l3489, es3490, k3491, HS, hm3492, hf3406_0, hx_l3489⟩) hx
    ·skip
     obtain ⟨x3493, rfl, hx⟩ := hx
     have hy3406_0 := hx
     have H := HS.restart [⟨l3406, .loop .ready none (L [(lst own3385 encI l3386), (.agg [(.fn 61 [] [(.ptr a3225 0), (.ptr a3230 0)])]), .junk, (.ptr a3396 0), (.ptr a3398 0), (.ptr a3400 0), .junk, (lst own3385 encI l3386), (.fn 83 [] [(.ptr a3404 0)]), .junk, .junk, .junk, .junk, .junk, .junk, .junk]) 16 [9] (rfA Try.f55 0) (rfB Try.f55 0), false⟩, ⟨a3404, .cells [(lst own3385 encI l3386)], false⟩, ⟨a3400, .cells [(.bool (false))], false⟩, ⟨a3398, .cells [(.list .exact [] 0)], false⟩, ⟨a3396, .cells [(.fn 61 [] [(.ptr a3225 0), (.ptr a3230 0)])], false⟩, ⟨a3233, .cells [(.int (n3229)), (.int (n3229)), (.int (n3229))], false⟩, ⟨a3230, .cells [(.int (n3229))], false⟩, ⟨a3225, .cells [(.ptr a3196 0)], false⟩, ⟨a3196, .cells [(.int (C.Words)), (.int (C.Facts)), (lst .any encS C.People), (.int (C.Last)), (lst .any encCopy C.Copies), (lst .any encRule C.Rules), (.int (v3198)), (.int (v3199)), (.int (v3200)), (.map tm3197)], false⟩, ⟨tm3197, .map es3433 k3434, false⟩, ⟨a3191, .cells [(.int (C.Words)), (.int (C.Facts)), (lst .any encS C.People), (.int (C.Last)), (lst .any encCopy C.Copies), (lst .any encRule C.Rules)], false⟩] rfl rfl rfl
     refine wy_body [(.int (x3493))] H a55_0 b55_0 rfl (by kernel_rfl) fun Q1 Q2 hA3406 hB3406 hC3406 => ?_
     refine wl_frame [(lst own3385 encI l3386), (.agg [(.fn 61 [] [(.ptr a3225 0), (.ptr a3230 0)])]), .junk, (.ptr a3396 0), (.ptr a3398 0), (.ptr a3400 0), .junk, (lst own3385 encI l3386), (.fn 83 [] [(.ptr a3404 0)]), (.int (x3493)), .junk, .junk, .junk, .junk, .junk, .junk] (by kernel_rfl) ?_
     refine wl_tail ?_
     refine wl_ops ?_
     refine wr_run 1 [(6, (.int (x3493)))] (by kernel_rfl) ?_
     refine wr_done ?_
     refine wl_skip ?_
     refine hA3406 _ _ _ _ _ _ H fun st3494 H => ?_
     refine wl_tail ?_
     refine wl_block fun Q3495 hN3495 hE3495 hX3495 => ?_
     refine wl_tail ?_
     refine wl_assoc ?_
     refine wl_ops ?_
     refine wr_run 1 [(10, (.ptr a3396 0))] (by kernel_rfl) ?_
     refine wr_load H 4 a3396 0 _ false rfl (by kernel_rfl) (.fn 61 [] [(.ptr a3225 0), (.ptr a3230 0)]) (by kernel_rfl) (by kernel_rfl) ?_
     refine wr_run 1 [(12, (.int (x3493)))] (by kernel_rfl) ?_
     refine wr_callv (.fn 61 [] [(.ptr a3225 0), (.ptr a3230 0)]) (by kernel_rfl) [(.int (x3493))] (by kernel_rfl) (by kernel_rfl) (WF.mono (least1_ok C a3196 v3198 v3199 v3200 tm3197 es3433 k3434 a3225 x3493 a3230 n3229 _ (H.fact 7 rfl) (H.fact 8 rfl) (H.fact 9 rfl) (H.fact 6 rfl) (H.pick [7, 8, 9, 6] (by decide) rfl) hm3435 (by omega) (by omega) (by omega) (by omega) (by omega) (by omega) hf3218 (by omega) (by omega)) ?_)
     rintro r3496 st3497 ⟨b3498, es3499, k3500, rfl, hm3501, E3502⟩
     replace H := H.eff1 9 rfl rfl (.map es3499 k3500) E3502
     refine wr_done ?_
     refine wl_cond (b3498) (by kernel_rfl) (fun c3504 => ?_) (fun c3504 => ?_)
     ·skip
      refine wl_assoc ?_
      refine wl_ops ?_
      refine wr_run 1 [(14, (.int (x3493)))] (by kernel_rfl) ?_
      refine wr_call [(.int (x3493))] (by kernel_rfl) (by kernel_rfl) (WF.mono (list_ok x3493 _ (by omega)) ?_)
      rintro r3505 st3506 ⟨own3507, l3508, rfl, hf3511, hf3512, hf3513, E3509⟩
      have H3514 := H
      replace H := H.then E3509
      obtain ⟨hg3516, hx3517⟩ := hf3513
      replace H := H.addtok H3514 _ _ hg3516
      refine wr_store H 3 a3398 0 _ false rfl (by kernel_rfl) (lst own3507 encI l3508) (by kernel_rfl) [(lst own3507 encI l3508)] (by kernel_rfl) (by kernel_rfl) (by kernel_rfl) (Nat.le_of_ble_eq_true rfl) (by kernel_rfl) (by kernel_rfl) fun st3518 H => ?_
      refine wr_store H 2 a3400 0 _ false rfl (by kernel_rfl) (.bool (true)) (by kernel_rfl) [(.bool (true))] (by kernel_rfl) (by kernel_rfl) (by kernel_rfl) (Nat.le_of_ble_eq_true rfl) (by kernel_rfl) (by kernel_rfl) fun st3519 H => ?_
      refine wr_done ?_
      refine wl_ret ?_
      refine hX3495 _ _ _ (by decide) (by decide) ?_
      refine hC3406 _ _ _ _ _ _ _ (by decide) H fun st3520 H => ?_
      exact ⟨false, rfl, Or.inr (⟨rfl, own3507, l3508, es3499, k3500, HS.compose (m2 := [⟨l3406, .loop .done (some .ret) (L [(lst own3385 encI l3386), (.agg [(.fn 61 [] [(.ptr a3225 0), (.ptr a3230 0)])]), .junk, (.ptr a3396 0), (.ptr a3398 0), (.ptr a3400 0), .junk, (lst own3385 encI l3386), (.fn 83 [] [(.ptr a3404 0)]), .junk, .junk, .junk, .junk, .junk, .junk, .junk]) 16 [9] (rfA Try.f55 0) (rfB Try.f55 0), true⟩, ⟨a3404, .cells [(lst own3385 encI l3386)], true⟩, ⟨a3400, .cells [(.bool (true))], true⟩, ⟨a3398, .cells [(lst own3507 encI l3508)], true⟩, ⟨a3396, .cells [(.fn 61 [] [(.ptr a3225 0), (.ptr a3230 0)])], true⟩, ⟨a3233, .cells [(.int (n3229)), (.int (n3229)), (.int (n3229))], true⟩, ⟨a3230, .cells [(.int (n3229))], true⟩, ⟨a3225, .cells [(.ptr a3196 0)], true⟩, ⟨a3196, .cells [(.int (C.Words)), (.int (C.Facts)), (lst .any encS C.People), (.int (C.Last)), (lst .any encCopy C.Copies), (lst .any encRule C.Rules), (.int (v3198)), (.int (v3199)), (.int (v3200)), (.map tm3197)], true⟩, ⟨tm3197, .map es3499 k3500, true⟩, ⟨a3191, .cells [(.int (C.Words)), (.int (C.Facts)), (lst .any encS C.People), (.int (C.Last)), (lst .any encCopy C.Copies), (lst .any encRule C.Rules)], true⟩]) H rfl rfl rfl rfl, hm3501, by omega, hx3517⟩), SP.body_keep HS.toks_arr H (fun c hc _ => hlt3406 c.a (List.mem_map.2 ⟨c, hc, rfl⟩))⟩
     ·skip
      refine wl_skip_seq ?_
      refine wl_skip ?_
      refine hN3495 _ _ ?_
      refine wl_skip ?_
      refine hB3406 _ _ _ _ _ _ H fun st3521 H => ?_
      exact ⟨true, rfl, Or.inl ⟨rfl, es3499, k3500, HS.compose (m2 := [⟨l3406, .loop .ready none (L [(lst own3385 encI l3386), (.agg [(.fn 61 [] [(.ptr a3225 0), (.ptr a3230 0)])]), .junk, (.ptr a3396 0), (.ptr a3398 0), (.ptr a3400 0), .junk, (lst own3385 encI l3386), (.fn 83 [] [(.ptr a3404 0)]), .junk, .junk, .junk, .junk, .junk, .junk, .junk]) 16 [9] (rfA Try.f55 0) (rfB Try.f55 0), true⟩, ⟨a3404, .cells [(lst own3385 encI l3386)], true⟩, ⟨a3400, .cells [(.bool (false))], true⟩, ⟨a3398, .cells [(.list .exact [] 0)], true⟩, ⟨a3396, .cells [(.fn 61 [] [(.ptr a3225 0), (.ptr a3230 0)])], true⟩, ⟨a3233, .cells [(.int (n3229)), (.int (n3229)), (.int (n3229))], true⟩, ⟨a3230, .cells [(.int (n3229))], true⟩, ⟨a3225, .cells [(.ptr a3196 0)], true⟩, ⟨a3196, .cells [(.int (C.Words)), (.int (C.Facts)), (lst .any encS C.People), (.int (C.Last)), (lst .any encCopy C.Copies), (lst .any encRule C.Rules), (.int (v3198)), (.int (v3199)), (.int (v3200)), (.map tm3197)], true⟩, ⟨tm3197, .map es3499 k3500, true⟩, ⟨a3191, .cells [(.int (C.Words)), (.int (C.Facts)), (lst .any encS C.People), (.int (C.Last)), (lst .any encCopy C.Copies), (lst .any encRule C.Rules)], true⟩]) H rfl rfl rfl rfl, hm3501⟩, SP.body_keep HS.toks_arr H (fun c hc _ => hlt3406 c.a (List.mem_map.2 ⟨c, hc, rfl⟩))⟩
    ·cases hb
   ·skip
    rintro b s (⟨hb, es3433, k3434, HS, hm3435⟩ | ⟨hb, own3488, l3489, es3490, k3491, HS, hm3492, hf3406_0, hx_l3489⟩)
    ·exact HS.fact 1 rfl
    ·exact HS.fact 1 rfl
   ·skip
    rintro b s (⟨hb, es3433, k3434, H, hm3435⟩ | ⟨hb, own3488, l3489, es3490, k3491, H, hm3492, hf3406_0, hx_l3489⟩)
    ·skip
     clear hb
     refine hN3406 _ _ _ _ H (by decide) fun st3522 H => ?_
     refine wl_assoc ?_
     refine wl_ops ?_
     refine wr_store H 2 a3398 0 _ true rfl (by kernel_rfl) (.list .exact [] 0) (by kernel_rfl) [(.list .exact [] 0)] (by kernel_rfl) (by kernel_rfl) (by kernel_rfl) (Nat.le_of_ble_eq_true rfl) (by kernel_rfl) (by kernel_rfl) fun st3523 H => ?_
     refine wr_store H 1 a3400 0 _ true rfl (by kernel_rfl) (.bool (false)) (by kernel_rfl) [(.bool (false))] (by kernel_rfl) (by kernel_rfl) (by kernel_rfl) (Nat.le_of_ble_eq_true rfl) (by kernel_rfl) (by kernel_rfl) fun st3524 H => ?_
     refine wr_done ?_
     refine wl_ret ?_
     refine post_i (Or.inr rfl) (.tup [(.list .exact [] 0), (.bool (false))]) (resV_many (resX (resC (g := false) (s := 1) (o := 0) (by kernel_rfl) (by kernel_rfl) (by kernel_rfl) (H.fact 2 rfl) (by kernel_rfl)) (resX (resC (g := false) (s := 1) (o := 0) (by kernel_rfl) (by kernel_rfl) (by kernel_rfl) (H.fact 1 rfl) (by kernel_rfl)) resN)) (by simp)) ?_
     refine wr_run 5 [(45, (.tup [(.list .exact [] 0), (.bool (false))])), (51, (.list .exact [] 0)), (52, (.bool (false))), (10, (.list .exact [] 0)), (11, (.bool (false)))] (by kernel_rfl) ?_
     refine wr_done ?_
     refine wl_assoc ?_
     refine wl_ops ?_
     refine wr_run 3 [(53, (.list .exact [] 0)), (4, (.list .exact [] 0)), (5, (.int (0)))] (by kernel_rfl) ?_
     refine wr_done ?_
     refine wl_ret ?_
     refine post_i (Or.inr rfl) (.tup [(.list .exact [] 0), (.int (0))]) (by kernel_rfl) ?_
     exact ⟨.exact, [], 0, rfl, by first | omega | (simp; omega) | simp, ⟨True.intro, fun _ => rfl⟩, H.ext rfl⟩
    ·skip
     clear hb
     refine hX3406 _ _ _ _ _ (by decide) (by decide) H (by decide) fun st3525 H => ?_
     refine post_i (Or.inr rfl) (.tup [(lst own3488 encI l3489), (.bool (true))]) (resV_many (resX (resC (g := false) (s := 1) (o := 0) (by kernel_rfl) (by kernel_rfl) (by kernel_rfl) (H.fact 2 rfl) (by kernel_rfl)) (resX (resC (g := false) (s := 1) (o := 0) (by kernel_rfl) (by kernel_rfl) (by kernel_rfl) (H.fact 1 rfl) (by kernel_rfl)) resN)) (by simp)) ?_
     refine wr_run 5 [(45, (.tup [(lst own3488 encI l3489), (.bool (true))])), (51, (lst own3488 encI l3489)), (52, (.bool (true))), (10, (lst own3488 encI l3489)), (11, (.bool (true)))] (by kernel_rfl) ?_
     refine wr_done ?_
     refine wl_assoc ?_
     refine wl_ops ?_
     refine wr_run 3 [(53, (lst own3488 encI l3489)), (4, (lst own3488 encI l3489)), (5, (.int (0)))] (by kernel_rfl) ?_
     refine wr_done ?_
     refine wl_ret ?_
     refine post_i (Or.inr rfl) (.tup [(lst own3488 encI l3489), (.int (0))]) (by kernel_rfl) ?_
     exact ⟨own3488, l3489, 0, rfl, by first | omega | (simp; omega) | simp, ⟨H.tok 0 rfl, hx_l3489⟩, H.ext rfl⟩

end Go.Proofs.Ytbekogkbdmaobaa

