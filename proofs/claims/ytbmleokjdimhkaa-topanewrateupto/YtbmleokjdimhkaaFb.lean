/- Every operation that calls no function: what the resolved operation says, the machine does. No conditions. -/
import Derived.Test.YtbmleokjdimhkaaFa
import Derived.RangeFuncNested
import Derived.OrdersIn
import Derived.LoopNIn
import Derived.KernelRfl
import Derived.Laws.BitsLemmas
set_option linter.unusedVariables false
set_option linter.unusedSimpArgs false

section
namespace Go.EF
open Go Go.RowKit

theorem getElem_map_some {a : Act} {xs : Array Operand} {i : Nat} {o : Operand} (h : xs[i]? = some o) : (xs.map a.eval)[i]? = some (a.eval o) := by simp [h]

theorem opt_rel {G : Gh} {N : Nat} {fr : Nat → AV} {a : Act} (hF : FrRel G N fr a.tmps) {x : Option Operand} {o : Option Opd} (h : optOpd x = some o) : OptRel G (·.ev fr) o (x.map a.eval) := by
  cases x with
  | none => simp [optOpd] at h; subst h; trivial
  | some x =>
    simp only [optOpd, Option.map_eq_some_iff] at h
    obtain ⟨o', h1, rfl⟩ := h
    exact opd_rel h1 hF

theorem op_sound {P : Program} {G : Gh} {st st' : St} {w : World} {N : Nat} {fr : Nat → AV} {a : Act} {o : Oper} {c : COp} {x : AV} (hc : compOp P o = some c) (hF : FrRel G N fr a.tmps) (hR : Rel P G st w)
    (he : evOp P (·.ev fr) st c = some (x, st')) : OpOK P G st' x w (execOp a.eval o) := by
  obtain ⟨dst, op, type, pos, after, guard⟩ := o
  cases op with
  | move y =>
    simp only [compOp, Option.map_eq_some_iff] at hc; obtain ⟨y', h1, rfl⟩ := hc
    simp only [evOp, Option.some.injEq, Prod.mk.injEq] at he; obtain ⟨rfl, rfl⟩ := he
    exact ⟨_, _, w, G, rfl, .inl rfl, .refl _, hR, opd_rel h1 hF⟩
  | assign y =>
    simp only [compOp, Option.map_eq_some_iff] at hc; obtain ⟨y', h1, rfl⟩ := hc
    simp only [evOp, Option.some.injEq, Prod.mk.injEq] at he; obtain ⟨rfl, rfl⟩ := he
    exact ⟨_, _, w, G, rfl, .inl rfl, .refl _, hR, opd_rel h1 hF⟩
  | pick p q r =>
    simp only [compOp] at hc
    split at hc
    · rename_i p' q' r' h1 h2 h3; cases hc
      simp only [evOp] at he
      split at he
      · rename_i hb; cases he
        exact ok_pick (t := true) hR (opd_rel h1 hF) (opd_rel h2 hF) (opd_rel h3 hF) hb
      · rename_i hb; cases he
        exact ok_pick (t := false) hR (opd_rel h1 hF) (opd_rel h2 hF) (opd_rel h3 hF) hb
      · cases he
    · cases hc
  | alloc t =>
    simp only [compOp, Option.map_eq_some_iff] at hc; obtain ⟨z, h1, rfl⟩ := hc
    simp only [evOp, Option.some.injEq, Prod.mk.injEq] at he; obtain ⟨rfl, rfl⟩ := he
    exact ok_alloc h1 hR
  | box t y =>
    simp only [compOp, Option.map_eq_some_iff] at hc; obtain ⟨y', h1, rfl⟩ := hc
    simp only [evOp] at he
    split at he
    · rename_i hb; cases he; exact ok_box hb hR (opd_rel h1 hF)
    · cases he
  | build t parts =>
    simp only [compOp] at hc
    split at hc
    · rename_i fields z hu hz
      split at hc
      · rename_i places hp
        rw [Option.map_eq_some_iff] at hc; obtain ⟨ps, h1, rfl⟩ := hc
        simp only [evOp] at he
        split at he
        · rename_i cs hf; cases he; exact ok_build_struct hu hz hp h1 hF hR hf
        · cases he
      · cases hc
    · rename_i n e z hu hz
      split at hc
      · rename_i s hs
        rw [Option.map_eq_some_iff] at hc; obtain ⟨ps, h1, rfl⟩ := hc
        simp only [evOp] at he
        split at he
        · rename_i cs hf; cases he; exact ok_build_array hu hz hs h1 hF hR hf
        · cases he
      · cases hc
    · cases hc
  | buildSlice t n parts =>
    simp only [compOp] at hc
    split at hc
    · rename_i e hu
      split at hc
      · rename_i s z hs hz
        split at hc
        · rename_i hn
          rw [Option.map_eq_some_iff] at hc; obtain ⟨ps, h1, rfl⟩ := hc
          simp only [evOp] at he
          split at he
          · rename_i cs hf; cases he; exact ok_lit hu hz hs hn h1 hF hR hf
          · cases he
        · cases hc
      · cases hc
    · cases hc
  | load t y =>
    simp only [compOp] at hc
    split at hc
    · rename_i g s y' hg hs hy; cases hc
      simp only [evOp] at he
      split at he
      · rename_i r hl; cases he; exact ok_load hg hs hR (opd_rel hy hF) hl
      · cases he
    · cases hc
  | store t y v =>
    simp only [compOp] at hc
    split at hc
    · rename_i s y' v' hs hy hv; cases hc
      simp only [evOp] at he
      split at he
      · rename_i st'' hl; cases he; exact ok_store hs hR (opd_rel hy hF) (opd_rel hv hF) hl
      · cases he
    · cases hc
  | nilCheck y =>
    simp only [compOp, Option.map_eq_some_iff] at hc; obtain ⟨y', h1, rfl⟩ := hc
    have ry := opd_rel (a := a) h1 hF
    simp only [evOp] at he
    have fin : (∀ s p q, a.eval y ≠ .func (.method s) p q) → a.eval y ≠ .pointer none → a.eval y ≠ .nilIface → a.eval y ≠ .nilFunc → st' = st → x = Opd.ev fr y' → OpOK P G st' x w (execOp a.eval ⟨dst, .nilCheck y, type, pos, after, guard⟩) := by
      intro n1 n2 n3 n4 e1 e2
      subst e1; subst e2
      refine ⟨.value (a.eval y), a.eval y, w, G, ?_, .inl rfl, .refl _, hR, ry⟩
      simp only [execOp]; rfl
    split at he
    · rename_i p o' hy; cases he; rw [hy] at ry; simp only [VRel] at ry; obtain ⟨b, _, hb⟩ := ry
      exact fin (by rw [hb]; simp) (by rw [hb]; simp) (by rw [hb]; simp) (by rw [hb]; simp) rfl hy.symm
    · rename_i p o' hy; cases he; rw [hy] at ry; simp only [VRel] at ry; obtain ⟨b, o2, ys, hb, _⟩ := ry
      exact fin (by rw [hb]; simp) (by rw [hb]; simp) (by rw [hb]; simp) (by rw [hb]; simp) rfl hy.symm
    · rename_i f p q hy; cases he; rw [hy] at ry; simp only [VRel] at ry; obtain ⟨b, o2, hb, _⟩ := ry
      exact fin (by rw [hb]; simp) (by rw [hb]; simp) (by rw [hb]; simp) (by rw [hb]; simp) rfl hy.symm
    · rename_i l hy; cases he; rw [hy] at ry; simp only [VRel] at ry; obtain ⟨b, _, hb⟩ := ry
      exact fin (by rw [hb]; simp) (by rw [hb]; simp) (by rw [hb]; simp) (by rw [hb]; simp) rfl hy.symm
    · cases he
  | binOp op t y z t' =>
    simp only [compOp] at hc
    split at hc
    · rename_i y' z' hy hz; cases hc
      simp only [evOp] at he
      split at he
      · rename_i r hb; cases he; exact ok_bin hR (opd_rel hy hF) (opd_rel hz hF) hb
      · cases he
    · cases hc
  | unOp op t y =>
    simp only [compOp, Option.map_eq_some_iff] at hc; obtain ⟨y', h1, rfl⟩ := hc
    simp only [evOp] at he
    split at he
    · rename_i v hv
      split at he
      · rename_i r hr; cases he; exact ok_un hR (opd_rel h1 hF) hv hr
      · cases he
    · cases he
  | convert s d y =>
    simp only [compOp] at hc
    split at hc
    · rename_i e k hs hd
      rw [Option.map_eq_some_iff] at hc; obtain ⟨y', h1, rfl⟩ := hc
      simp only [evOp] at he
      split at he
      · rename_i j n hy; cases he
        have ry := opd_rel (a := a) h1 hF
        rw [hy] at ry
        exact ok_conv hR hd ⟨_, hs⟩ ry
      · cases he
    · cases hc
  | makeFunc fn first cap =>
    cases fn with
    | func f =>
      simp only [compOp] at hc
      split at hc
      · rename_i p q hp hq; cases hc
        simp only [evOp, Option.some.injEq, Prod.mk.injEq] at he; obtain ⟨rfl, rfl⟩ := he
        refine OpOK.same (y := .func (.func f) (first.map a.eval) (cap.map a.eval)) rfl hR ?_
        simp only [VRel]
        exact ⟨_, _, rfl, opds_rel hF hp, opds_rel hF hq⟩
      · cases hc
    | _ => simp [compOp] at hc
  | makeMap t r =>
    cases r with
    | none =>
      simp only [compOp, Option.some.injEq] at hc; subst hc
      simp only [evOp, Option.some.injEq, Prod.mk.injEq] at he; obtain ⟨rfl, rfl⟩ := he
      exact ok_mkmap hR
    | some r => simp [compOp] at hc
  | makeSlice t l cp =>
    simp only [compOp] at hc
    split at hc
    · rename_i e hu
      split at hc
      · rename_i i z l' c' hi hz hl hcp
        split at hc
        · rename_i hp; cases hc
          simp only [evOp] at he
          split at he
          · rename_i li ci h1 h2
            split at he
            · rename_i hb; cases he; exact ok_mkslice hu hi hz hp hR (opd_rel hl hF) (opd_rel hcp hF) h1 h2 hb
            · cases he
          · cases he
        · cases hc
      · cases hc
    · cases hc
  | slice t y lo hi mx =>
    simp only [compOp] at hc
    split at hc
    · rename_i n e hu
      split at hc
      · rename_i s y' lo' hi' hs hy hlo hhi; cases hc
        simp only [evOp] at he
        split at he
        · rename_i l h m hb
          split at he
          · rename_i p off hx; cases he
            exact ok_slicearr hu hs hR (opd_rel hy hF) (opt_rel hF hlo) (opt_rel hF hhi) hb (.inl ⟨p, off, hx, rfl⟩)
          · rename_i cs off hx
            split at he
            · rename_i hl; cases he
              exact ok_slicearr hu hs hR (opd_rel hy hF) (opt_rel hF hlo) (opt_rel hF hhi) hb (.inr ⟨cs, off, hx, hl, rfl⟩)
            · cases he
          · cases he
        · cases he
      · cases hc
    · rename_i e hu
      split at hc
      · rename_i s y' lo' hi' mx' hs hy hlo hhi hmx; cases hc
        simp only [evOp] at he
        split at he
        · rename_i own cs n hx
          split at he
          · rename_i hl
            split at he
            · rename_i l h m hb; cases he
              exact ok_slice_list hu hs hR (by rw [← hx]; exact opd_rel hy hF) (opt_rel hF hlo) (opt_rel hF hhi) (opt_rel hF hmx) hb hl rfl
            · cases he
          · cases he
        · rename_i p off len cap hx
          split at he
          · rename_i l h m hb; cases he
            exact ok_slice_ms hu hs hR (by rw [← hx]; exact opd_rel hy hF) (opt_rel hF hlo) (opt_rel hF hhi) (opt_rel hF hmx) hb
          · cases he
        · cases he
      · cases hc
    · rename_i hu
      split at hc
      · rename_i y' lo' hi' hy hlo hhi; cases hc
        simp only [evOp] at he
        split at he
        · rename_i b hx
          split at he
          · rename_i l h m hb; cases he
            exact ok_slicestr hu hR (by rw [← hx]; exact opd_rel hy hF) (opt_rel hF hlo) (opt_rel hF hhi) hb
          · cases he
        · cases he
      · cases hc
    · cases hc
  | fieldAddr s y f =>
    simp only [compOp] at hc
    split at hc
    · rename_i fields hu
      split at hc
      · rename_i fd hf
        split at hc
        · rename_i n y' hs hy; cases hc
          simp only [evOp] at he
          split at he
          · rename_i p o' hx; cases he
            exact ok_faddr hu hf hs hR (opd_rel hy hF) (.inl ⟨p, o', hx, rfl⟩)
          · rename_i cs o' hx; cases he
            exact ok_faddr hu hf hs hR (opd_rel hy hF) (.inr ⟨cs, o', hx, rfl⟩)
          · cases he
        · cases hc
      · cases hc
    · cases hc
  | field s y f =>
    simp only [compOp] at hc
    split at hc
    · rename_i fields hu
      split at hc
      · rename_i fd hf
        split at hc
        · rename_i g n y' hg hs hy; cases hc
          simp only [evOp] at he
          split at he
          · rename_i cs hx
            split at he
            · rename_i r hr; cases he
              exact ok_field hu hf hg hs hR (by rw [← hx]; exact opd_rel hy hF) hr
            · cases he
          · cases he
        · cases hc
      · cases hc
    · cases hc
  | indexAddr t y i =>
    simp only [compOp] at hc
    split at hc
    · rename_i e hu
      split at hc
      · rename_i s y' i' hs hy hi
        split at hc
        · rename_i h0; cases hc
          simp only [evOp] at he
          split at he
          · rename_i ii hii
            split at he
            · rename_i own cs n hx
              split at he
              · rename_i hb; cases he
                exact ok_iaddr hu hs hR (opd_rel hy hF) (opd_rel hi hF) hii (.inl ⟨own, cs, n, hx, hb.2, h0, hb.1, rfl⟩)
              · cases he
            · rename_i p off len cap hx
              split at he
              · rename_i hb; cases he
                exact ok_iaddr hu hs hR (opd_rel hy hF) (opd_rel hi hF) hii (.inr (.inl ⟨p, off, len, cap, hx, hb, rfl⟩))
              · cases he
            · rename_i p len hx
              split at he
              · rename_i hb; cases he
                exact ok_iaddr hu hs hR (opd_rel hy hF) (opd_rel hi hF) hii (.inr (.inr ⟨p, len, hx, hb, rfl⟩))
              · cases he
            · cases he
          · cases he
        · cases hc
      · cases hc
    · rename_i n e hu
      split at hc
      · rename_i s y' i' hs hy hi; cases hc
        simp only [evOp] at he
        split at he
        · rename_i ii hii
          split at he
          · rename_i hb
            split at he
            · rename_i p off hx; cases he
              exact ok_iaddrarr hu hs hR (opd_rel hy hF) (opd_rel hi hF) hii hb (.inl ⟨p, off, hx, rfl⟩)
            · rename_i cs off hx; cases he
              exact ok_iaddrarr hu hs hR (opd_rel hy hF) (opd_rel hi hF) hii hb (.inr ⟨cs, off, hx, rfl⟩)
            · cases he
          · cases he
        · cases he
      · cases hc
    · cases hc
  | index t y i =>
    simp only [compOp] at hc
    split at hc
    · rename_i n e hu
      split at hc
      · rename_i g s y' i' hg hs hy hi; cases hc
        simp only [evOp] at he
        split at he
        · rename_i ii cs hii hx
          split at he
          · rename_i hb
            split at he
            · rename_i r hr; cases he
              exact ok_index hu hg hs hR (by rw [← hx]; exact opd_rel hy hF) (opd_rel hi hF) hii hb hr
            · cases he
          · cases he
        · cases he
      · cases hc
    · rename_i hu
      split at hc
      · rename_i y' i' hy hi; cases hc
        simp only [evOp] at he
        split at he
        · rename_i ii b hii hx
          split at he
          · rename_i hb
            split at he
            · rename_i r hr; cases he
              exact ok_indexstr hu hR (by rw [← hx]; exact opd_rel hy hF) (opd_rel hi hF) hii hb hr
            · cases he
          · cases he
        · cases he
      · cases hc
    · cases hc
  | lookup t m k ok =>
    simp only [compOp] at hc
    split at hc
    · rename_i kt e hu
      split at hc
      · rename_i z m' k' hz hm hk; cases hc
        simp only [evOp] at he
        split at he
        · rename_i aa es clock kv h1 h2
          split at he
          · rename_i i hf
            split at he
            · rename_i en hen; cases he
              exact ok_lookup hu hz hR (opd_rel hm hF) (opd_rel hk hF) h1 h2 hf (.inl ⟨i, en, rfl, hen, rfl⟩)
            · cases he
          · rename_i hf; cases he
            exact ok_lookup hu hz hR (opd_rel hm hF) (opd_rel hk hF) h1 h2 hf (.inr ⟨rfl, rfl⟩)
          · cases he
        · cases he
      · cases hc
    · cases hc
  | mapUpdate t m k y =>
    simp only [compOp] at hc
    split at hc
    · rename_i kt e hu
      split at hc
      · rename_i m' k' y' hm hk hy; cases hc
        simp only [evOp] at he
        split at he
        · rename_i aa es clock kv h1 h2
          split at he
          · rename_i i hf
            split at he
            · rename_i en hen
              split at he
              · rename_i hsb; cases he
                exact ok_mapset hu hR (opd_rel hm hF) (opd_rel hk hF) (opd_rel hy hF) h1 h2 hf (.inl ⟨i, en, rfl, hen, hsb, rfl⟩)
              · cases he
            · cases he
          · rename_i hf; cases he
            exact ok_mapset hu hR (opd_rel hm hF) (opd_rel hk hF) (opd_rel hy hF) h1 h2 hf (.inr ⟨rfl, rfl⟩)
          · cases he
        · cases he
      · cases hc
    · cases hc
  | mapEntry t m k =>
    simp only [compOp] at hc
    split at hc
    · rename_i kt e hu
      split at hc
      · rename_i z m' k' hz hm hk; cases hc
        simp only [evOp] at he
        split at he
        · rename_i aa es clock kv h1 h2
          split at he
          · rename_i i hf
            split at he
            · rename_i en hen
              split at he
              · rename_i hsb; cases he
                exact ok_mapentry hu hz hR (opd_rel hm hF) (opd_rel hk hF) h1 h2 hf (.inl ⟨i, en, rfl, hen, hsb, rfl, rfl⟩)
              · cases he
            · cases he
          · rename_i hf; cases he
            exact ok_mapentry hu hz hR (opd_rel hm hF) (opd_rel hk hF) h1 h2 hf (.inr ⟨rfl, rfl, rfl⟩)
          · cases he
        · cases he
      · cases hc
    · cases hc
  | entryStore t m s y =>
    simp only [compOp] at hc
    split at hc
    · rename_i m' s' y' hm hs hy; cases hc
      simp only [evOp] at he
      split at he
      · rename_i aa es clock b h1 h2
        split at he
        · rename_i i hi
          split at he
          · rename_i en hen; cases he
            exact ok_entrystore hR (opd_rel hm hF) (opd_rel hs hF) (opd_rel hy hF) h1 h2 hi hen
          · cases he
        · cases he
      · cases he
    · cases hc
  | extract y i =>
    simp only [compOp, Option.map_eq_some_iff] at hc; obtain ⟨y', h1, rfl⟩ := hc
    simp only [evOp] at he
    split at he
    · rename_i vs hx
      split at he
      · rename_i r hr; cases he
        exact ok_extract hR (by rw [← hx]; exact opd_rel h1 hF) hr
      · cases he
    · cases he
  | range t y =>
    simp only [compOp] at hc
    split at hc
    · rename_i hu
      rw [Option.map_eq_some_iff] at hc; obtain ⟨y', h1, rfl⟩ := hc
      simp only [evOp] at he
      split at he
      · rename_i s hx; cases he
        exact ok_srange (isStrT_spec hu) hR (by rw [← hx]; exact opd_rel h1 hF)
      · cases he
    · cases hc
  | next y isS =>
    cases isS with
    | false => simp [compOp] at hc
    | true =>
      simp only [compOp, Option.map_eq_some_iff] at hc; obtain ⟨y', h1, rfl⟩ := hc
      simp only [evOp] at he
      split at he
      · rename_i p hx
        split at he
        · rename_i s pos hs
          have ry := opd_rel (a := a) h1 hF
          rw [hx] at ry
          split at he
          · rename_i hp; cases he; exact (ok_snext hR ry hs).1 hp
          · rename_i hp; cases he; exact (ok_snext hR ry hs).2 hp
        · cases he
      · cases he
  | call cl =>
    obtain ⟨callee, args, argTypes⟩ := cl
    cases callee with
    | builtin b =>
      cases b with
      | len =>
        simp only [compOp] at hc
        split at hc
        · rename_i t y ht hy
          have ey := getElem_map_some (a := a) hy
          have ex : execOp a.eval ⟨dst, .call ⟨.builtin .len, args, argTypes⟩, type, pos, after, guard⟩ = (do pure (Next.value (← Builtin.len_ argTypes type (args.map a.eval)))) := rfl
          rw [ex]
          split at hc
          · rename_i n e hu; cases hc
            simp only [evOp, Option.some.injEq, Prod.mk.injEq] at he; obtain ⟨rfl, rfl⟩ := he
            exact OpOK.same (y := goInt n) (by simp [Builtin.len_, ht, hy, run_underlying_of hu]) hR (by simp [VRel, Opd.ev, goInt])
          · rename_i hu
            rw [Option.map_eq_some_iff] at hc; obtain ⟨y', h1, rfl⟩ := hc
            have ry := opd_rel (a := a) h1 hF
            simp only [evOp] at he
            split at he
            · rename_i s hx; cases he; exact run_len_str ht ey hu hR (by rw [← hx]; exact ry)
            · cases he
          · rename_i e hu
            rw [Option.map_eq_some_iff] at hc; obtain ⟨y', h1, rfl⟩ := hc
            have ry := opd_rel (a := a) h1 hF
            simp only [evOp] at he
            split at he
            · rename_i o c n hx; cases he; exact run_len_sl ht ey hu hR (by rw [← hx]; exact ry) (.inl ⟨o, c, rfl⟩)
            · rename_i p o n c hx; cases he; exact run_len_sl ht ey hu hR (by rw [← hx]; exact ry) (.inr (.inl ⟨p, o, c, rfl⟩))
            · rename_i p n hx; cases he; exact run_len_sl ht ey hu hR (by rw [← hx]; exact ry) (.inr (.inr ⟨p, rfl⟩))
            · cases he
          · rename_i k e hu
            rw [Option.map_eq_some_iff] at hc; obtain ⟨y', h1, rfl⟩ := hc
            have ry := opd_rel (a := a) h1 hF
            simp only [evOp] at he
            split at he
            · rename_i aa es clock hm; cases he; exact run_len_mp ht ey hu hR ry hm
            · cases he
          · cases hc
        · cases hc
      | append =>
        simp only [compOp] at hc
        split at hc
        · rename_i t t' y z ht ht' hy hz
          have ey := getElem_map_some (a := a) hy
          have ez := getElem_map_some (a := a) hz
          have ex : execOp a.eval ⟨dst, .call ⟨.builtin .append, args, argTypes⟩, type, pos, after, guard⟩ = (do pure (Next.value (← Builtin.append_ argTypes type (args.map a.eval)))) := rfl
          rw [ex]
          split at hc
          · rename_i e e' hu hu'
            split at hc
            · rename_i i zz y' z' hi hzz hy' hz'
              split at hc
              · rename_i hp; cases hc
                exact ok_append ht ht' ey ez hu hu' (by intro k e; cases e) hi hzz hp hR (opd_rel hy' hF) (opd_rel hz' hF) _ y' z' rfl rfl he
              · cases hc
            · cases hc
          · rename_i e hu hu'
            split at hc
            · rename_i i zz y' z' hi hzz hy' hz'
              split at hc
              · rename_i hp; cases hc
                exact ok_append ht ht' ey ez hu hu' (by intro k e; cases e) hi hzz hp hR (opd_rel hy' hF) (opd_rel hz' hF) _ y' z' rfl rfl he
              · cases hc
            · cases hc
          · cases hc
        · cases hc
      | copy =>
        simp only [compOp] at hc
        split at hc
        · rename_i t y z ht hy hz
          have ey := getElem_map_some (a := a) hy
          have ez := getElem_map_some (a := a) hz
          have ex : execOp a.eval ⟨dst, .call ⟨.builtin .copy, args, argTypes⟩, type, pos, after, guard⟩ = (do pure (Next.value (← Builtin.copy_ argTypes type (args.map a.eval)))) := rfl
          rw [ex]
          split at hc
          · rename_i e hu
            split at hc
            · rename_i s y' z' hs hy' hz'; cases hc
              simp only [evOp] at he
              split at he
              · rename_i ys k p off len cap hsrc hx
                split at he
                · rename_i cs hcs
                  split at he
                  · rename_i hb; cases he
                    exact ok_copy ht ey ez hu hs hR (by rw [← hx]; exact opd_rel hy' hF) (opd_rel hz' hF) hsrc hcs hb
                  · cases he
                · cases he
              · cases he
            · cases hc
          · cases hc
        · cases hc
      | max =>
        simp only [compOp, Option.map_eq_some_iff] at hc; obtain ⟨xs, h1, rfl⟩ := hc
        simp only [evOp] at he
        split at he
        · rename_i vs hv
          split at he
          · rename_i r hr; cases he
            exact ok_mnmx (ty := type) (argTypes := argTypes) (mx := true) hR (opds_rel hF h1) hv hr
          · cases he
        · cases he
      | min =>
        simp only [compOp, Option.map_eq_some_iff] at hc; obtain ⟨xs, h1, rfl⟩ := hc
        simp only [evOp] at he
        split at he
        · rename_i vs hv
          split at he
          · rename_i r hr; cases he
            exact ok_mnmx (ty := type) (argTypes := argTypes) (mx := false) hR (opds_rel hF h1) hv hr
          · cases he
        · cases he
      | _ => simp [compOp] at hc
    | value f =>
      have : (∃ f' as, c = .call f' as) ∨ (∃ f' as, c = .callv f' as) := by
        cases f with
        | func f' => simp only [compOp, Option.map_eq_some_iff] at hc; obtain ⟨as, _, rfl⟩ := hc; exact .inl ⟨_, _, rfl⟩
        | _ =>
          simp only [compOp] at hc
          split at hc
          · cases hc; exact .inr ⟨_, _, rfl⟩
          · cases hc
      rcases this with ⟨f', as, rfl⟩ | ⟨f', as, rfl⟩ <;> simp [evOp] at he
    | invoke => simp [compOp] at hc
  | _ => simp [compOp] at hc

end Go.EF
end

section
namespace Go.EF
open Go Go.RowKit

def Jmp.toExit : Jmp → Exit
  | .normal => .normal
  | .ret => .ret
  | .exit id => .exit id

def wideAt (ro : Option Nat) : Fence := { Fence.wide with round := ro }

/-- The marks of range-over-function loops among an activation's deferred calls: each block still open, none of them the caller's. -/
def DfrOK (G : Gh) (D : List Nat) (ds : List Deferred) : Prop :=
  ∃ rs : List Nat, rs.Nodup ∧ (∀ r ∈ rs, r ∈ G.dfr ∧ r ∉ D) ∧ ds = rs.map fun r => { target := .collected r, args := #[] }

/-- Called with these, function f hands back r and leaves st', whatever the world. -/
def CallSound (P : Program) (f : Nat) (args : List AV) (st : St) (r : AV) (st' : St) : Prop :=
  (∀ vargs w, (callFunc f vargs).run P w = .ok (.enter f vargs) w) ∧
  ∀ (G : Gh) (w : World) (vargs : Array Value) (n : Nat), Rel P G st w → VRels G args vargs.toList →
    CallsIn Fence.wide n P f vargs w fun e w' => ∃ v G', e = .returned v ∧ G.le G' ∧ G'.dfr = G.dfr ∧ Rel P G' st' w' ∧ VRel G' r v

def WF (P : Program) (f : Nat) (args : List AV) (st : St) (K : AV → St → Prop) : Prop := ∃ r st', K r st' ∧ CallSound P f args st r st'

def YieldSound (P : Program) (l : Nat) (args : List AV) (st : St) (r : AV) (st' : St) : Prop :=
  ∀ (G : Gh) (w : World) (vargs : Array Value) (n b : Nat), Rel P G st w → VRels G args vargs.toList → G.mu l = some b →
    ∃ f tmps asg body, (Instr.yield b vargs).run P w = .ok (.round b f tmps asg body) w ∧
      RoundIn Fence.wide n P b f tmps asg body w fun e w' => ∃ v G', e = .returned v ∧ G.le G' ∧ G'.dfr = G.dfr ∧ Rel P G' st' w' ∧ VRel G' r v

def WY (P : Program) (l : Nat) (args : List AV) (st : St) (K : AV → St → Prop) : Prop := ∃ r st', K r st' ∧ YieldSound P l args st r st'

/-- A function value is called. -/
def WV (P : Program) (x : AV) (args : List AV) (st : St) (K : AV → St → Prop) : Prop :=
  match x with
  | .fn f first cap => WF P f (first ++ args ++ cap) st K
  | .yld l => WY P l args st K
  | _ => False

def wop (P : Program) (c : COp) (fr : Nat → AV) (st : St) (K : AV → St → Prop) : Prop :=
  match c with
  | .call f args => WF P f (args.map (·.ev fr)) st K
  | .callv f args => WV P (f.ev fr) (args.map (·.ev fr)) st K
  | c => match evOp P (·.ev fr) st c with
    | some (x, st') => K x st'
    | none => False

def wops (P : Program) : List GOp → (Nat → AV) → St → ((Nat → AV) → St → Prop) → Prop
  | [], fr, st, K => K fr st
  | g :: r, fr, st, K =>
    match g.guard with
    | none => wop P g.op fr st fun x st' => wops P r (updo fr g.dst x) st' K
    | some (d, want) => match fr d with
      | .v (.bool b) => if b = want then wop P g.op fr st fun x st' => wops P r (updo fr g.dst x) st' K else wops P r (updo fr g.dst (.tup [])) st K
      | .tup [] => wops P r (updo fr g.dst (.tup [])) st K
      | _ => False

/-- A frame of which only some slots are known. -/
def mask (rs : List Nat) (fr : Nat → AV) : Nat → AV := fun i => if rs.contains i then fr i else .junk

/-! ### an operation looks at its slots alone -/
theorem mask_ev {fr : Nat → AV} {s : List Nat} {o : Opd} (h : ∀ x ∈ o.slots, x ∈ s) : o.ev (mask s fr) = o.ev fr := by
  cases o with
  | const x => rfl
  | tmp t =>
    have : t ∈ s := h t (by simp [Opd.slots])
    simp [Opd.ev, mask, this]

theorem fillA_congr {ρ ρ' : Opd → AV} : ∀ (ps : List (Nat × Nat × Opd)) (cs : List AV), (∀ p ∈ ps, ρ p.2.2 = ρ' p.2.2) → fillA ρ cs ps = fillA ρ' cs ps
  | [], cs, h => rfl
  | (off, sz, o) :: r, cs, h => by
    have h1 := h _ (List.mem_cons_self ..)
    simp only at h1
    simp only [fillA, h1]
    rw [fillA_congr r _ fun p hp => h p (List.mem_cons_of_mem _ hp)]

theorem boundsOf_congr {ρ ρ' : Opd → AV} {n cap : Nat} {lo hi mx : Option Opd} (h1 : ∀ o, lo = some o → ρ o = ρ' o) (h2 : ∀ o, hi = some o → ρ o = ρ' o) (h3 : ∀ o, mx = some o → ρ o = ρ' o) : boundsOf ρ n cap lo hi mx = boundsOf ρ' n cap lo hi mx := by
  cases lo with
  | none => cases hi with
    | none => cases mx with
      | none => rfl
      | some o => have := h3 o rfl; (unfold boundsOf; simp only [this])
    | some o2 => have e2 := h2 o2 rfl; cases mx with
      | none => (unfold boundsOf; simp only [e2])
      | some o => have := h3 o rfl; (unfold boundsOf; simp only [this, e2])
  | some o1 => have e1 := h1 o1 rfl; cases hi with
    | none => cases mx with
      | none => (unfold boundsOf; simp only [e1])
      | some o => have := h3 o rfl; (unfold boundsOf; simp only [this, e1])
    | some o2 => have e2 := h2 o2 rfl; cases mx with
      | none => (unfold boundsOf; simp only [e2, e1])
      | some o => have := h3 o rfl; (unfold boundsOf; simp only [this, e2, e1])

theorem wop_mask {P : Program} {c : COp} {fr : Nat → AV} {st : St} : (evOp P (·.ev (mask c.slots fr)) st c = evOp P (·.ev fr) st c) ∧ ∀ K, wop P c (mask c.slots fr) st K = wop P c fr st K := by
  have one : ∀ {o : Opd}, (∀ x ∈ o.slots, x ∈ c.slots) → o.ev (mask c.slots fr) = o.ev fr := fun h => mask_ev h
  have many : ∀ {l : List Opd}, (∀ x ∈ l.flatMap Opd.slots, x ∈ c.slots) → l.map (·.ev (mask c.slots fr)) = l.map (·.ev fr) := fun {l} h =>
    List.map_congr_left fun o ho => mask_ev fun x hx => h x (List.mem_flatMap.2 ⟨o, ho, hx⟩)
  have fil : ∀ {ps : List (Nat × Nat × Opd)} (cs : List AV), (∀ x ∈ ps.flatMap (fun p => p.2.2.slots), x ∈ c.slots) → fillA (·.ev (mask c.slots fr)) cs ps = fillA (·.ev fr) cs ps := fun {ps} cs h =>
    fillA_congr ps cs fun p hp => mask_ev fun x hx => h x (List.mem_flatMap.2 ⟨p, hp, hx⟩)
  have opt : ∀ {o : Option Opd}, (∀ x ∈ oslots o, x ∈ c.slots) → ∀ p, o = some p → p.ev (mask c.slots fr) = p.ev fr := fun {o} h p e => mask_ev fun x hx => h x (by subst e; exact hx)
  have ev : evOp P (·.ev (mask c.slots fr)) st c = evOp P (·.ev fr) st c := by
    generalize hs : c.slots = s at one many fil opt ⊢
    cases c with
    | mov x | srange x | snext x | box x | nilchk x | un op x | conv k x | faddr o x | field g o s x | extract x i | load g s a =>
      simp only [COp.slots] at hs; subst hs
      simp only [evOp, one (o := _) (fun _ h => h)]
    | len k x =>
      simp only [COp.slots] at hs; subst hs
      cases k <;> simp only [evOp, one (o := x) (fun _ h => h)]
    | pick c a b | mapset kt a b c | entrystore a b c =>
      simp only [COp.slots] at hs; subst hs
      simp only [evOp]
      rw [one (fun x h => by simp [h]), one (fun x h => by simp [h]), one (fun x h => by simp [h])]
    | alloc | mkmap => rfl
    | build z ps | lit z n ps =>
      simp only [COp.slots] at hs; subst hs
      simp only [evOp]; rw [fil z (fun _ h => h)]
    | store s a x | bin op t a x | iaddr s a x | iaddrarr n s a x | index g n s a x | indexstr a x | lookup kt z ok a x | mapentry kt z a x | append s b z a x | copy s a x | mkslice z s b a x =>
      simp only [COp.slots] at hs; subst hs
      simp only [evOp]
      rw [one (o := a) (fun y h => by simp [h]), one (o := x) (fun y h => by simp [h])]
    | mkfn f a b =>
      simp only [COp.slots] at hs; subst hs
      simp only [evOp]
      rw [many (l := a) (fun y h => by simp only [List.mem_append]; exact .inl h), many (l := b) (fun y h => by simp only [List.mem_append]; exact .inr h)]
    | slicearr n s x lo hi | slicestr x lo hi =>
      simp only [COp.slots] at hs; subst hs
      simp only [evOp]
      rw [one (o := x) (fun y h => by simp [h])]
      simp only [boundsOf_congr (ρ := fun o => o.ev (mask _ fr)) (ρ' := fun o => o.ev fr) (lo := lo) (hi := hi) (mx := none) (opt (fun y h => by simp [h])) (opt (fun y h => by simp [h])) (by simp)]
    | slice s x lo hi mx =>
      simp only [COp.slots] at hs; subst hs
      simp only [evOp]
      rw [one (o := x) (fun y h => by simp [h])]
      simp only [boundsOf_congr (ρ := fun o => o.ev (mask _ fr)) (ρ' := fun o => o.ev fr) (lo := lo) (hi := hi) (mx := mx) (opt (fun y h => by simp [h])) (opt (fun y h => by simp [h])) (opt (fun y h => by simp [h]))]
    | mnmx m xs =>
      simp only [COp.slots] at hs; subst hs
      simp only [evOp]; rw [many (fun _ h => h)]
    | call f xs => rfl
    | callv f xs => rfl
  refine ⟨ev, fun K => ?_⟩
  cases c with
  | call f xs => simp only [wop]; rw [many (l := xs) (fun _ h => h)]
  | callv f xs => simp only [wop]; rw [one (o := f) (fun y h => by simp [COp.slots, h]), many (l := xs) (fun y h => by simp only [COp.slots, List.mem_append]; exact .inr h)]
  | _ => simp only [wop, ev]

/-- The allocations of a region: their places in it, the objects that stand for them, their zeros. -/
def allocsOf : Nat → Nat → List GOp → List (Nat × Nat × List AV)
  | _, _, [] => []
  | base, i, g :: r => match g.op with
    | .alloc z => (i, base, z) :: allocsOf (base + 1) (i + 1) r
    | _ => allocsOf base (i + 1) r

def preSt (st : St) : List (Nat × Nat × List AV) → St
  | [] => st
  | x :: r => preSt (st.alloc (.cells x.2.2)) r

def effOK (bs : List Nat) (als : List (Nat × Nat × List AV)) (pend : List (Nat × (St → Option (AV × St)) × AV)) (st' : St) : Prop :=
  (∀ p ∈ pend, bs.contains p.1 = false → p.2.1 st' = some (p.2.2, st')) ∧ ∀ a ∈ als, bs.contains a.1 = false → st'.get a.2.1 = some (.cells a.2.2)

/-- A region whose operations may come in another order: written as they stand, the allocations first; what is read must be so before and after each effect that may come on its other side. -/
def wdraw (P : Program) (bss : List (List Nat)) (als : List (Nat × Nat × List AV)) : Nat → List GOp → (Nat → AV) → St → List (Nat × St) → List (Nat × (St → Option (AV × St)) × AV) → ((Nat → AV) → St → Prop) → Prop
  | _, [], fr, st, _, _, K => K fr st
  | i, g :: r, fr, st, hist, pend, K =>
    match g.op.kd with
    | .alloc => match als.find? (·.1 == i) with
      | some x => wdraw P bss als (i + 1) r (updo fr g.dst (.ptr x.2.1 0)) st hist pend K
      | none => False
    | .pure =>
      (match g.guard with
      | none => wop P g.op fr st fun x _ => wdraw P bss als (i + 1) r (updo fr g.dst x) st hist pend K
      | some (d, want) => match fr d with
        | .v (.bool b) => if b = want then wop P g.op fr st fun x _ => wdraw P bss als (i + 1) r (updo fr g.dst x) st hist pend K
          else wdraw P bss als (i + 1) r (updo fr g.dst (.tup [])) st hist pend K
        | .tup [] => wdraw P bss als (i + 1) r (updo fr g.dst (.tup [])) st hist pend K
        | _ => False)
    | .read =>
      (match g.guard with
      | none => wop P g.op fr st fun x _ => (∀ h ∈ hist, (bss.getD i []).contains h.1 = false → evOp P (·.ev fr) h.2 g.op = some (x, h.2)) ∧
          wdraw P bss als (i + 1) r (updo fr g.dst x) st hist ((i, fun s => evOp P (·.ev fr) s g.op, x) :: pend) K
      | some (d, want) => match fr d with
        | .v (.bool b) => if b = want then wop P g.op fr st fun x _ => (∀ h ∈ hist, (bss.getD i []).contains h.1 = false → evOp P (·.ev fr) h.2 g.op = some (x, h.2)) ∧
            wdraw P bss als (i + 1) r (updo fr g.dst x) st hist ((i, fun s => evOp P (·.ev fr) s g.op, x) :: pend) K
          else wdraw P bss als (i + 1) r (updo fr g.dst (.tup [])) st hist pend K
        | .tup [] => wdraw P bss als (i + 1) r (updo fr g.dst (.tup [])) st hist pend K
        | _ => False)
    | .eff =>
      (match g.guard with
      | none => wop P g.op fr st fun x st' => effOK (bss.getD i []) als pend st' ∧ wdraw P bss als (i + 1) r (updo fr g.dst x) st' ((i, st) :: hist) pend K
      | some (d, want) => match fr d with
        | .v (.bool b) => if b = want then wop P g.op fr st fun x st' => effOK (bss.getD i []) als pend st' ∧ wdraw P bss als (i + 1) r (updo fr g.dst x) st' ((i, st) :: hist) pend K
          else effOK (bss.getD i []) als pend st ∧ wdraw P bss als (i + 1) r (updo fr g.dst (.tup [])) st ((i, st) :: hist) pend K
        | .tup [] => effOK (bss.getD i []) als pend st ∧ wdraw P bss als (i + 1) r (updo fr g.dst (.tup [])) st ((i, st) :: hist) pend K
        | _ => False)

def wc (P : Program) (N : Nat) : CC → (Nat → AV) → St → (Jmp → (Nat → AV) → St → Prop) → Prop
  | .skip, fr, st, Q => Q .normal fr st
  | .ops l, fr, st, Q => wops P l fr st (Q .normal)
  | .draw l bs, fr, st, Q => wdraw P bs (allocsOf st.next 0 l) 0 l fr (preSt st (allocsOf st.next 0 l)) [] [] (Q .normal)
  | .seq a b, fr, st, Q => wc P N a fr st fun x fr' st' => if x = .normal then wc P N b fr' st' Q else Q x fr' st'
  | .cond c a b, fr, st, Q => match c.ev fr with
    | .v (.bool true) => wc P N a fr st Q
    | .v (.bool false) => wc P N b fr st Q
    | _ => False
  | .block id c, fr, st, Q => wc P N c fr st fun x fr' st' => if x = .exit id then Q .normal fr' st' else Q x fr' st'
  | .loop c, fr, st, Q => ∀ R : (Nat → AV) → St → Prop, (∀ fr st, (wc P N c fr st fun x fr' st' => if x = .normal then R fr' st' else Q x fr' st') → R fr st) → R fr st
  | .rangef f ps asg body, fr, st, Q => match f.ev fr with
    | .fn g first cap =>
      WF P g (first ++ [.yld st.next] ++ cap) (st.alloc (.loop .ready none fr N ps asg body)) fun _ st2 => ∃ s pend fr1 N1 ps1 a1 b1, st2.get st.next = some (.loop s pend fr1 N1 ps1 a1 b1) ∧ s ≠ .busy ∧
        Q (pend.getD .normal) fr (st2.set st.next (.loop .exhausted pend fr1 N1 ps1 a1 b1))
    | _ => False
  | .exit id, fr, st, Q => Q (.exit id) fr st
  | .ret, fr, st, Q => Q .ret fr st

/-! ### soundness -/
def Post (P : Program) (N : Nat) (G : Gh) (D : List Nat) (x : Jmp) (fr : Nat → AV) (st : St) : Exit → Act → World → Prop :=
  fun e a w => e = x.toExit ∧ ∃ G', G.le G' ∧ Rel P G' st w ∧ FrRel G' N fr a.tmps ∧ DfrOK G' D a.defers

def Ready (P : Program) (N : Nat) (ro : Option Nat) (G : Gh) (D : List Nat) (fr : Nat → AV) (st : St) (a : Act) (w : World) : Prop :=
  (∀ b, ro = some b → b ∈ G.lps) ∧ Rel P G st w ∧ FrRel G N fr a.tmps ∧ (∀ r ∈ D, r ∈ G.dfr) ∧ DfrOK G D a.defers

def WCs (P : Program) (N : Nat) (c : Code) (fr : Nat → AV) (st : St) (Q : Jmp → (Nat → AV) → St → Prop) : Prop :=
  ∃ x fr' st', Q x fr' st' ∧ ∀ ro G D a w n, Ready P N ro G D fr st a w → c.wpIn (wideAt ro) n P (Post P N G D x fr' st') a w

theorem FrRel.mono {G G' : Gh} {N : Nat} {fr : Nat → AV} {t : Array Value} (h : FrRel G N fr t) (k : G.le G') : FrRel G' N fr t := ⟨h.1, fun i => (h.2 i).mono k⟩

theorem DfrOK.mono {G G' : Gh} {D : List Nat} {ds : List Deferred} (h : DfrOK G D ds) (k : G.le G') : DfrOK G' D ds :=
  let ⟨rs, h1, h2, h3⟩ := h; ⟨rs, h1, fun r hr => ⟨k.dfr _ (h2 r hr).1, (h2 r hr).2⟩, h3⟩

theorem Ready.next {P : Program} {N : Nat} {ro : Option Nat} {G G' : Gh} {D : List Nat} {fr fr' : Nat → AV} {st st' : St} {a a' : Act} {w w' : World} (h : Ready P N ro G D fr st a w) (k : G.le G') (hR : Rel P G' st' w') (hF : FrRel G' N fr' a'.tmps) (hD : DfrOK G' D a'.defers) :
    Ready P N ro G' D fr' st' a' w' := ⟨fun b e => k.lps _ (h.1 b e), hR, hF, fun r hr => k.dfr _ (h.2.2.2.1 r hr), hD⟩

theorem FrRel.put {G : Gh} {N : Nat} {fr : Nat → AV} {a : Act} {d : Option Nat} {x : AV} {y : Value} (h : FrRel G N fr a.tmps) (hd : dstOK N d = true) (hv : VRel G x y) : FrRel G N (updo fr d x) (a.put d y).tmps := by
  cases d with
  | none => exact h
  | some d =>
    have hd' : d < N := by simpa [dstOK] using hd
    refine ⟨by simp [Act.put, h.1], fun i => ?_⟩
    simp only [updo, upd, Act.put]
    by_cases hi : i = d
    · subst hi
      have h1 : i < a.tmps.size := by rw [h.1]; exact hd'
      rw [if_pos rfl]; simp [Array.getD, h1, hv]
    · rw [if_neg hi]
      have h2 : (a.tmps.setIfInBounds d y).getD i undef = a.tmps.getD i undef := by
        simp only [Array.getD_eq_getD_getElem?]
        rw [Array.getElem?_setIfInBounds_ne (Ne.symm hi)]
      rw [h2]; exact h.2 i

theorem put_defers (a : Act) (d : Option Nat) (y : Value) : (a.put d y).defers = a.defers := by cases d <;> rfl

theorem callsIn_at {ro : Option Nat} {n : Nat} {P : Program} {f : FuncId} {args : Array Value} {w : World} {R : Ending → World → Prop} : CallsIn (wideAt ro) n P f args w R ↔ CallsIn Fence.wide n P f args w R := Iff.rfl
theorem roundIn_at {ro : Option Nat} {n : Nat} {P : Program} {l : Nat} {f : FuncId} {t : Array Value} {x y : Code} {w : World} {R : Ending → World → Prop} : RoundIn (wideAt ro) n P l f t x y w R ↔ RoundIn Fence.wide n P l f t x y w R := Iff.rfl

/-- An operation that runs, whatever comes before and after. -/
def OpSound (P : Program) (N : Nat) (o : Oper) (fr : Nat → AV) (st : St) (x : AV) (st' : St) : Prop :=
  ∀ (ro : Option Nat) (G : Gh) (a : Act) (w : World) (n : Nat) (next : Act → World → Prop) (Q : Exit → Act → World → Prop), Rel P G st w → FrRel G N fr a.tmps →
    (∀ y w' G', G.le G' → Rel P G' st' w' → VRel G' x y → next (a.put o.dst y) w') → o.wpIn (wideAt ro) n P a w next Q

/-- One operation that runs. -/
theorem wop_sound1 {P : Program} {N : Nat} {ops : Array Oper} {o : Oper} {g : GOp} {fr : Nat → AV} {st : St} {K : AV → St → Prop} (hc : compOper P N ops o = some g) (h : wop P g.op fr st K) :
    ∃ x st', K x st' ∧ OpSound P N o fr st x st' := by
  -- what compOper has found
  obtain ⟨hd, hco, hdst⟩ : dstOK N o.dst = true ∧ compOp P o = some g.op ∧ g.dst = o.dst := by
    unfold compOper at hc
    split at hc
    · rename_i hd
      split at hc
      · rename_i c hco
        refine ⟨hd, ?_⟩
        split at hc
        · cases hc; exact ⟨hco, rfl⟩
        · split at hc
          · cases hc; exact ⟨hco, rfl⟩
          · cases hc
      · cases hc
    · cases hc
  have hnd : ∀ c, o.op ≠ .defer c := fun c e => by
    obtain ⟨dst, op, type, pos, after, guard⟩ := o
    simp only at e; subst e
    simp [compOp] at hco
  have hab : ∀ (ro : Option Nat) (a : Act) (w : World) (f : FuncId), o.about P w a.eval = some f → (wideAt ro).fn f := fun _ _ _ _ _ => trivial
  by_cases hcall : (∃ f args, g.op = .call f args) ∨ ∃ f args, g.op = .callv f args
  · -- a call
    have main : ∀ (y : AV) (args : List AV) (fv : Operand) (as : Array Operand) (ats : Array TypeId), o.op = .call ⟨.value fv, as, ats⟩ → WV P y args st K →
        (∀ (G : Gh) (a : Act), FrRel G N fr a.tmps → VRel G y (a.eval fv)) → (∀ (G : Gh) (a : Act), FrRel G N fr a.tmps → VRels G args (as.map a.eval).toList) →
        ∃ x st', K x st' ∧ OpSound P N o fr st x st' := by
      intro y args fv as ats hop hw hy has
      have hexec : ∀ (a : Act) (w : World), (execOp a.eval o).run P w = ((Deferred.ofValue (a.eval fv) (as.map a.eval)).run P w).andThen fun d w => (invoke d.target d.args).run P w := fun a w => by
        simp only [execOp, hop, resolve, Sem.run_bind]
      cases y with
      | fn f first cap =>
        obtain ⟨r, st', hK, hcf, hs⟩ := hw
        refine ⟨r, st', hK, fun ro G a w n next Q hR hF hnext => ?_⟩
        refine ⟨hab ro a w, ?_⟩
        rw [Oper.semAt_eq _ _ _ hnd, hexec]
        have ry := hy G a hF
        have ra := has G a hF
        simp only [VRel] at ry; obtain ⟨fa, ca, e1, r1, r2⟩ := ry
        simp only [e1, Deferred.ofValue, Sem.run_pure, Result.andThen_ok, invoke, hcf]
        refine ⟨fun hdep => by simp [wideAt, Fence.wide] at hdep, ?_⟩
        rw [callsIn_at]
        refine (hs G w (fa ++ as.map a.eval ++ ca) (n - 1) hR (by simpa using ((r1.append ra).append r2))).mono ?_
        rintro e w' ⟨v, G', rfl, k1, k2, k3, k4⟩
        exact hnext _ _ G' k1 k3 k4
      | yld l =>
        obtain ⟨r, st', hK, hs⟩ := hw
        refine ⟨r, st', hK, fun ro G a w n next Q hR hF hnext => ?_⟩
        refine ⟨hab ro a w, ?_⟩
        rw [Oper.semAt_eq _ _ _ hnd, hexec]
        have ry := hy G a hF
        have ra := has G a hF
        simp only [VRel] at ry; obtain ⟨b, hmu, e1⟩ := ry
        obtain ⟨f, tmps, asg, body, hy1, hy2⟩ := hs G w (as.map a.eval) (n - 1) b hR ra hmu
        simp only [e1, Deferred.ofValue, Sem.run_pure, Result.andThen_ok, invoke, Array.empty_append, hy1]
        refine ⟨fun hdep => by simp [wideAt, Fence.wide] at hdep, ?_⟩
        rw [roundIn_at]
        refine hy2.mono ?_
        rintro e w' ⟨v, G', rfl, k1, k2, k3, k4⟩
        exact hnext _ _ G' k1 k3 k4
      | _ => exact hw.elim
    -- which call it is
    obtain ⟨dst, op, type, pos, after, guard⟩ := o
    rcases hcall with ⟨f, args, hg⟩ | ⟨f, args, hg⟩
    · rw [hg] at hco h
      simp only [wop] at h
      cases op with
      | call cl =>
        obtain ⟨callee, as, ats⟩ := cl
        cases callee with
        | value fv =>
          cases fv with
          | func f' =>
            simp only [compOp, Option.map_eq_some_iff] at hco; obtain ⟨args', h1, h2⟩ := hco; cases h2
            refine main (.fn f [] []) (args.map (·.ev fr)) (.func f) as ats rfl ?_ ?_ ?_
            · simpa [WV] using h
            · intro G a _; simp [VRel, VRels, Act.eval]
            · intro G a hF; exact opds_rel hF h1
          | _ =>
            simp only [compOp] at hco
            split at hco
            · cases hco
            · cases hco
        | builtin b => exact absurd hco (by cases b <;> simp only [compOp] <;> (repeat' split) <;> simp)
        | invoke => simp [compOp] at hco
      | makeFunc fn _ _ => exact absurd hco (by cases fn <;> simp only [compOp] <;> (repeat' split) <;> simp)
      | makeMap _ r => exact absurd hco (by cases r <;> simp only [compOp] <;> (repeat' split) <;> simp)
      | next y isS => exact absurd hco (by cases isS <;> simp [compOp])
      | _ => exact absurd hco (by simp only [compOp] <;> (repeat' split) <;> simp)
    · rw [hg] at hco h
      simp only [wop] at h
      cases op with
      | call cl =>
        obtain ⟨callee, as, ats⟩ := cl
        cases callee with
        | value fv =>
          cases fv with
          | func f' => simp only [compOp, Option.map_eq_some_iff] at hco; obtain ⟨args', h1, h2⟩ := hco; cases h2
          | _ =>
            simp only [compOp] at hco
            split at hco
            · rename_i y' as' h1 h2; cases hco
              exact main _ _ _ as ats rfl h (fun G a hF => opd_rel h1 hF) (fun G a hF => opds_rel hF h2)
            · cases hco
        | builtin b => exact absurd hco (by cases b <;> simp only [compOp] <;> (repeat' split) <;> simp)
        | invoke => simp [compOp] at hco
      | makeFunc fn _ _ => exact absurd hco (by cases fn <;> simp only [compOp] <;> (repeat' split) <;> simp)
      | makeMap _ r => exact absurd hco (by cases r <;> simp only [compOp] <;> (repeat' split) <;> simp)
      | next y isS => exact absurd hco (by cases isS <;> simp [compOp])
      | _ => exact absurd hco (by simp only [compOp] <;> (repeat' split) <;> simp)
  · -- no call
    have h' : ∃ x st', evOp P (·.ev fr) st g.op = some (x, st') ∧ K x st' := by
      unfold wop at h
      split at h
      · exact absurd (.inl ⟨_, _, ‹_›⟩) hcall
      · exact absurd (.inr ⟨_, _, ‹_›⟩) hcall
      · split at h
        · exact ⟨_, _, ‹_›, h⟩
        · exact h.elim
    obtain ⟨x, st', he, hK⟩ := h'
    refine ⟨x, st', hK, fun ro G a w n next Q hR hF hnext => ?_⟩
    refine ⟨hab ro a w, ?_⟩
    rw [Oper.semAt_eq _ _ _ hnd]
    obtain ⟨nx, y, w', G', h1, h2, h3, h4, h5⟩ := op_sound hco hF hR he
    rw [h1]
    have hfin : next (a.put o.dst y) w' := hnext _ _ G' h3 h4 h5
    rcases h2 with rfl | ⟨rfl, rfl⟩
    · exact hfin
    · exact hfin

theorem compOper_dst {P : Program} {N : Nat} {ops : Array Oper} {o : Oper} {g : GOp} (hc : compOper P N ops o = some g) : g.dst = o.dst ∧ dstOK N o.dst = true := by
  unfold compOper at hc
  split at hc
  · rename_i hd
    split at hc
    · split at hc
      · cases hc; exact ⟨rfl, hd⟩
      · split at hc
        · cases hc; exact ⟨rfl, hd⟩
        · cases hc
    · cases hc
  · cases hc

theorem compOper_op {P : Program} {N : Nat} {ops : Array Oper} {o : Oper} {g : GOp} (hc : compOper P N ops o = some g) : compOp P o = some g.op := by
  unfold compOper at hc
  split at hc
  · split at hc
    · rename_i c hco
      split at hc
      · cases hc; exact hco
      · split at hc
        · cases hc; exact hco
        · cases hc
    · cases hc
  · cases hc

theorem wop_sound {P : Program} {N : Nat} {ops : Array Oper} {o : Oper} {g : GOp} {fr : Nat → AV} {st : St} {K : AV → St → Prop} (hc : compOper P N ops o = some g) (h : wop P g.op fr st K) :
    ∃ x st', K x st' ∧ ∀ ro G D a w n (next : Act → World → Prop) (Q : Exit → Act → World → Prop), Ready P N ro G D fr st a w →
      (∀ a' w' G', G.le G' → Ready P N ro G' D (updo fr g.dst x) st' a' w' → next a' w') → o.wpIn (wideAt ro) n P a w next Q := by
  obtain ⟨x, st', hK, hs⟩ := wop_sound1 hc h
  obtain ⟨hd1, hd2⟩ := compOper_dst hc
  refine ⟨x, st', hK, fun ro G D a w n next Q hr hnext => hs ro G a w n next Q hr.2.1 hr.2.2.1 fun y w' G' k1 k3 k4 => ?_⟩
  rw [hd1] at hnext
  exact hnext _ _ G' k1 (hr.next k1 k3 ((hr.2.2.1.mono k1).put hd2 k4) (by rw [put_defers]; exact hr.2.2.2.2.mono k1))

end Go.EF
end

section
namespace Go.EF
open Go Go.RowKit

def Runs (g : GOp) (fr : Nat → AV) : Prop := match g.guard with | none => True | some (d, want) => fr d = .bool want
def Skips (g : GOp) (fr : Nat → AV) : Prop := match g.guard with | none => False | some (d, want) => fr d = .bool (!want) ∨ fr d = .tup []

def effAt (gs : List GOp) (j : Nat) : Prop := ∃ g, gs[j]? = some g ∧ g.op.kd = .eff

section
variable {P : Program} {N : Nat} {ops : Array Oper} {gs : List GOp} {bss : List (List Nat)} {als : List (Nat × Nat × List AV)}

theorem wop_ev {c : COp} {fr : Nat → AV} {st : St} {K : AV → St → Prop} (hk : c.kd ≠ .eff) (h : wop P c fr st K) : ∃ x s', evOp P (·.ev fr) st c = some (x, s') ∧ K x s' := by
  unfold wop at h
  split at h
  · simp [COp.kd] at hk
  · simp [COp.kd] at hk
  · split at h
    · exact ⟨_, _, ‹_›, h⟩
    · exact h.elim

theorem ev_wop {c : COp} {fr : Nat → AV} {st : St} {x : AV} {s' : St} (hk : c.kd ≠ .eff) (h : evOp P (·.ev fr) st c = some (x, s')) : wop P c fr st fun y s => y = x ∧ s = s' := by
  unfold wop
  split
  · simp [COp.kd] at hk
  · simp [COp.kd] at hk
  · rw [h]; exact ⟨rfl, rfl⟩

/-- What a pure operation makes does not hang on the state. -/
theorem evOp_pure {ρ : Opd → AV} {c : COp} {s s' : St} {x : AV} (hk : c.kd = .pure) (h : evOp P ρ s c = some (x, s')) : s' = s ∧ ∀ t, evOp P ρ t c = some (x, t) := by
  cases c with
  | len k y =>
    cases k with
    | mp => simp [COp.kd] at hk
    | str =>
      simp only [evOp] at h ⊢
      split at h
      · cases h; exact ⟨rfl, fun t => rfl⟩
      · cases h
    | sl =>
      simp only [evOp] at h ⊢
      split at h
      · cases h; exact ⟨rfl, fun t => rfl⟩
      · cases h; exact ⟨rfl, fun t => rfl⟩
      · cases h; exact ⟨rfl, fun t => rfl⟩
      · cases h
  | slice sz y lo hi mx =>
    simp only [evOp] at h ⊢
    split at h
    · rename_i own cs n e
      split at h
      · rename_i hc
        split at h
        · simp only [Option.some.injEq, Prod.mk.injEq] at h; obtain ⟨rfl, rfl⟩ := h; exact ⟨rfl, fun t => if_pos hc⟩
        · cases h
      · cases h
    · split at h
      · cases h; exact ⟨rfl, fun t => rfl⟩
      · cases h
    · cases h
  | srange | snext | alloc | load | lookup | box | store | mkmap | mkslice | mapset | mapentry | entrystore | append | copy | call | callv => simp [COp.kd] at hk
  | _ =>
    simp only [evOp] at h ⊢
    repeat' split at h
    all_goals first
      | (cases h; done)
      | (cases h; exact ⟨rfl, fun t => by simp_all⟩)

theorem evOp_read {ρ : Opd → AV} {c : COp} {s s' : St} {x : AV} (hk : c.kd = .read) (h : evOp P ρ s c = some (x, s')) : s' = s := by
  cases c with
  | len k y =>
    cases k with
    | mp =>
      simp only [evOp] at h
      split at h <;> cases h; rfl
    | str => simp [COp.kd] at hk
    | sl => simp [COp.kd] at hk
  | load => simp only [evOp] at h; split at h <;> cases h; rfl
  | lookup =>
    simp only [evOp] at h
    repeat' split at h
    all_goals first
      | (cases h; done)
      | (cases h; rfl)
  | _ => simp [COp.kd] at hk

/-- What the text's order does at each place. -/
def TStep (P : Program) (N : Nat) (ops : Array Oper) (gs : List GOp) (bss : List (List Nat)) (als : List (Nat × Nat × List AV)) (i : Nat) (hist : List (Nat × St)) (pend : List (Nat × (St → Option (AV × St)) × AV))
    (X : Nat → AV) (S : Nat → St) (F : Nat → Nat → AV) (k : Nat) (g : GOp) : Prop :=
  F (k + 1) = updo (F k) g.dst (X k) ∧
  match g.op.kd with
  | .alloc => S (k + 1) = S k ∧ ∃ x ∈ als, x.1 = k ∧ X k = .ptr x.2.1 0
  | .pure => S (k + 1) = S k ∧ ((Skips g (F k) ∧ X k = .tup []) ∨ (Runs g (F k) ∧ ∃ s', evOp P (·.ev (mask g.op.slots (F k))) (S k) g.op = some (X k, s')))
  | .read => S (k + 1) = S k ∧ ((Skips g (F k) ∧ X k = .tup []) ∨ (Runs g (F k) ∧ (∃ s', evOp P (·.ev (mask g.op.slots (F k))) (S k) g.op = some (X k, s')) ∧
      (∀ h ∈ hist, (bss.getD k []).contains h.1 = false → evOp P (·.ev (mask g.op.slots (F k))) h.2 g.op = some (X k, h.2)) ∧
      (∀ j, i ≤ j → j < k → effAt gs j → (bss.getD k []).contains j = false → evOp P (·.ev (mask g.op.slots (F k))) (S j) g.op = some (X k, S j)) ∧
      (∀ j, k < j → effAt gs j → (bss.getD j []).contains k = false → evOp P (·.ev (mask g.op.slots (F k))) (S (j + 1)) g.op = some (X k, S (j + 1)))))
  | .eff => ((Skips g (F k) ∧ X k = .tup [] ∧ S (k + 1) = S k) ∨ (Runs g (F k) ∧ ∃ o, ops[k]? = some o ∧ OpSound P N o (mask g.op.slots (F k)) (S k) (X k) (S (k + 1)))) ∧ effOK (bss.getD k []) als pend (S (k + 1))

/-- A function turned at one place. -/
def at0 {α : Type} (i : Nat) (x : α) (f : Nat → α) : Nat → α := fun j => if j = i then x else f j
theorem at0_same {α : Type} {i : Nat} {x : α} {f : Nat → α} : at0 i x f i = x := if_pos rfl
theorem at0_ne {α : Type} {i j : Nat} {x : α} {f : Nat → α} (h : j ≠ i) : at0 i x f j = f j := if_neg h

theorem wdraw_trace (hl : ∀ (k : Nat) (g : GOp), gs[k]? = some g → ∃ o, ops[k]? = some o ∧ compOper P N ops o = some g) {K : (Nat → AV) → St → Prop} : ∀ (l : List GOp) (i : Nat) (fr : Nat → AV) (st : St) (hist : List (Nat × St)) (pend : List (Nat × (St → Option (AV × St)) × AV)),
    (∀ k, gs[i + k]? = l[k]?) → wdraw P bss als i l fr st hist pend K →
    ∃ (X : Nat → AV) (S : Nat → St) (F : Nat → Nat → AV), F i = fr ∧ S i = st ∧ K (F (i + l.length)) (S (i + l.length)) ∧ ∀ (k : Nat) (g : GOp), i ≤ k → gs[k]? = some g → TStep P N ops gs bss als i hist pend X S F k g
  | [], i, fr, st, hist, pend, hg, h => ⟨fun _ => .junk, fun _ => st, fun _ => fr, rfl, rfl, h, fun k g hk e => by
      have := hg (k - i); rw [show i + (k - i) = k from by omega, e] at this; cases this⟩
  | g :: r, i, fr, st, hist, pend, hg, h => by
    have hgi : gs[i]? = some g := by simpa using hg 0
    have hgr : ∀ k, gs[i + 1 + k]? = r[k]? := fun k => by have := hg (k + 1); rw [show i + (k + 1) = i + 1 + k from by omega] at this; simpa using this
    -- how the rest's trace is taken over
    have take : ∀ (x : AV) (st' : St) (hist' : List (Nat × St)) (pend' : List (Nat × (St → Option (AV × St)) × AV)), wdraw P bss als (i + 1) r (updo fr g.dst x) st' hist' pend' K →
        (∀ h ∈ hist, h ∈ hist') → (∀ p ∈ pend, p ∈ pend') → (g.op.kd = .eff → (i, st) ∈ hist') →
        ((∀ j, i < j → effAt gs j → ∀ Y : Nat → St, (Y = fun k => k |> fun _ => st) → True) → True) →
        (∀ (X' : Nat → AV) (S' : Nat → St) (F' : Nat → Nat → AV), S' (i + 1) = st' → F' (i + 1) = updo fr g.dst x → (∀ (k : Nat) (g : GOp), i + 1 ≤ k → gs[k]? = some g → TStep P N ops gs bss als (i + 1) hist' pend' X' S' F' k g) →
          TStep P N ops gs bss als i hist pend (at0 i x X') (at0 i st S') (at0 i fr F') i g) →
        ∃ (X : Nat → AV) (S : Nat → St) (F : Nat → Nat → AV), F i = fr ∧ S i = st ∧ K (F (i + (g :: r).length)) (S (i + (g :: r).length)) ∧ ∀ (k : Nat) (g : GOp), i ≤ k → gs[k]? = some g → TStep P N ops gs bss als i hist pend X S F k g := by
      intro x st' hist' pend' hw hh hp he _ here
      obtain ⟨X', S', F', hF, hS, hK, hT⟩ := wdraw_trace hl r (i + 1) _ _ _ _ hgr hw
      refine ⟨at0 i x X', at0 i st S', at0 i fr F', at0_same, at0_same, ?_, fun k g' hk e => ?_⟩
      · rw [at0_ne (by simp), at0_ne (by simp), show i + (g :: r).length = i + 1 + r.length from by simp; omega]; exact hK
      · by_cases hki : k = i
        · subst hki; rw [hgi] at e; cases e; exact here X' S' F' hS hF hT
        · have t := hT k g' (by omega) e
          unfold TStep at t ⊢
          rw [at0_ne (show k + 1 ≠ i by omega), at0_ne hki, at0_ne hki, at0_ne (show k + 1 ≠ i by omega), at0_ne hki]
          refine ⟨t.1, ?_⟩
          have t := t.2
          split at t
          · exact t
          · exact t
          · obtain ⟨t1, t2⟩ := t
            refine ⟨t1, t2.imp id ?_⟩
            rintro ⟨u1, u2, u3, u4, u5⟩
            refine ⟨u1, u2, fun h hm => u3 h (hh h hm), fun j h1 h2 h3 h4 => ?_, fun j h1 h2 h3 => ?_⟩
            · by_cases hj : j = i
              · subst hj
                obtain ⟨g2, e2, e3⟩ := h3
                rw [hgi] at e2; cases e2
                rw [at0_same]; exact u3 _ (he e3) h4
              · rw [at0_ne hj]; exact u4 j (by omega) h2 h3 h4
            · rw [at0_ne (show j + 1 ≠ i by omega)]; exact u5 j h1 h2 h3
          · exact ⟨t.1, fun p hm => t.2.1 p (hp p hm), t.2.2⟩
    simp only [wdraw] at h
    cases hk : g.op.kd with
    | alloc =>
      rw [hk] at h
      simp only at h
      split at h
      · rename_i x hx
        refine take _ _ _ _ h (fun _ => id) (fun _ => id) (fun e => by rw [hk] at e; cases e) (fun _ => trivial) fun X' S' F' hS hF hT => ?_
        unfold TStep
        rw [at0_ne (by omega), at0_same, at0_same, at0_ne (by omega), at0_same, hk, hF, hS]
        refine ⟨rfl, rfl, x, List.mem_of_find?_eq_some hx, ?_, rfl⟩
        have := List.find?_some hx; simpa using this
      · exact h.elim
    | pure =>
      rw [hk] at h
      have run : wop P g.op fr st (fun x _ => wdraw P bss als (i + 1) r (updo fr g.dst x) st hist pend K) → Runs g fr →
          ∃ (X : Nat → AV) (S : Nat → St) (F : Nat → Nat → AV), F i = fr ∧ S i = st ∧ K (F (i + (g :: r).length)) (S (i + (g :: r).length)) ∧ ∀ (k : Nat) (g : GOp), i ≤ k → gs[k]? = some g → TStep P N ops gs bss als i hist pend X S F k g := by
        intro hw hr
        obtain ⟨x, s', hev, hd⟩ := wop_ev (by rw [hk]; simp) hw
        rw [← wop_mask.1] at hev
        refine take _ _ _ _ hd (fun _ => id) (fun _ => id) (fun e => by rw [hk] at e; cases e) (fun _ => trivial) fun X' S' F' hS hF hT => ?_
        unfold TStep
        rw [at0_ne (by omega), at0_same, at0_same, at0_ne (by omega), at0_same, hk, hF, hS]
        exact ⟨rfl, rfl, .inr ⟨hr, s', hev⟩⟩
      simp only at h
      split at h
      · rename_i hgd; exact run h (by simp [Runs, hgd])
      · rename_i d want hgd
        split at h
        · rename_i b hb
          split at h
          · rename_i hw; subst hw; exact run h (by simp [Runs, hgd, hb])
          · rename_i hw
            refine take _ _ _ _ h (fun _ => id) (fun _ => id) (fun e => by rw [hk] at e; cases e) (fun _ => trivial) fun X' S' F' hS hF hT => ?_
            unfold TStep
            rw [at0_ne (by omega), at0_same, at0_same, at0_ne (by omega), at0_same, hk, hF, hS]
            exact ⟨rfl, rfl, .inl ⟨by simp only [Skips, hgd, hb]; left; cases b <;> cases want <;> simp_all, rfl⟩⟩
        · rename_i hb
          refine take _ _ _ _ h (fun _ => id) (fun _ => id) (fun e => by rw [hk] at e; cases e) (fun _ => trivial) fun X' S' F' hS hF hT => ?_
          unfold TStep
          rw [at0_ne (by omega), at0_same, at0_same, at0_ne (by omega), at0_same, hk, hF, hS]
          exact ⟨rfl, rfl, .inl ⟨by simp only [Skips, hgd, hb]; right; trivial, rfl⟩⟩
        · exact h.elim
    | read =>
      rw [hk] at h
      have run : wop P g.op fr st (fun x _ => (∀ h ∈ hist, (bss.getD i []).contains h.1 = false → evOp P (·.ev fr) h.2 g.op = some (x, h.2)) ∧
          wdraw P bss als (i + 1) r (updo fr g.dst x) st hist ((i, fun s => evOp P (·.ev fr) s g.op, x) :: pend) K) → Runs g fr →
          ∃ (X : Nat → AV) (S : Nat → St) (F : Nat → Nat → AV), F i = fr ∧ S i = st ∧ K (F (i + (g :: r).length)) (S (i + (g :: r).length)) ∧ ∀ (k : Nat) (g : GOp), i ≤ k → gs[k]? = some g → TStep P N ops gs bss als i hist pend X S F k g := by
        intro hw hr
        obtain ⟨x, s', hev, hd1, hd2⟩ := wop_ev (by rw [hk]; simp) hw
        rw [← wop_mask.1] at hev
        refine take _ _ _ _ hd2 (fun _ => id) (fun _ => List.mem_cons_of_mem _) (fun e => by rw [hk] at e; cases e) (fun _ => trivial) fun X' S' F' hS hF hT => ?_
        unfold TStep
        rw [at0_ne (by omega), at0_same, at0_same, at0_ne (by omega), at0_same, hk, hF, hS]
        refine ⟨rfl, rfl, .inr ⟨hr, ⟨s', hev⟩, fun h hm hc => by rw [wop_mask.1]; exact hd1 h hm hc, fun j h1 h2 => by omega, fun j h1 h2 h3 => ?_⟩⟩
        obtain ⟨g2, e2, e3⟩ := h2
        have t := hT j g2 (by omega) e2
        unfold TStep at t
        have t := t.2
        rw [e3] at t
        rw [at0_ne (show j + 1 ≠ i by omega)]
        have t3 := t.2.1 _ (List.mem_cons_self ..) h3
        rw [wop_mask.1]; exact t3
      simp only at h
      split at h
      · rename_i hgd; exact run h (by simp [Runs, hgd])
      · rename_i d want hgd
        split at h
        · rename_i b hb
          split at h
          · rename_i hw; subst hw; exact run h (by simp [Runs, hgd, hb])
          · rename_i hw
            refine take _ _ _ _ h (fun _ => id) (fun _ => id) (fun e => by rw [hk] at e; cases e) (fun _ => trivial) fun X' S' F' hS hF hT => ?_
            unfold TStep
            rw [at0_ne (by omega), at0_same, at0_same, at0_ne (by omega), at0_same, hk, hF, hS]
            exact ⟨rfl, rfl, .inl ⟨by simp only [Skips, hgd, hb]; left; cases b <;> cases want <;> simp_all, rfl⟩⟩
        · rename_i hb
          refine take _ _ _ _ h (fun _ => id) (fun _ => id) (fun e => by rw [hk] at e; cases e) (fun _ => trivial) fun X' S' F' hS hF hT => ?_
          unfold TStep
          rw [at0_ne (by omega), at0_same, at0_same, at0_ne (by omega), at0_same, hk, hF, hS]
          exact ⟨rfl, rfl, .inl ⟨by simp only [Skips, hgd, hb]; right; trivial, rfl⟩⟩
        · exact h.elim
    | eff =>
      rw [hk] at h
      have run : wop P g.op fr st (fun x st' => effOK (bss.getD i []) als pend st' ∧ wdraw P bss als (i + 1) r (updo fr g.dst x) st' ((i, st) :: hist) pend K) → Runs g fr →
          ∃ (X : Nat → AV) (S : Nat → St) (F : Nat → Nat → AV), F i = fr ∧ S i = st ∧ K (F (i + (g :: r).length)) (S (i + (g :: r).length)) ∧ ∀ (k : Nat) (g : GOp), i ≤ k → gs[k]? = some g → TStep P N ops gs bss als i hist pend X S F k g := by
        intro hw hr
        obtain ⟨o, ho, hco⟩ := hl i g hgi
        rw [← wop_mask.2] at hw
        obtain ⟨x, s', ⟨hd1, hd2⟩, hs⟩ := wop_sound1 hco hw
        refine take _ _ _ _ hd2 (fun _ => List.mem_cons_of_mem _) (fun _ => id) (fun _ => List.mem_cons_self ..) (fun _ => trivial) fun X' S' F' hS hF hT => ?_
        unfold TStep
        rw [at0_ne (by omega), at0_same, at0_same, at0_ne (by omega), at0_same, hk, hF, hS]
        exact ⟨rfl, .inr ⟨hr, o, ho, hs⟩, hd1⟩
      simp only at h
      split at h
      · rename_i hgd; exact run h (by simp [Runs, hgd])
      · rename_i d want hgd
        split at h
        · rename_i b hb
          split at h
          · rename_i hw; subst hw; exact run h (by simp [Runs, hgd, hb])
          · rename_i hw
            refine take _ _ _ _ h.2 (fun _ => List.mem_cons_of_mem _) (fun _ => id) (fun _ => List.mem_cons_self ..) (fun _ => trivial) fun X' S' F' hS hF hT => ?_
            unfold TStep
            rw [at0_ne (by omega), at0_same, at0_same, at0_ne (by omega), at0_same, hk, hF, hS]
            exact ⟨rfl, .inl ⟨by simp only [Skips, hgd, hb]; left; cases b <;> cases want <;> simp_all, rfl, rfl⟩, h.1⟩
        · rename_i hb
          refine take _ _ _ _ h.2 (fun _ => List.mem_cons_of_mem _) (fun _ => id) (fun _ => List.mem_cons_self ..) (fun _ => trivial) fun X' S' F' hS hF hT => ?_
          unfold TStep
          rw [at0_ne (by omega), at0_same, at0_same, at0_ne (by omega), at0_same, hk, hF, hS]
          exact ⟨rfl, .inl ⟨by simp only [Skips, hgd, hb]; right; trivial, rfl, rfl⟩, h.1⟩
        · exact h.elim
end
end Go.EF
end

section
namespace Go.EF
open Go Go.RowKit

section
variable {P : Program} {G : Gh} {st : St} {w : World}

/-- An object that stands for no block yet. -/
theorem Rel.unplaced (h : Rel P G st w) (z : List AV) : ∃ G', G.le G' ∧ Rel P G' (st.alloc (.cells z)) w ∧ G'.mu = G.mu ∧ G'.dfr = G.dfr ∧ G'.lps = G.lps := by
  have hle : G.le { G with nx := G.nx + 1 } := ⟨rfl, Nat.le_succ _, fun _ _ => rfl, fun _ _ e => e, fun _ _ _ e => e, fun _ _ e => e, fun _ e => e, fun _ e => e⟩
  have old : ∀ a sz, (st.alloc (.cells z)).get a = some (.arr true sz) → st.get a = some (.arr true sz) := fun a sz e => by
    rw [St.get_alloc] at e; split at e
    · cases e
    · exact e
  refine ⟨_, hle, ?_, rfl, rfl, rfl⟩
  refine { nxeq := by rw [St.next_alloc]; show G.nx + 1 = _; rw [h.nxeq], below := h.below, dom := fun a b e => by rw [St.next_alloc]; have := h.dom a b e; omega, adom := fun a b e => by rw [St.next_alloc]; have := h.adom a b e; omega, inj := h.inj, fresh := h.fresh, obj := ?_, fzok := h.fzok, fzmu := h.fzmu, arr := fun a sz e => h.arr a sz (old a sz e), arrinj := fun a a' s s' b n c n' c' e e' => h.arrinj a a' s s' b n c n' c' (old _ _ e) (old _ _ e'), dfr := h.dfr, lps := h.lps }
  intro a o b e hb
  rw [St.get_alloc] at e
  have hd := h.dom a b hb
  rw [if_neg (by omega)] at e
  exact (h.obj a o b e hb).mono hle fun _ _ => rfl

/-- Such an object is placed. -/
theorem Rel.place (h : Rel P G st w) {a : Nat} {z : List AV} (ha : st.get a = some (.cells z)) (hm : G.mu a = none) (vs : Array Value) (t : TypeId) (hv : VRels G z vs.toList) :
    ∃ G', G.sub G' ∧ G'.w0 = G.w0 ∧ G'.nx = G.nx ∧ (∀ a', a' ≠ a → G'.mu a' = G.mu a') ∧ G'.dfr = G.dfr ∧ G'.lps = G.lps ∧ Rel P G' st (w.alloc (.cells vs t)) ∧ G'.mu a = some w.heap.size := by
  have hsub : G.sub { G with mu := fun a' => if a' = a then some w.heap.size else G.mu a' } := by
    refine ⟨fun a' b e => ?_, fun _ _ _ e => e, fun _ _ e => e⟩
    show (if _ then _ else _) = _
    by_cases h1 : a' = a
    · subst h1; rw [hm] at e; cases e
    · rw [if_neg h1]; exact e
  have hold : ∀ k, k < w.heap.size → (w.alloc (.cells vs t)).heap[k]? = w.heap[k]? := fun k hk => Below.heap_alloc _ _ _ hk
  have h1 := h.alloc_world (.cells vs t)
  refine ⟨_, hsub, rfl, rfl, fun a' h => if_neg h, rfl, rfl, ?_, if_pos rfl⟩
  refine { nxeq := h.nxeq, below := h1.below, dom := ?_, adom := h.adom, inj := ?_, fresh := ?_, obj := ?_, fzok := h1.fzok, fzmu := ?_, arr := ?_, arrinj := h.arrinj, dfr := h1.dfr, lps := h1.lps }
  · intro a' b e; simp only at e
    by_cases ha' : a' = a
    · subst ha'; exact St.lt_of_get ha
    · rw [if_neg ha'] at e; exact h.dom a' b e
  · intro a1 a2 b e e'
    simp only at e e'
    by_cases ha1 : a1 = a <;> by_cases ha2 : a2 = a
    · omega
    · rw [if_pos ha1] at e; rw [if_neg ha2] at e'; cases e; have := (h.fresh a2 _ e').2; omega
    · rw [if_neg ha1] at e; rw [if_pos ha2] at e'; cases e'; have := (h.fresh a1 _ e).2; omega
    · rw [if_neg ha1] at e; rw [if_neg ha2] at e'; exact h.inj a1 a2 b e e'
  · intro a' b e
    simp only at e; rw [World.size_alloc]
    by_cases ha' : a' = a
    · rw [if_pos ha'] at e; cases e; exact ⟨h.hsize, by omega⟩
    · rw [if_neg ha'] at e; have := h.fresh a' b e; exact ⟨this.1, by omega⟩
  · intro a' x b e hb
    simp only at hb
    by_cases ha' : a' = a
    · subst ha'; rw [ha] at e; cases e
      exact ⟨w.heap.size, vs, t, if_pos rfl, World.alloc_heap_new _ _, VRels.mono' hsub _ _ hv⟩
    · rw [if_neg ha'] at hb
      have ho := h.obj a' x b e hb
      have hblk := hold b (h.fresh a' b hb).2
      cases x with
      | cells cs =>
        obtain ⟨b', vs', t', e1, e2, e3⟩ := ho
        rw [hb] at e1; cases e1
        exact ⟨b, vs', t', hsub.mu _ _ hb, by rw [hblk]; exact e2, VRels.mono' hsub _ _ e3⟩
      | vec cs =>
        obtain ⟨b', vs', t', e1, e2, e4, e3⟩ := ho
        rw [hb] at e1; cases e1
        exact ⟨b, vs', t', hsub.mu _ _ hb, by rw [hblk]; exact e2, e4, VRels.mono' hsub _ _ e3⟩
      | arr => trivial
      | map es clock =>
        obtain ⟨b', rs, e1, e2, e3⟩ := ho
        rw [hb] at e1; cases e1
        refine ⟨b, rs, hsub.mu _ _ hb, by rw [hblk]; exact e2, ?_⟩
        clear e2 e
        revert e3; generalize rs.toList = l
        induction es generalizing l with
        | nil => exact id
        | cons e es ih => rintro ⟨r, rs', e1, e2, e3, e4, e5⟩; exact ⟨r, rs', e1, e2, e3, VRel.mono' hsub _ _ e4, ih _ e5⟩
      | sit s pos =>
        obtain ⟨b', e1, e2⟩ := ho
        rw [hb] at e1; cases e1
        exact ⟨b, hsub.mu _ _ hb, by rw [hblk]; exact e2⟩
      | loop s p fr N ps asg body =>
        obtain ⟨b', rec, e1, e2, e3, e4, e5, e6, e7, e8, e9⟩ := ho
        rw [hb] at e1; cases e1
        exact ⟨b, rec, hsub.mu _ _ hb, by rw [hblk]; exact e2, e3, e4, e5, e6, e7, ⟨e8.1, fun i => VRel.mono' hsub _ _ (e8.2 i)⟩, e9⟩
  · intro a' b o e
    simp only at e
    by_cases ha' : a' = a
    · rw [if_pos ha'] at e; cases e
      cases hz : G.fz w.heap.size o with
      | none => rfl
      | some y => obtain ⟨vs, t, fr, h1, h2⟩ := h.fzok _ _ _ hz; have := (Array.getElem?_eq_some_iff.1 h1).1; omega
    · rw [if_neg ha'] at e; exact h.fzmu a' b o e
  · intro a' sz e
    obtain ⟨b, n, cap, vs', t', g1, g2, g3, g4, g5, g6, g7⟩ := h.arr a' sz e
    have hb := (Array.getElem?_eq_some_iff.1 g2).1
    refine ⟨b, n, cap, vs', t', g1, by rw [hold b hb]; exact g2, g3, g4, g5, g6, fun x => ?_⟩
    simp only
    by_cases hx : x = a
    · rw [if_pos hx]; intro e; cases e; omega
    · rw [if_neg hx]; exact g7 x

theorem preSt_rel : ∀ (als : List (Nat × Nat × List AV)) {G : Gh} {st : St}, Rel P G st w → ∃ G', G.le G' ∧ Rel P G' (preSt st als) w ∧ G'.mu = G.mu ∧ G'.dfr = G.dfr ∧ G'.lps = G.lps
  | [], G, st, h => ⟨G, .refl _, h, rfl, rfl, rfl⟩
  | x :: r, G, st, h => by
    obtain ⟨G1, h1, h2, h3, h4, h5⟩ := h.unplaced x.2.2
    obtain ⟨G2, g1, g2, g3, g4, g5⟩ := preSt_rel r h2
    exact ⟨G2, h1.trans g1, g2, g3.trans h3, g4.trans h4, g5.trans h5⟩

theorem preSt_old : ∀ (als : List (Nat × Nat × List AV)) (st : St) (a : Nat), a < st.next → (preSt st als).get a = st.get a
  | [], st, a, h => rfl
  | x :: r, st, a, h => by
    have := preSt_old r (st.alloc (.cells x.2.2)) a (by rw [St.next_alloc]; omega)
    rw [preSt, this, St.get_alloc_old _ _ h]

theorem allocsOf_spec : ∀ (l : List GOp) (st : St) (i : Nat), (∀ x ∈ allocsOf st.next i l, i ≤ x.1 ∧ st.next ≤ x.2.1 ∧ (preSt st (allocsOf st.next i l)).get x.2.1 = some (.cells x.2.2) ∧ ∃ g, l[x.1 - i]? = some g ∧ g.op = .alloc x.2.2) ∧
    (∀ x ∈ allocsOf st.next i l, ∀ y ∈ allocsOf st.next i l, x.1 = y.1 ↔ x.2.1 = y.2.1)
  | [], st, i => ⟨fun x hx => by simp [allocsOf] at hx, fun x hx => by simp [allocsOf] at hx⟩
  | g :: r, st, i => by
    have skip : (∀ z, g.op ≠ .alloc z) → (∀ x ∈ allocsOf st.next (i + 1) r, i ≤ x.1 ∧ st.next ≤ x.2.1 ∧ (preSt st (allocsOf st.next (i + 1) r)).get x.2.1 = some (.cells x.2.2) ∧ ∃ g', (g :: r)[x.1 - i]? = some g' ∧ g'.op = .alloc x.2.2) ∧
        (∀ x ∈ allocsOf st.next (i + 1) r, ∀ y ∈ allocsOf st.next (i + 1) r, x.1 = y.1 ↔ x.2.1 = y.2.1) := fun _ => by
      obtain ⟨h1, h2⟩ := allocsOf_spec r st (i + 1)
      refine ⟨fun x hx => ?_, h2⟩
      obtain ⟨g1, g2, g3, g', g4, g5⟩ := h1 x hx
      exact ⟨by omega, g2, g3, g', by rw [show x.1 - i = (x.1 - (i + 1)) + 1 from by omega]; simpa using g4, g5⟩
    unfold allocsOf
    split
    · rename_i z hz
      obtain ⟨h1, h2⟩ := allocsOf_spec r (st.alloc (.cells z)) (i + 1)
      rw [St.next_alloc] at h1 h2
      refine ⟨fun x hx => ?_, fun x hx y hy => ?_⟩
      · rcases List.mem_cons.1 hx with rfl | hx
        · refine ⟨Nat.le_refl _, Nat.le_refl _, ?_, g, by simp, hz⟩
          simp only [preSt]
          rw [preSt_old _ _ _ (by rw [St.next_alloc]; omega), St.get_alloc_new]
        · obtain ⟨g1, g2, g3, g', g4, g5⟩ := h1 x hx
          exact ⟨by omega, by omega, g3, g', by rw [show x.1 - i = (x.1 - (i + 1)) + 1 from by omega]; simpa using g4, g5⟩
      · rcases List.mem_cons.1 hx with rfl | hx <;> rcases List.mem_cons.1 hy with rfl | hy
        · simp
        · obtain ⟨g1, g2, _⟩ := h1 y hy; simp only; constructor <;> intro e <;> omega
        · obtain ⟨g1, g2, _⟩ := h1 x hx; simp only; constructor <;> intro e <;> omega
        · exact h2 x hx y hy
    · rename_i hz; exact skip hz
end

/-! ### what the check has found -/
theorem drawOK_spec {es : List (List Nat)} {l : List GOp} {bs : List (List Nat)} (h : drawOK es l bs = true) :
    (∀ i, i < l.length → ∀ j ∈ es.getD i [], j < i) ∧ (∀ i, i < l.length → ∀ j, (bs.getD i []).contains j = true → j ∈ es.getD i [] ∨ ∃ k ∈ es.getD i [], (bs.getD k []).contains j = true) ∧
    (∀ (i : Nat) (g : GOp), l[i]? = some g → g.op.kd = .alloc → g.guard = none ∧ g.dst.isSome = true) ∧ (∀ (i j : Nat) (g k : GOp), j < i → l[i]? = some g → l[j]? = some k → conflict g k = true → (bs.getD i []).contains j = true) := by
  unfold drawOK at h
  rw [List.all_eq_true] at h
  have H := fun i (hi : i < l.length) => h i (List.mem_range.2 hi)
  simp only [Bool.and_eq_true] at H
  refine ⟨fun i hi j hj => ?_, fun i hi j hj => ?_, fun i g hg hk => ?_, fun i j g k hji hg hk hc => ?_⟩
  · have := (List.all_eq_true.1 (H i hi).1.1) j hj; simpa using this
  · have := (List.all_eq_true.1 (H i hi).1.2) j (by simpa using hj)
    simp only [Bool.or_eq_true, List.any_eq_true] at this
    rcases this with h | ⟨k, h1, h2⟩
    · exact .inl (by simpa using h)
    · exact .inr ⟨k, h1, h2⟩
  · have hi := (List.getElem?_eq_some_iff.1 hg).1
    have := (H i hi).2
    rw [hg] at this
    simp only [Bool.and_eq_true, Bool.or_eq_true, decide_eq_true_eq] at this
    rcases this.1 with h | h
    · exact absurd hk h
    · exact ⟨by simpa using h.1, h.2⟩
  · have hi := (List.getElem?_eq_some_iff.1 hg).1
    have := (H i hi).2
    rw [hg] at this
    simp only [Bool.and_eq_true] at this
    have := (List.all_eq_true.1 this.2) j (List.mem_range.2 hji)
    rw [hk] at this
    simpa [hc] using this
end Go.EF
end

section
namespace Go.EF
open Go Go.RowKit

section
variable {P : Program} {N : Nat} {ops : Array Oper} {gs : List GOp} {bss : List (List Nat)} {als : List (Nat × Nat × List AV)} {base : Nat}
variable {X : Nat → AV} {S : Nat → St} {F : Nat → Nat → AV}

/-- All that is known of the trace. -/
structure Tr (P : Program) (N : Nat) (ops : Array Oper) (gs : List GOp) (bss : List (List Nat)) (als : List (Nat × Nat × List AV)) (base : Nat) (X : Nat → AV) (S : Nat → St) (F : Nat → Nat → AV) : Prop where
  len : ops.size = gs.length
  op : ∀ (k : Nat) (g : GOp), gs[k]? = some g → ∃ o, ops[k]? = some o ∧ compOper P N ops o = some g
  step : ∀ (k : Nat) (g : GOp), gs[k]? = some g → TStep P N ops gs bss als 0 [] [] X S F k g
  e1 : ∀ i, i < gs.length → ∀ j ∈ (ops.toList.map directs).getD i [], j < i
  e2 : ∀ i, i < gs.length → ∀ j, (bss.getD i []).contains j = true → j ∈ (ops.toList.map directs).getD i [] ∨ ∃ k ∈ (ops.toList.map directs).getD i [], (bss.getD k []).contains j = true
  e3 : ∀ (i : Nat) (g : GOp), gs[i]? = some g → g.op.kd = .alloc → g.guard = none ∧ g.dst.isSome = true
  e4 : ∀ (i j : Nat) (g k : GOp), j < i → gs[i]? = some g → gs[j]? = some k → conflict g k = true → (bss.getD i []).contains j = true
  al : ∀ x ∈ als, base ≤ x.2.1 ∧ (S 0).get x.2.1 = some (.cells x.2.2) ∧ ∃ g, gs[x.1]? = some g ∧ g.op = .alloc x.2.2
  alinj : ∀ x ∈ als, ∀ y ∈ als, x.1 = y.1 ↔ x.2.1 = y.2.1

variable (T : Tr P N ops gs bss als base X S F)
include T

/-- The state turns at effects alone. -/
theorem Tr.still {k : Nat} (hk : k < gs.length) (h : ¬ effAt gs k) : S (k + 1) = S k := by
  have t := T.step k gs[k] (List.getElem?_eq_getElem hk)
  unfold TStep at t
  have t := t.2
  cases hkd : gs[k].op.kd with
  | eff => exact absurd ⟨_, List.getElem?_eq_getElem hk, hkd⟩ h
  | alloc => rw [hkd] at t; exact t.1
  | pure => rw [hkd] at t; exact t.1
  | read => rw [hkd] at t; exact t.1

theorem Tr.flat {m : Nat} : ∀ (d : Nat), m + d ≤ gs.length → (∀ k, m ≤ k → k < m + d → ¬ effAt gs k) → S (m + d) = S m
  | 0, _, _ => rfl
  | d + 1, hd, h => by
    rw [show m + (d + 1) = (m + d) + 1 from rfl, T.still (by omega) (h _ (by omega) (by omega))]
    exact Tr.flat d (by omega) fun k h1 h2 => h k h1 (by omega)

theorem Tr.sameS {m m' : Nat} (hm : m ≤ gs.length) (hm' : m' ≤ gs.length) (h : ∀ k, effAt gs k → (k < m ↔ k < m')) : S m = S m' := by
  rcases Nat.le_total m m' with hle | hle
  · obtain ⟨d, rfl⟩ := Nat.exists_eq_add_of_le hle
    exact (T.flat d hm' fun k h1 h2 he => by have := h k he; omega).symm
  · obtain ⟨d, rfl⟩ := Nat.exists_eq_add_of_le hle
    exact T.flat d hm fun k h1 h2 he => by have := h k he; omega

/-- What a slot holds at a place of the text. -/
theorem Tr.slot (s : Nat) : ∀ i, i ≤ gs.length → (∃ (k : Nat) (g : GOp), k < i ∧ gs[k]? = some g ∧ g.dst = some s ∧ F i s = X k ∧ ∀ (k' : Nat) (g' : GOp), k < k' → k' < i → gs[k']? = some g' → g'.dst ≠ some s) ∨
    ((∀ (k : Nat) (g : GOp), k < i → gs[k]? = some g → g.dst ≠ some s) ∧ F i s = F 0 s)
  | 0, _ => .inr ⟨fun k g h => by omega, rfl⟩
  | i + 1, hi => by
    have hg : gs[i]? = some gs[i] := List.getElem?_eq_getElem (by omega)
    have t := (T.step i _ hg).1
    by_cases hd : (gs[i]).dst = some s
    · refine .inl ⟨i, _, by omega, hg, hd, ?_, fun k' g' h1 h2 => by omega⟩
      rw [t, hd]; simp [updo, upd]
    · have hF : F (i + 1) s = F i s := by
        rw [t]
        cases hdd : (gs[i]).dst with
        | none => rfl
        | some d => rw [hdd] at hd; simp only [updo, upd]; rw [if_neg (fun e => hd (by rw [e]))]
      rcases Tr.slot s i (by omega) with ⟨k, g, h1, h2, h3, h4, h5⟩ | ⟨h1, h2⟩
      · refine .inl ⟨k, g, by omega, h2, h3, by rw [hF, h4], fun k' g' e1 e2 e3 => ?_⟩
        by_cases hk : k' = i
        · subst hk; rw [hg] at e3; cases e3; exact hd
        · exact h5 k' g' e1 (by omega) e3
      · refine .inr ⟨fun k g e1 e2 => ?_, by rw [hF, h2]⟩
        by_cases hk : k = i
        · subst hk; rw [hg] at e2; cases e2; exact hd
        · exact h1 k g (by omega) e2

/-- As long as nothing that comes behind an allocation is done, its object is as new. -/
theorem Tr.zero {x : Nat × Nat × List AV} (hx : x ∈ als) : ∀ m, m ≤ gs.length → (∀ k, k < m → effAt gs k → (bss.getD k []).contains x.1 = false) → (S m).get x.2.1 = some (.cells x.2.2)
  | 0, _, _ => (T.al x hx).2.1
  | m + 1, hm, h => by
    by_cases he : effAt gs m
    · obtain ⟨g, hg, hk⟩ := he
      have t := (T.step m g hg).2
      rw [hk] at t
      exact t.2.2 x hx (h m (by omega) ⟨g, hg, hk⟩)
    · rw [T.still (by omega) he]; exact Tr.zero hx m (by omega) fun k hk => h k (by omega)

/-- What a reading operation reads in any state in which it may come. -/
theorem Tr.reads {i : Nat} {g : GOp} (hg : gs[i]? = some g) (hk : g.op.kd = .read) (hr : ¬ (Skips g (F i) ∧ X i = .tup [])) {m : Nat} (hm : m ≤ gs.length) (h1 : ∀ k, effAt gs k → m ≤ k → k < i → (bss.getD i []).contains k = false)
    (h2 : ∀ k, effAt gs k → i < k → k < m → (bss.getD k []).contains i = false) : evOp P (·.ev (mask g.op.slots (F i))) (S m) g.op = some (X i, S m) := by
  have t := (T.step i g hg).2
  rw [hk] at t
  obtain ⟨t1, t2⟩ := t
  obtain ⟨_, ⟨s', u1⟩, _, u2, u3⟩ := t2.resolve_left hr
  have hs := evOp_read hk u1; subst hs
  rcases Nat.lt_or_ge i m with hlt | hle
  · clear h1
    obtain ⟨d, rfl⟩ : ∃ d, m = i + 1 + d := ⟨m - (i + 1), by omega⟩
    clear hlt
    induction d with
    | zero => rw [Nat.add_zero, t1]; exact u1
    | succ d ih =>
      by_cases he : effAt gs (i + 1 + d)
      · exact u3 (i + 1 + d) (by omega) he (h2 _ he (by omega) (by omega))
      · rw [show i + 1 + (d + 1) = (i + 1 + d) + 1 from rfl, T.still (by omega) he]
        exact ih (by omega) fun k e1 e2 e3 => h2 k e1 e2 (by omega)
  · clear h2
    obtain ⟨d, rfl⟩ : ∃ d, i = m + d := ⟨i - m, by omega⟩
    clear hle
    have key : ∀ d', d' ≤ d → evOp P (·.ev (mask g.op.slots (F (m + d)))) (S (m + d - d')) g.op = some (X (m + d), S (m + d - d')) := by
      intro d'
      induction d' with
      | zero => intro _; exact u1
      | succ d' ih =>
        intro hd'
        by_cases he : effAt gs (m + d - (d' + 1))
        · exact u2 _ (by omega) (by omega) he (h1 _ he (by omega) (by omega))
        · have := ih (by omega)
          have hh := T.still (k := m + d - (d' + 1)) (by have := (List.getElem?_eq_some_iff.1 hg).1; omega) he
          rw [show m + d - (d' + 1) + 1 = m + d - d' from by omega] at hh
          rw [← hh]; exact this
    have := key d (Nat.le_refl _)
    rwa [show m + d - d = m from by omega] at this
end
end Go.EF
end

section
namespace Go.EF
open Go Go.RowKit

section
variable {P : Program} {N : Nat} {ops : Array Oper} {gs : List GOp} {bss : List (List Nat)} {als : List (Nat × Nat × List AV)} {base : Nat}
variable {X : Nat → AV} {S : Nat → St} {F : Nat → Nat → AV}

def Lst (listed : Array Bool) (k : Nat) : Prop := listed.getD k false = true

/-- What holds in the midst of a region. -/
structure Mid (N : Nat) (P : Program) (gs : List GOp) (als : List (Nat × Nat × List AV)) (X : Nat → AV) (S : Nat → St) (F : Nat → Nat → AV) (G0 : Gh) (D : List Nat) (L : Nat → Prop) (a : Act) (w : World) (G : Gh) (m : Nat) : Prop where
  le : G0.le G
  rel : Rel P G (S m) w
  eff : ∀ k, effAt gs k → (L k ↔ k < m)
  hm : m ≤ gs.length
  size : a.tmps.size = N
  dfr : DfrOK G D a.defers
  als : ∀ x ∈ als, ¬ L x.1 → G.mu x.2.1 = none
  last : ∀ (s k : Nat) (g : GOp), gs[k]? = some g → L k → g.dst = some s → (∀ (k' : Nat) (g' : GOp), k < k' → gs[k']? = some g' → L k' → g'.dst ≠ some s) → VRel G (X k) (a.tmps.getD s undef)
  first : ∀ s : Nat, (∀ (k : Nat) (g : GOp), gs[k]? = some g → L k → g.dst ≠ some s) → VRel G (F 0 s) (a.tmps.getD s undef)

theorem conflict_dst {a b : GOp} {d : Nat} (h : a.dst = some d) (k : d ∈ b.slots ∨ b.dst = some d) : conflict a b = true := by
  unfold conflict; rw [h]
  rcases k with k | k <;> simp [k]
theorem conflict_dst' {a b : GOp} {d : Nat} (h : b.dst = some d) (k : d ∈ a.slots ∨ a.dst = some d) : conflict a b = true := by
  unfold conflict
  rcases k with k | k <;> simp [h, k]
theorem conflict_eff {a b : GOp} (h : a.op.kd = .eff) (k : b.op.kd = .eff) : conflict a b = true := by
  unfold conflict; simp [h, k]

/-- The wanting of an operation hangs on its guard's slot. -/
theorem wanted_of {o : Oper} {g : GOp} {fr : Nat → AV} {a : Act} {G : Gh} (hc : compOper P N ops o = some g) (hd : ∀ d w, g.guard = some (d, w) → VRel G (fr d) (a.tmps.getD d undef)) :
    (Runs g fr → Region.wanted o (yielded ops a.tmps) = true) ∧ (Skips g fr → Region.wanted o (yielded ops a.tmps) = false) := by
  unfold compOper at hc
  split at hc
  · split at hc
    · split at hc
      · rename_i c hc' hg; cases hc
        exact ⟨fun _ => by unfold Region.wanted; rw [hg], fun h => by simp [Skips] at h⟩
      · rename_i c hc' j want hg
        split at hc
        · rename_i d hdd
          cases hc
          have key : ∀ b, fr d = .bool b → Region.wanted o (yielded ops a.tmps) = (b == want) := by
            intro b hb
            have hv := hd d want rfl
            rw [hb] at hv; simp only [VRel] at hv
            have ht : a.tmps[d]? = some (.bool b) := by
              rw [Array.getD_eq_getD_getElem?] at hv
              cases he : a.tmps[d]? with
              | none => rw [he] at hv; simp [undef] at hv
              | some y => rw [he] at hv; simpa using hv
            simp [Region.wanted, hg, yielded, hdd, ht]
          refine ⟨fun h => by rw [key want h]; simp, fun h => ?_⟩
          rcases h with h | h
          · rw [key _ h]; cases want <;> rfl
          · have hv := hd d want rfl
            rw [h] at hv; simp only [VRel, VRels] at hv
            obtain ⟨ys, e1, e2⟩ := hv
            have hu : a.tmps.getD d undef = undef := by rw [e1]; unfold undef; congr; exact Array.toList_eq_nil_iff.1 e2
            have ht : ((ops[j]?).bind (·.dst)).bind (a.tmps[·]?) ≠ some (.bool want) ∧ ∀ b, ((ops[j]?).bind (·.dst)).bind (a.tmps[·]?) ≠ some (.bool b) := by
              have hall : ∀ b, ((ops[j]?).bind (·.dst)).bind (a.tmps[·]?) ≠ some (.bool b) := fun b e => by
                rw [hdd] at e
                simp only [Option.bind_some] at e
                rw [Array.getD_eq_getD_getElem?, e] at hu
                simp [undef] at hu
              exact ⟨hall want, hall⟩
            unfold Region.wanted
            rw [hg]
            simp only [yielded]
            split
            · rename_i b hb; exact absurd hb (ht.2 b)
            · cases want <;> rfl
        · cases hc
    · cases hc
  · cases hc

variable (T : Tr P N ops gs bss als base X S F)
include T

theorem mid_step {G0 : Gh} {D : List Nat} {L L' : Nat → Prop} {i : Nat} {g : GOp} {o : Oper} (hg : gs[i]? = some g) (ho : ops[i]? = some o) (hc : compOper P N ops o = some g) (hnL : ¬ L i) (hL' : ∀ k, L' k ↔ L k ∨ k = i)
    (hb : ∀ j, (bss.getD i []).contains j = true → L j) (down : ∀ k, L k → ∀ j, (bss.getD k []).contains j = true → L j) (hbase : base = G0.nx)
    {a : Act} {w : World} {G : Gh} {m : Nat} (M : Mid N P gs als X S F G0 D L a w G m) (ro : Option Nat) (n : Nat) (next : Act → World → Prop) (Q : Exit → Act → World → Prop)
    (hnext : ∀ a' w' G' m', Mid N P gs als X S F G0 D L' a' w' G' m' → next a' w') :
    wpOpIn (wideAt ro) n P ops Q i next a w := by
  have hi : i < gs.length := (List.getElem?_eq_some_iff.1 hg).1
  -- whoever is at odds with it is done if and only if it comes before it
  have odds : ∀ (k : Nat) (h : GOp), k ≠ i → gs[k]? = some h → (conflict g h = true ∧ conflict h g = true) → (L k ↔ k < i) := by
    intro k h hne hk hcf
    rcases Nat.lt_or_ge k i with hlt | hge
    · exact ⟨fun _ => hlt, fun _ => hb k (T.e4 i k g h hlt hg hk hcf.1)⟩
    · refine ⟨fun hl => absurd (down k hl i (T.e4 k i h g (by omega) hk hg hcf.2)) hnL, fun h => by omega⟩
  have wr : ∀ (s k : Nat) (h : GOp), k ≠ i → gs[k]? = some h → h.dst = some s → (s ∈ g.slots ∨ g.dst = some s) → (L k ↔ k < i) := fun s k h hne hk hd hs =>
    odds k h hne hk ⟨conflict_dst' hd hs, conflict_dst hd hs⟩
  -- the slots that it reads
  have slot : ∀ s ∈ g.slots, VRel G (F i s) (a.tmps.getD s undef) := by
    intro s hs
    rcases T.slot s i (by omega) with ⟨k, h, h1, h2, h3, h4, h5⟩ | ⟨h1, h2⟩
    · rw [h4]
      refine M.last s k h h2 ((wr s k h (by omega) h2 h3 (.inl hs)).2 h1) h3 fun k' g' e1 e2 e3 => ?_
      by_cases hk' : k' < i
      · exact h5 k' g' e1 hk' e2
      · intro e4
        by_cases hki : k' = i
        · subst hki; exact hnL e3
        · exact hk' ((wr s k' g' hki e2 e4 (.inl hs)).1 e3)
    · rw [h2]
      refine M.first s fun k h e1 e2 e3 => ?_
      by_cases hki : k = i
      · subst hki; exact hnL e2
      · exact h1 k h ((wr s k h hki e1 e3 (.inl hs)).1 e2) e1 e3
  have hF : FrRel G N (mask g.op.slots (F i)) a.tmps := by
    refine ⟨M.size, fun s => ?_⟩
    unfold mask
    by_cases hs : g.op.slots.contains s = true
    · rw [if_pos hs]; exact slot s (List.mem_append_left _ (by simpa using hs))
    · rw [if_neg hs]; simp [VRel]
  have hwant := wanted_of (ops := ops) (fr := F i) (a := a) (G := G) hc fun d wnt e => slot d (by unfold GOp.slots; rw [e]; simp)
  obtain ⟨hd1, hd2⟩ := compOper_dst hc
  -- it is done
  have fin : ∀ (y : Value) (w' : World) (G' : Gh) (m' : Nat), G0.le G' → G.sub G' → G'.dfr = G.dfr ∨ G.le G' → Rel P G' (S m') w' → VRel G' (X i) y → m' ≤ gs.length → (∀ k, effAt gs k → (L' k ↔ k < m')) →
      (∀ x ∈ als, ¬ L' x.1 → G'.mu x.2.1 = none) → Mid N P gs als X S F G0 D L' (a.put o.dst y) w' G' m' := by
    intro y w' G' m' k1 k2 k3 k4 k5 k6 k7 k8
    have keep : ∀ s, o.dst ≠ some s → (a.put o.dst y).tmps.getD s undef = a.tmps.getD s undef := by
      intro s hs
      cases hd : o.dst with
      | none => rfl
      | some d =>
        simp only [Act.put, Array.getD_eq_getD_getElem?]
        rw [Array.getElem?_setIfInBounds_ne (fun e => hs (by rw [hd, e]))]
    have new : ∀ s, o.dst = some s → (a.put o.dst y).tmps.getD s undef = y := by
      intro s hs
      rw [hs] at hd2 ⊢
      have : s < a.tmps.size := by rw [M.size]; simpa [dstOK] using hd2
      simp [Act.put, Array.getD, this]
    refine { le := k1, rel := k4, eff := k7, hm := k6, size := ?_, dfr := ?_, als := k8, last := ?_, first := ?_ }
    · cases hd : o.dst <;> simp [Act.put, M.size]
    · rw [put_defers]
      obtain ⟨rs, r1, r2, r3⟩ := M.dfr
      refine ⟨rs, r1, fun r hr => ⟨?_, (r2 r hr).2⟩, r3⟩
      rcases k3 with e | e
      · rw [e]; exact (r2 r hr).1
      · exact e.dfr _ (r2 r hr).1
    · intro s k h e1 e2 e3 e4
      by_cases hs : g.dst = some s
      · rw [new s (by rw [← hd1]; exact hs)]
        have : k = i := by
          by_cases hki : k = i
          · exact hki
          · have hlk : L k := ((hL' k).1 e2).resolve_right hki
            have := (wr s k h hki e1 e3 (.inr hs)).1 hlk
            exact absurd hs (e4 i g this hg ((hL' i).2 (.inr rfl)))
        subst this; exact k5
      · rw [keep s (by rw [← hd1]; exact hs)]
        have hki : k ≠ i := fun e => by subst e; rw [hg] at e1; cases e1; exact hs e3
        exact VRel.mono' k2 _ _ (M.last s k h e1 (((hL' k).1 e2).resolve_right hki) e3 fun k' g' u1 u2 u3 => e4 k' g' u1 u2 ((hL' k').2 (.inl u3)))
    · intro s hs
      have hgs : g.dst ≠ some s := hs i g hg ((hL' i).2 (.inr rfl))
      rw [keep s (by rw [← hd1]; exact hgs)]
      exact VRel.mono' k2 _ _ (M.first s fun k h u1 u2 => hs k h u1 ((hL' k).2 (.inl u2)))
  -- objects that are not placed yet are as new
  have zero : ∀ x ∈ als, ¬ L x.1 → (S m).get x.2.1 = some (.cells x.2.2) := fun x hx hnx =>
    T.zero hx m M.hm fun k hk he => by
      cases hcc : (bss.getD k []).contains x.1 with
      | false => rfl
      | true => exact absurd (down k ((M.eff k he).2 hk) x.1 hcc) hnx
  have aold : ∀ G', G.le G' → ∀ x ∈ als, ¬ L' x.1 → G'.mu x.2.1 = none := fun G' hle x hx hn => by
    have hnx : ¬ L x.1 := fun e => hn ((hL' _).2 (.inl e))
    rw [hle.old _ (by rw [M.rel.nxeq]; exact St.lt_of_get (zero x hx hnx))]
    exact M.als x hx hnx
  -- an operation that is no effect leaves the effects as they are
  have same : ¬ effAt gs i → ∀ k, effAt gs k → (L' k ↔ k < m) := fun hne k hk => by
    rw [hL' k]
    constructor
    · rintro (h | rfl)
      · exact (M.eff k hk).1 h
      · exact absurd hk hne
    · exact fun h => .inl ((M.eff k hk).2 h)
  have tstep := (T.step i g hg).2
  have hab : ∀ f, o.about P w a.eval = some f → (wideAt ro).fn f := fun _ _ => trivial
  unfold wpOpIn
  simp only [ho]
  -- how a skipped one ends
  have skip : Skips g (F i) → X i = .tup [] → (∃ m', S m' = S m ∧ m' ≤ gs.length ∧ ∀ k, effAt gs k → (L' k ↔ k < m')) → (if Region.wanted o (yielded ops a.tmps) = true then o.wpIn (wideAt ro) n P a w next Q else (∀ f, o.about P w a.eval = some f → (wideAt ro).fn f) ∧ next (a.put o.dst undef) w) := by
    intro hs hx ⟨m', e1, e2, e3⟩
    rw [hwant.2 hs]
    simp only [Bool.false_eq_true, if_false]
    refine ⟨hab, hnext _ _ G m' (fin undef w G m' M.le ⟨fun _ _ e => e, fun _ _ _ e => e, fun _ _ e => e⟩ (.inl rfl) (by rw [e1]; exact M.rel) (by rw [hx]; simp [VRel, VRels, undef]) e2 e3 (aold G (.refl _)))⟩
  cases hk : g.op.kd with
  | alloc =>
    rw [hk] at tstep
    obtain ⟨t1, x, hx, rfl, t3⟩ := tstep
    obtain ⟨q1, q2, g', q3, q4⟩ := T.al x hx
    rw [hg] at q3; cases q3
    have hne : ¬ effAt gs x.1 := fun ⟨g2, u1, u2⟩ => by rw [hg] at u1; cases u1; rw [hk] at u2; cases u2
    obtain ⟨hgd, hdst⟩ := T.e3 _ g hg hk
    rw [hwant.1 (by simp [Runs, hgd])]
    simp only [if_true]
    refine ⟨hab, ?_⟩
    -- which operation it is
    have hco := compOper_op hc
    rw [q4] at hco
    obtain ⟨dst, op, type, pos, after, guard⟩ := o
    have hop : ∃ t, op = .alloc t ∧ tzero P t = some x.2.2 := by
      cases op with
      | alloc t => simp only [compOp, Option.map_eq_some_iff] at hco; obtain ⟨z, h1, h2⟩ := hco; cases h2; exact ⟨t, rfl, h1⟩
      | call cl =>
        obtain ⟨callee, as, ats⟩ := cl
        cases callee with
        | value fv =>
          cases fv with
          | func f' => simp [compOp] at hco
          | _ => exact absurd hco (by simp only [compOp] <;> (repeat' split) <;> simp)
        | builtin b => exact absurd hco (by cases b <;> simp only [compOp] <;> (repeat' split) <;> simp)
        | invoke => simp [compOp] at hco
      | makeFunc fn _ _ => exact absurd hco (by cases fn <;> simp only [compOp] <;> (repeat' split) <;> simp)
      | makeMap _ r => exact absurd hco (by cases r <;> simp only [compOp] <;> (repeat' split) <;> simp)
      | next y isS => exact absurd hco (by cases isS <;> simp [compOp])
      | _ => exact absurd hco (by simp only [compOp] <;> (repeat' split) <;> simp)
    obtain ⟨t, rfl, hz⟩ := hop
    obtain ⟨v, inf, _, _, _, z1, z2⟩ := tzero_run hz
    rw [Oper.semAt_eq _ _ _ (by simp)]
    have hrun : (execOp a.eval (⟨dst, .alloc t, type, pos, after, guard⟩ : Oper)).run P w = .ok (.value (.pointer (some ⟨w.heap.size, 0, none⟩))) (w.alloc (.cells v.cells t)) := by
      simp [execOp, Instr.alloc, z1, newVar, newRow]
    rw [hrun]
    obtain ⟨G', p1, p2, p3, p4, p5, p6, p7, p8⟩ := M.rel.place (zero x hx hnL) (M.als x hx hnL) v.cells t (z2 G)
    have hbx : G0.nx ≤ x.2.1 := by rw [← hbase]; exact q1
    refine hnext _ _ G' m (fin _ _ G' m ⟨p2.trans M.le.w0, by rw [p3]; exact M.le.nx, fun a' ha' => by rw [p4 a' (by omega)]; exact M.le.old a' ha', fun a' b e => p1.mu _ _ (M.le.mu _ _ e), fun b o' y e => p1.fz _ _ _ (M.le.fz _ _ _ e), fun a' y e => p1.arr _ _ (M.le.arr _ _ e), fun r hr => by rw [p5]; exact M.le.dfr r hr, fun r hr => by rw [p6]; exact M.le.lps r hr⟩ p1 (.inl p5) p7 ?_ M.hm (same hne) ?_)
    · rw [t3]; simp only [VRel]; exact ⟨_, p8, rfl⟩
    · intro y hy hn
      have hny : ¬ L y.1 := fun e => hn ((hL' _).2 (.inl e))
      rw [p4 _ fun e => hn ((hL' _).2 (.inr ((T.alinj y hy x hx).2 e)))]
      exact M.als y hy hny
  | pure =>
    rw [hk] at tstep
    have hne : ¬ effAt gs i := fun ⟨g2, u1, u2⟩ => by rw [hg] at u1; cases u1; rw [hk] at u2; cases u2
    obtain ⟨t1, ⟨t2, t3⟩ | ⟨t2, s', t3⟩⟩ := tstep
    · exact skip t2 t3 ⟨m, rfl, M.hm, same hne⟩
    · rw [hwant.1 t2]
      simp only [if_true]
      obtain ⟨x, st', ⟨rfl, rfl⟩, hs⟩ := wop_sound1 hc (ev_wop (by rw [hk]; simp) ((evOp_pure hk t3).2 (S m)))
      refine hs ro G a w n next Q M.rel hF fun y w' G' u1 u2 u3 => hnext _ _ G' m (fin y w' G' m (M.le.trans u1) u1.sub (.inr u1) u2 u3 M.hm (same hne) (aold G' u1))
  | read =>
    rw [hk] at tstep
    have hne : ¬ effAt gs i := fun ⟨g2, u1, u2⟩ => by rw [hg] at u1; cases u1; rw [hk] at u2; cases u2
    by_cases hsk : Skips g (F i) ∧ X i = .tup []
    · exact skip hsk.1 hsk.2 ⟨m, rfl, M.hm, same hne⟩
    · obtain ⟨t2, _⟩ := tstep.2.resolve_left hsk
      rw [hwant.1 t2]
      simp only [if_true]
      have hev := T.reads hg hk hsk M.hm (fun k he h1 h2 => by
        cases hcc : (bss.getD i []).contains k with
        | false => rfl
        | true => have := (M.eff k he).1 (hb k hcc); omega) (fun k he h1 h2 => by
        cases hcc : (bss.getD k []).contains i with
        | false => rfl
        | true => exact absurd (down k ((M.eff k he).2 h2) i hcc) hnL)
      obtain ⟨x, st', ⟨rfl, rfl⟩, hs⟩ := wop_sound1 hc (ev_wop (by rw [hk]; simp) hev)
      refine hs ro G a w n next Q M.rel hF fun y w' G' u1 u2 u3 => hnext _ _ G' m (fin y w' G' m (M.le.trans u1) u1.sub (.inr u1) u2 u3 M.hm (same hne) (aold G' u1))
  | eff =>
    rw [hk] at tstep
    have he : effAt gs i := ⟨g, hg, hk⟩
    have hiff : ∀ k, effAt gs k → (L k ↔ k < i) := fun k hke => by
      obtain ⟨h, h1, h2⟩ := hke
      by_cases hki : k = i
      · subst hki; exact ⟨fun e => absurd e hnL, fun e => absurd e (Nat.lt_irrefl _)⟩
      · exact odds k h hki h1 ⟨conflict_eff hk h2, conflict_eff h2 hk⟩
    have hS : S m = S i := T.sameS M.hm (by omega) fun k hke => (M.eff k hke).symm.trans (hiff k hke)
    have hiff' : ∀ k, effAt gs k → (L' k ↔ k < i + 1) := fun k hke => by
      rw [hL' k, hiff k hke]; omega
    obtain ⟨⟨t1, t2, t3⟩ | ⟨t1, o', t2, t3⟩, _⟩ := tstep
    · exact skip t1 t2 ⟨i + 1, by rw [t3, hS], by omega, hiff'⟩
    · rw [ho] at t2; cases t2
      rw [hwant.1 t1]
      simp only [if_true]
      refine t3 ro G a w n next Q (by rw [← hS]; exact M.rel) hF fun y w' G' u1 u2 u3 => hnext _ _ G' (i + 1) (fin y w' G' (i + 1) (M.le.trans u1) u1.sub (.inr u1) u2 u3 (by omega) hiff' (aold G' u1))
end
end Go.EF
end

section
namespace Go.EF
open Go Go.RowKit

theorem countP_turn {p p' : Nat → Bool} {i : Nat} (hp : p i = true) (hp' : p' i = false) (hne : ∀ j, j ≠ i → p' j = p j) : ∀ n, i < n → (List.range n).countP p' + 1 = (List.range n).countP p
  | 0, h => by omega
  | n + 1, h => by
    rw [List.range_succ, List.countP_append, List.countP_append]
    by_cases hi : i = n
    · subst hi
      have : (List.range i).countP p' = (List.range i).countP p := by
        apply List.countP_congr
        intro j hj
        rw [hne j (by have := List.mem_range.1 hj; omega)]
      rw [this]; simp [hp, hp']
    · have := countP_turn hp hp' hne n (by omega)
      have e : [n].countP p' = [n].countP p := by simp [List.countP_cons, hne n (Ne.symm hi)]
      rw [e]; omega

theorem mapM_spec {α β : Type} {f : α → Option β} : ∀ {l : List α} {r : List β}, l.mapM f = some r → l.length = r.length ∧ ∀ (k : Nat) (b : β), r[k]? = some b → ∃ a, l[k]? = some a ∧ f a = some b
  | [], r, h => by simp at h; subst h; exact ⟨rfl, fun k b e => by simp at e⟩
  | x :: l, r, h => by
    simp only [List.mapM_cons, Option.bind_eq_bind, Option.bind_eq_some_iff, Option.pure_def, Option.some.injEq] at h
    obtain ⟨y, h1, r', h2, rfl⟩ := h
    obtain ⟨i1, i2⟩ := mapM_spec h2
    refine ⟨by simp [i1], fun k b e => ?_⟩
    cases k with
    | zero => simp at e; subst e; exact ⟨x, by simp, h1⟩
    | succ k => simp at e; obtain ⟨a, a1, a2⟩ := i2 k b e; exact ⟨a, by simpa using a1, a2⟩

section
variable {P : Program} {N : Nat} {ops : Array Oper} {gs : List GOp} {bss : List (List Nat)}

theorem wdraw_sound {fr : Nat → AV} {st : St} {K : (Nat → AV) → St → Prop} (hl : ops.toList.mapM (compOper P N ops) = some gs) (hok : drawOK (ops.toList.map directs) gs bss = true)
    (h : wdraw P bss (allocsOf st.next 0 gs) 0 gs fr (preSt st (allocsOf st.next 0 gs)) [] [] K) :
    ∃ fr' st', K fr' st' ∧ ∀ ro G D a w n (Q : Exit → Act → World → Prop), Ready P N ro G D fr st a w → (∀ a' w' G', G.le G' → Ready P N ro G' D fr' st' a' w' → Q .normal a' w') →
      wpAnyIn (wideAt ro) n P .any ops Q ops.size (Array.replicate ops.size false) a w := by
  obtain ⟨hlen, hop⟩ := mapM_spec hl
  have hop' : ∀ (k : Nat) (g : GOp), gs[k]? = some g → ∃ o, ops[k]? = some o ∧ compOper P N ops o = some g := fun k g e => by
    obtain ⟨o, h1, h2⟩ := hop k g e; exact ⟨o, by simpa using h1, h2⟩
  obtain ⟨X, S, F, hF0, hS0, hK, hT⟩ := wdraw_trace hop' gs 0 fr _ [] [] (fun k => by simp) h
  obtain ⟨d1, d2, d3, d4⟩ := drawOK_spec hok
  obtain ⟨al1, al2⟩ := allocsOf_spec gs st 0
  have T : Tr P N ops gs bss (allocsOf st.next 0 gs) st.next X S F := { len := by simpa using hlen, op := hop', step := fun k g e => hT k g (Nat.zero_le _) e, e1 := d1, e2 := d2, e3 := d3, e4 := d4, al := fun x hx => by obtain ⟨g1, g2, g3, g, g4, g5⟩ := al1 x hx; exact ⟨g2, by rw [hS0]; exact g3, g, by simpa using g4, g5⟩, alinj := al2 }
  rw [Nat.zero_add] at hK
  refine ⟨F gs.length, S gs.length, hK, fun ro G0 D a w n Q hr hq => ?_⟩
  -- its end
  have fin : ∀ (listed : Array Bool) (a : Act) (w : World) (G : Gh) (m : Nat), Mid N P gs (allocsOf st.next 0 gs) X S F G0 D (Lst listed) a w G m → (∀ k, k < ops.size → Lst listed k) → Q .normal a w := by
    intro listed a w G m M all
    have hall : ∀ (k : Nat) (g : GOp), gs[k]? = some g → Lst listed k := fun k g e => all k (by rw [T.len]; exact (List.getElem?_eq_some_iff.1 e).1)
    have hS : S m = S gs.length := T.sameS M.hm (Nat.le_refl _) fun k ⟨g, h1, h2⟩ => by
      have h3 := (M.eff k ⟨g, h1, h2⟩).1 (hall k g h1)
      have h4 := (List.getElem?_eq_some_iff.1 h1).1
      exact ⟨fun _ => h4, fun _ => h3⟩
    refine hq a w G M.le ⟨fun b e => M.le.lps _ (hr.1 b e), by rw [← hS]; exact M.rel, ⟨M.size, fun s => ?_⟩, fun r h => M.le.dfr r (hr.2.2.2.1 r h), M.dfr⟩
    rcases T.slot s gs.length (Nat.le_refl _) with ⟨k, g, h1, h2, h3, h4, h5⟩ | ⟨h1, h2⟩
    · rw [h4]
      exact M.last s k g h2 (hall k g h2) h3 fun k' g' e1 e2 _ => h5 k' g' e1 (List.getElem?_eq_some_iff.1 e2).1 e2
    · rw [h2]
      exact M.first s fun k g e1 _ => h1 k g (List.getElem?_eq_some_iff.1 e1).1 e1
  -- the run
  have run : ∀ (fuel : Nat) (listed : Array Bool) (a : Act) (w : World) (G : Gh) (m : Nat), listed.size = ops.size → (List.range ops.size).countP (fun k => !listed.getD k false) ≤ fuel →
      (∀ k, Lst listed k → ∀ j, (bss.getD k []).contains j = true → Lst listed j) → Mid N P gs (allocsOf st.next 0 gs) X S F G0 D (Lst listed) a w G m → wpAnyIn (wideAt ro) n P .any ops Q fuel listed a w := by
    intro fuel
    induction fuel with
    | zero =>
      intro listed a w G m hsz hcnt down M
      have all : ∀ k, k < ops.size → Lst listed k := fun k hk => by
        have := List.countP_eq_zero.1 (Nat.le_zero.1 hcnt) k (List.mem_range.2 hk)
        unfold Lst; simpa using this
      refine ⟨?_, ?_⟩
      · cases hrd : Region.ready .any ops listed with
        | nil => rfl
        | cons i r =>
          have hi : i ∈ Region.ready .any ops listed := by rw [hrd]; exact List.mem_cons_self ..
          obtain ⟨h0, o, ho, _⟩ := mem_ready.1 hi
          have hlt := (Array.getElem?_eq_some_iff.1 ho).1
          have := all i hlt
          unfold Lst at this
          simp only [Array.getD_eq_getD_getElem?] at h0 this
          rw [Array.getElem?_eq_getElem (by omega)] at h0 this
          simp at h0 this; rw [h0] at this; cases this
      · exact fin listed a w G m M all
    | succ fuel ih =>
      intro listed a w G m hsz hcnt down M
      refine ⟨fun hrd => ?_, fun i hi => ?_⟩
      · -- nothing is ready: all is done
        refine fin listed a w G m M fun k => ?_
        induction k using Nat.strongRecOn with
        | _ k ihk =>
          intro hk
          have hkg : k < gs.length := by rw [← T.len]; exact hk
          obtain ⟨o, ho, _⟩ := hop' k gs[k] (List.getElem?_eq_getElem hkg)
          cases hL : listed.getD k false with
          | true => exact hL
          | false =>
            have : k ∈ Region.ready .any ops listed := by
              refine mem_ready.2 ⟨?_, o, ho, fun e he hb => ?_⟩
              · simp only [Array.getD_eq_getD_getElem?] at hL ⊢
                rw [Array.getElem?_eq_getElem (by omega)] at hL ⊢
                simpa using hL
              · refine ihk e.on (d1 k hkg e.on ?_) ?_
                · have : (ops.toList.map directs)[k]? = some (directs o) := by simp [ho]
                  rw [List.getD_eq_getElem?_getD, this]
                  exact List.mem_map.2 ⟨e, List.mem_filter.2 ⟨by simpa using he, hb⟩, rfl⟩
                · have := d1 k hkg e.on (by
                    have : (ops.toList.map directs)[k]? = some (directs o) := by simp [ho]
                    rw [List.getD_eq_getElem?_getD, this]
                    exact List.mem_map.2 ⟨e, List.mem_filter.2 ⟨by simpa using he, hb⟩, rfl⟩)
                  omega
            rw [hrd] at this; cases this
      · obtain ⟨h0, o, ho, hedge⟩ := mem_ready.1 hi
        have hlt := (Array.getElem?_eq_some_iff.1 ho).1
        have hig : i < gs.length := by rw [← T.len]; exact hlt
        obtain ⟨o', ho', hc⟩ := hop' i gs[i] (List.getElem?_eq_getElem hig)
        rw [ho] at ho'; cases ho'
        have hnL : ¬ Lst listed i := by
          unfold Lst
          simp only [Array.getD_eq_getD_getElem?] at h0 ⊢
          rw [Array.getElem?_eq_getElem (by omega)] at h0 ⊢
          simp at h0 ⊢; exact h0
        have hdir : ∀ j ∈ (ops.toList.map directs).getD i [], Lst listed j := fun j hj => by
          have : (ops.toList.map directs)[i]? = some (directs o) := by simp [ho]
          rw [List.getD_eq_getElem?_getD, this] at hj
          obtain ⟨e, he, rfl⟩ := List.mem_map.1 hj
          obtain ⟨he1, he2⟩ := List.mem_filter.1 he
          exact hedge e (by simpa using he1) he2
        have hbef : ∀ j, (bss.getD i []).contains j = true → Lst listed j := fun j hj => by
          rcases d2 i hig j hj with h | ⟨k, h1, h2⟩
          · exact hdir j h
          · exact down k (hdir k h1) j h2
        have hL' : ∀ k, Lst (listed.setIfInBounds i true) k ↔ Lst listed k ∨ k = i := fun k => by
          unfold Lst
          by_cases hki : k = i
          · subst hki; simp [hsz, hlt]
          · rw [getD_set_ne false (Ne.symm hki)]; simp [hki]
        refine mid_step T (List.getElem?_eq_getElem hig) ho hc hnL hL' hbef down hr.2.1.nxeq.symm M ro n _ Q fun a' w' G' m' M' => ih _ a' w' G' m' (by simp [hsz]) ?_ ?_ M'
        · have := countP_turn (p := fun k => !listed.getD k false) (p' := fun k => !(listed.setIfInBounds i true).getD k false) (i := i) (by unfold Lst at hnL; simpa using hnL) (by simp [hsz, hlt]) (fun j hj => by rw [getD_set_ne false (Ne.symm hj)]) ops.size hlt
          omega
        · intro k hk j hj
          rcases (hL' k).1 hk with h | rfl
          · exact (hL' j).2 (.inl (down k h j hj))
          · exact (hL' j).2 (.inl (hbef j hj))
  -- its start
  obtain ⟨G1, k1, k2, k3, k4, k5⟩ := preSt_rel (allocsOf st.next 0 gs) hr.2.1
  have nobody : ∀ k, ¬ Lst (Array.replicate ops.size false) k := fun k h => by
    unfold Lst at h
    simp only [Array.getD_eq_getD_getElem?, Array.getElem?_replicate] at h
    split at h <;> simp at h
  refine run ops.size _ a w G1 0 (by simp) ?_ (fun k hk => absurd hk (nobody k)) { le := k1, rel := by rw [hS0]; exact k2, eff := fun k _ => ⟨fun h => absurd h (nobody k), fun h => by omega⟩, hm := Nat.zero_le _, size := hr.2.2.1.1, dfr := hr.2.2.2.2.mono k1, als := ?_, last := fun s k g e1 e2 => absurd e2 (nobody k), first := fun s _ => ?_ }
  · have := List.countP_le_length (p := fun k => !(Array.replicate ops.size false).getD k false) (l := List.range ops.size)
    simpa using this
  · intro x hx _
    rw [k3]
    obtain ⟨_, g2, _⟩ := al1 x hx
    cases hm : G0.mu x.2.1 with
    | none => rfl
    | some b => have := hr.2.1.dom _ _ hm; omega
  · rw [hF0]; exact (hr.2.2.1.2 s).mono k1
end
end Go.EF
end

section
namespace Go.EF
open Go Go.RowKit

section
variable {P : Program} {G : Gh} {st : St} {w : World}

theorem Rel.shrink (h : Rel P G st w) (D : List Nat) (hD : ∀ r ∈ D, r ∈ G.dfr) : Rel P { G with dfr := D } st w := by
  have hs : G.sub { G with dfr := D } := ⟨fun _ _ e => e, fun _ _ _ e => e, fun _ _ e => e⟩
  refine { nxeq := h.nxeq, below := h.below, dom := h.dom, adom := h.adom, inj := h.inj, fresh := h.fresh, obj := ?_, fzok := h.fzok, fzmu := h.fzmu, arr := h.arr, arrinj := h.arrinj, dfr := fun r hr => h.dfr r (hD r hr), lps := h.lps }
  intro a o b e hb
  have := h.obj a o b e hb
  cases o with
  | cells cs => obtain ⟨b, vs, t, h1, h2, h3⟩ := this; exact ⟨b, vs, t, h1, h2, VRels.mono' hs _ _ h3⟩
  | vec cs => obtain ⟨b, vs, t, h1, h2, h4, h3⟩ := this; exact ⟨b, vs, t, h1, h2, h4, VRels.mono' hs _ _ h3⟩
  | arr => trivial
  | map es clock =>
    obtain ⟨b, rs, h1, h2, h3⟩ := this
    refine ⟨b, rs, h1, h2, ?_⟩
    clear h2 e
    revert h3; generalize rs.toList = l
    induction es generalizing l with
    | nil => exact id
    | cons e es ih => rintro ⟨r, rs', e1, e2, e3, e4, e5⟩; exact ⟨r, rs', e1, e2, e3, VRel.mono' hs _ _ e4, ih _ e5⟩
  | sit s pos => exact this
  | loop s p fr N ps asg body =>
    obtain ⟨b, rec, h1, h2, h3, h4, h5, h6, h7, h8, h9⟩ := this
    exact ⟨b, rec, h1, h2, h3, h4, h5, h6, h7, ⟨h8.1, fun i => VRel.mono' hs _ _ (h8.2 i)⟩, h9⟩

/-- A block of deferred calls that nothing stands for any more is shut. -/
theorem Rel.put_def (h : Rel P G st w) {r : Nat} {x y : Option (List Deferred)} (hr : w.heap[r]? = some (.deferred x)) (hn : r ∉ G.dfr) (hb : ¬ G.w0.kp r) : Rel P G st (w.putObj r (.deferred y)) := by
  have hold : ∀ k, k ≠ r → (w.putObj r (.deferred y)).heap[k]? = w.heap[k]? := fun k hk => World.putObj_heap_other hk
  have hne : ∀ k o, w.heap[k]? = some o → (∀ z, o ≠ .deferred z) → k ≠ r := fun k o e hz eb => by subst eb; rw [hr] at e; cases e; exact hz _ rfl
  refine { nxeq := h.nxeq, below := ?_, dom := h.dom, adom := h.adom, inj := h.inj, fresh := fun a b e => by rw [World.putObj_size]; exact h.fresh a b e, obj := ?_, fzok := ?_, fzmu := h.fzmu, arr := ?_, arrinj := h.arrinj, dfr := ?_, lps := ?_ }
  · exact h.below.step rfl rfl rfl (by simp) fun k hk => hold k (fun e => hb (e ▸ hk))
  · intro a o bo e hbo
    have hob := h.obj a o bo e hbo
    cases o with
    | arr l s => trivial
    | cells cs => exact hob.mono (.refl _) fun b hmu => hold b (by obtain ⟨b', vs, t, h1, h2, h3⟩ := hob; rw [hmu] at h1; cases h1; exact hne _ _ h2 (by intro z e; cases e))
    | vec cs => exact hob.mono (.refl _) fun b hmu => hold b (by obtain ⟨b', vs, t, h1, h2, h3⟩ := hob; rw [hmu] at h1; cases h1; exact hne _ _ h2 (by intro z e; cases e))
    | map es c => exact hob.mono (.refl _) fun b hmu => hold b (by obtain ⟨b', rs, h1, h2, h3⟩ := hob; rw [hmu] at h1; cases h1; exact hne _ _ h2 (by intro z e; cases e))
    | sit => exact hob.mono (.refl _) fun b hmu => hold b (by obtain ⟨b', h1, h2⟩ := hob; rw [hmu] at h1; cases h1; exact hne _ _ h2 (by intro z e; cases e))
    | loop => exact hob.mono (.refl _) fun b hmu => hold b (by obtain ⟨b', rec, h1, h2, h3⟩ := hob; rw [hmu] at h1; cases h1; exact hne _ _ h2 (by intro z e; cases e))
  · intro b o y e
    obtain ⟨vs, t, fr, h1, h2⟩ := h.fzok b o y e
    exact ⟨vs, t, fr, by rw [hold b (hne _ _ h1 (by intro z e; cases e))]; exact h1, h2⟩
  · intro a sz e
    obtain ⟨b, n, cap, vs, t, h1, h2, h3⟩ := h.arr a sz e
    exact ⟨b, n, cap, vs, t, h1, by rw [hold b (hne _ _ h2 (by intro z e; cases e))]; exact h2, h3⟩
  · intro k hk
    obtain ⟨h1, h2⟩ := h.dfr k hk
    exact ⟨h1, by rw [hold k (fun e => hn (by rw [← e]; exact hk))]; exact h2⟩
  · intro k hk
    obtain ⟨h1, rec, h2⟩ := h.lps k hk
    exact ⟨h1, rec, by rw [hold k (hne _ _ h2 (by intro z e; cases e))]; exact h2⟩

theorem Rel.more (h : Rel P G st w) (ds ls : List Nat) (hd : ∀ r ∈ ds, ¬ G.w0.kp r ∧ w.heap[r]? = some (.deferred (some []))) (hl : ∀ r ∈ ls, ¬ G.w0.kp r ∧ ∃ rec, w.heap[r]? = some (.loop rec)) :
    G.le { G with dfr := ds ++ G.dfr, lps := ls ++ G.lps } ∧ Rel P { G with dfr := ds ++ G.dfr, lps := ls ++ G.lps } st w := by
  have hle : G.le { G with dfr := ds ++ G.dfr, lps := ls ++ G.lps } := ⟨rfl, Nat.le_refl _, fun _ _ => rfl, fun _ _ e => e, fun _ _ _ e => e, fun _ _ e => e, fun _ e => List.mem_append.2 (.inr e), fun _ e => List.mem_append.2 (.inr e)⟩
  refine ⟨hle, { nxeq := h.nxeq, below := h.below, dom := h.dom, adom := h.adom, inj := h.inj, fresh := h.fresh, obj := fun a o b e hb => (h.obj a o b e hb).mono hle fun _ _ => rfl, fzok := h.fzok, fzmu := h.fzmu, arr := h.arr, arrinj := h.arrinj, dfr := ?_, lps := ?_ }⟩
  · intro r hr
    rcases List.mem_append.1 hr with hr | hr
    · exact hd r hr
    · exact h.dfr r hr
  · intro r hr
    rcases List.mem_append.1 hr with hr | hr
    · exact hl r hr
    · exact h.lps r hr
end

section
variable {P : Program} {N : Nat}

theorem wops_sound {ops : Array Oper} : ∀ (l : List GOp) (i : Nat), (ops.toList.drop i).mapM (compOper P N ops) = some l → ∀ fr st K, wops P l fr st K →
    ∃ fr' st', K fr' st' ∧ ∀ ro G D a w n (Q : Exit → Act → World → Prop), Ready P N ro G D fr st a w → (∀ a' w' G', G.le G' → Ready P N ro G' D fr' st' a' w' → Q .normal a' w') →
      wpOpsIn (wideAt ro) n P ops Q (List.range' i (ops.size - i)) a w
  | [], i, h, fr, st, K, hk => by
    have hd : ops.toList.drop i = [] := by
      cases hd : ops.toList.drop i with
      | nil => rfl
      | cons o r => rw [hd] at h; simp only [List.mapM_cons, Option.bind_eq_bind, Option.bind_eq_some_iff, Option.pure_def, Option.some.injEq] at h; obtain ⟨_, _, _, _, e⟩ := h; cases e
    have hs : ops.size - i = 0 := by have := congrArg List.length hd; simpa using this
    refine ⟨fr, st, hk, fun ro G D a w n Q hr hq => ?_⟩
    rw [hs]; exact hq a w G (.refl _) hr
  | g :: l, i, h, fr, st, K, hk => by
    cases hd : ops.toList.drop i with
    | nil => rw [hd] at h; simp at h
    | cons o r =>
      rw [hd] at h
      simp only [List.mapM_cons, Option.bind_eq_bind, Option.bind_eq_some_iff, Option.pure_def, Option.some.injEq] at h
      obtain ⟨g', h1, l', h2, e⟩ := h
      simp only [List.cons.injEq] at e; obtain ⟨rfl, rfl⟩ := e
      have hlt : i < ops.size := by
        have := congrArg List.length hd; simp at this; omega
      have ho : ops[i]? = some o := by
        have := congrArg (·[0]?) hd
        simpa [List.getElem?_drop] using this
      have hdr : ops.toList.drop (i + 1) = r := by
        have := congrArg (List.drop 1) hd
        simpa [List.drop_drop] using this
      have hrange : List.range' i (ops.size - i) = i :: List.range' (i + 1) (ops.size - (i + 1)) := by
        rw [show ops.size - i = (ops.size - (i + 1)) + 1 from by omega, List.range'_succ]
      have ih := wops_sound l' (i + 1) (by rw [hdr]; exact h2)
      have hgd : g'.guard = match o.guard with | none => none | some (j, want) => ((ops[j]?).bind (·.dst)).map fun d => (d, want) := by
        unfold compOper at h1
        split at h1
        · split at h1
          · cases ho : o.guard with
            | none => rw [ho] at h1; simp at h1; rw [← h1]
            | some jw =>
              obtain ⟨j, want⟩ := jw
              rw [ho] at h1
              simp only at h1
              split at h1
              · rename_i d hd; cases h1; simp [hd]
              · cases h1
          · cases h1
        · cases h1
      have hdst : g'.dst = o.dst ∧ dstOK N o.dst = true := by
        unfold compOper at h1
        split at h1
        · rename_i hd
          split at h1
          · split at h1
            · cases h1; exact ⟨rfl, hd⟩
            · split at h1
              · cases h1; exact ⟨rfl, hd⟩
              · cases h1
          · cases h1
        · cases h1
      -- it runs
      have runs : wop P g'.op fr st (fun x st' => wops P l' (updo fr g'.dst x) st' K) → (∀ a : Act, ∀ G, FrRel G N fr a.tmps → Region.wanted o (yielded ops a.tmps) = true) →
          ∃ fr' st', K fr' st' ∧ ∀ ro G D a w n (Q : Exit → Act → World → Prop), Ready P N ro G D fr st a w → (∀ a' w' G', G.le G' → Ready P N ro G' D fr' st' a' w' → Q .normal a' w') →
            wpOpsIn (wideAt ro) n P ops Q (List.range' i (ops.size - i)) a w := by
        intro hw hwant
        obtain ⟨x, st1, hk1, hs1⟩ := wop_sound h1 hw
        obtain ⟨fr', st', hK, hs2⟩ := ih _ _ _ hk1
        refine ⟨fr', st', hK, fun ro G D a w n Q hr hq => ?_⟩
        rw [hrange]
        simp only [wpOpsIn, ho, hwant a G hr.2.2.1, if_true]
        exact hs1 ro G D a w n _ Q hr fun a' w' G' hle hr' => hs2 ro G' D a' w' n Q hr' fun a2 w2 G2 hle2 hr2 => hq a2 w2 G2 (hle.trans hle2) hr2
      have skips : wops P l' (updo fr g'.dst (.tup [])) st K → (∀ a : Act, ∀ G, FrRel G N fr a.tmps → Region.wanted o (yielded ops a.tmps) = false) →
          ∃ fr' st', K fr' st' ∧ ∀ ro G D a w n (Q : Exit → Act → World → Prop), Ready P N ro G D fr st a w → (∀ a' w' G', G.le G' → Ready P N ro G' D fr' st' a' w' → Q .normal a' w') →
            wpOpsIn (wideAt ro) n P ops Q (List.range' i (ops.size - i)) a w := by
        intro hw hwant
        obtain ⟨fr', st', hK, hs2⟩ := ih _ _ _ hw
        refine ⟨fr', st', hK, fun ro G D a w n Q hr hq => ?_⟩
        rw [hrange]
        simp only [wpOpsIn, ho, hwant a G hr.2.2.1, Bool.false_eq_true, if_false]
        refine ⟨fun _ _ => trivial, ?_⟩
        refine hs2 ro G D _ w n Q ?_ hq
        rw [hdst.1]
        exact hr.next (.refl _) hr.2.1 (hr.2.2.1.put hdst.2 (by simp [VRel, VRels, undef])) (by rw [put_defers]; exact hr.2.2.2.2)
      simp only [wops] at hk
      split at hk
      · rename_i hg
        refine runs hk fun a G hF => ?_
        rw [hg] at hgd
        unfold Region.wanted
        split at hgd
        · rename_i e; rw [e]
        · rename_i j want e; rw [e]; cases hj : (ops[j]?).bind (·.dst) with
          | none => unfold compOper at h1; split at h1 <;> (try split at h1) <;> (try simp [e, hj] at h1)
          | some d => rw [hj] at hgd; simp at hgd
      · rename_i d want hg
        have hguard : ∃ j, o.guard = some (j, want) ∧ (ops[j]?).bind (·.dst) = some d := by
          rw [hg] at hgd
          split at hgd
          · cases hgd
          · rename_i j want' e
            rw [eq_comm, Option.map_eq_some_iff] at hgd
            obtain ⟨d', e1, e2⟩ := hgd
            simp only [Prod.mk.injEq] at e2; obtain ⟨rfl, rfl⟩ := e2
            exact ⟨j, e, e1⟩
        obtain ⟨j, hj1, hj2⟩ := hguard
        have hy : ∀ (b : Bool), fr d = .v (.bool b) → ∀ a : Act, ∀ G, FrRel G N fr a.tmps → Region.wanted o (yielded ops a.tmps) = (b == want) := by
          intro b hb a G hF
          have hv := hF.2 d
          rw [hb] at hv; simp only [VRel] at hv
          have ht : a.tmps[d]? = some (.bool b) := by
            rw [Array.getD_eq_getD_getElem?] at hv
            cases he : a.tmps[d]? with
            | none => rw [he] at hv; simp [undef] at hv
            | some y => rw [he] at hv; simpa using hv
          simp [Region.wanted, hj1, yielded, hj2, ht]
        split at hk
        · rename_i b hb
          split at hk
          · rename_i hbw; exact runs hk fun a G hF => by rw [hy b hb a G hF, hbw]; simp
          · rename_i hbw; exact skips hk fun a G hF => by rw [hy b hb a G hF]; simpa using hbw
        · rename_i hb
          refine skips hk fun a G hF => ?_
          have hv := hF.2 d
          rw [hb] at hv; simp only [VRel, VRels] at hv
          obtain ⟨ys, e1, e2⟩ := hv
          have hu : a.tmps.getD d undef = undef := by rw [e1]; unfold undef; congr; exact Array.toList_eq_nil_iff.1 e2
          have hall : ∀ b, ((ops[j]?).bind (·.dst)).bind (a.tmps[·]?) ≠ some (.bool b) := fun b e => by
            rw [hj2] at e
            simp only [Option.bind_some] at e
            rw [Array.getD_eq_getD_getElem?, e] at hu
            simp [undef] at hu
          have hyl : yielded ops a.tmps j = none := by
            unfold yielded
            split
            · rename_i b hb; exact absurd hb (hall b)
            · rfl
          unfold Region.wanted
          rw [hj1]
          simp only [hyl]
          cases want <;> rfl
        · exact hk.elim

theorem post_trans {G G' : Gh} {D : List Nat} {x : Jmp} {fr : Nat → AV} {st : St} {e : Exit} {a : Act} {w : World} (hle : G.le G') (h : Post P N G' D x fr st e a w) : Post P N G D x fr st e a w :=
  let ⟨h1, G2, h2, h3⟩ := h; ⟨h1, G2, hle.trans h2, h3⟩

theorem post_ready {ro : Option Nat} {G : Gh} {D : List Nat} {fr fr' : Nat → AV} {st st' : St} {e : Exit} {a a' : Act} {w w' : World} {x : Jmp} (hr : Ready P N ro G D fr st a w) (h : Post P N G D x fr' st' e a' w') :
    e = x.toExit ∧ ∃ G', G.le G' ∧ Ready P N ro G' D fr' st' a' w' :=
  let ⟨h1, G2, h2, h3, h4, h5⟩ := h; ⟨h1, G2, h2, hr.next h2 h3 h4 h5⟩

theorem ready_post {ro : Option Nat} {G : Gh} {D : List Nat} {fr : Nat → AV} {st : St} {a : Act} {w : World} {x : Jmp} (hr : Ready P N ro G D fr st a w) : Post P N G D x fr st x.toExit a w :=
  ⟨rfl, G, .refl _, hr.2.1, hr.2.2.1, hr.2.2.2.2⟩

theorem wpIn_scope {F : Fence} {n : Nat} {Q : Exit → Act → World → Prop} {a : Act} {w : World} {c : Code} (h : c.wpIn F n P Q a w) (hQ : ∀ l a w, ¬ Q (.goto l) a w) : (Code.scope c).wpIn F n P Q a w := by
  intro b k cs hro hb hr
  have h0 : (lone (b.atR a (.code (.scope c) :: k)) cs w).fenced P F := fenced_calm hb hr rfl
  have s0 : step P (lone (b.atR a (.code (.scope c) :: k)) cs w) = .next (lone (b.atR a (.code c :: .inScope c :: k)) cs w) := step_lone_go (by simp [stepG, stepG.exec, Frame.atR])
  have s1 : ∀ (a : Act) (w : World), step P (lone (b.atR a (.inScope c :: k)) cs w) = .next (lone (b.atR a k) cs w) := fun a w => step_lone_go (by simp [stepG, stepG.exec, Frame.atR])
  obtain ⟨e, a₁, w₁, hq, harr⟩ := h b (.inScope c :: k) cs hro hb hr
  cases e with
  | normal => exact ⟨.normal, a₁, w₁, hq, .head h0 s0 (StepsIn.trans harr (.one (fenced_calm hb hr rfl) (s1 a₁ w₁)))⟩
  | exit id =>
    have hx : exitTo id (.inScope c :: k) = exitTo id k := by simp [exitTo]
    exact ⟨_, a₁, w₁, hq, fun k' hk => .head h0 s0 (harr.1 k' (by rw [hx]; exact hk)), fun hr' hk => let ⟨k₁, h1, h2⟩ := harr.2 hr' (by rw [hx]; exact hk); ⟨k₁, h1, .head h0 s0 h2⟩⟩
  | goto l => exact absurd hq (hQ _ _ _)
  | ret => exact ⟨_, a₁, w₁, hq, .of_steps (.one h0 s0) harr⟩
  | panic ch => exact ⟨_, a₁, w₁, hq, .of_steps (.one h0 s0) harr⟩
  | outgrown => exact ⟨_, a₁, w₁, hq, .of_steps (.one h0 s0) harr⟩

theorem loop_obj_new {G : Gh} {st : St} {w : World} (hR : Rel P G st w) {fr : Nat → AV} {tmps : Array Value} (hF : FrRel G N fr tmps) {ps : Array Nat} (asg body : Code) (h3 : ps.toList.all (· < N) = true) (fn d : Nat) :
    ∃ G', G.le G' ∧ Rel P G' (st.alloc (.loop .ready none fr N ps.toList asg body)) (w.alloc (.loop { state := .ready, pending := none, fn, tmps, params := ps, assign := asg, body, defers := d })) ∧ G'.mu st.next = some w.heap.size ∧ G'.dfr = G.dfr ∧ w.heap.size ∈ G'.lps := by
  obtain ⟨G1, k1, k2, k3, k4, k5⟩ := hR.alloc_obj (.loop .ready none fr N ps.toList asg body) (.loop { state := .ready, pending := none, fn, tmps, params := ps, assign := asg, body, defers := d }) (by intro l s e; cases e)
    (fun G' hle hmu => ⟨_, _, hmu, World.alloc_heap_new _ _, rfl, rfl, rfl, rfl, rfl, hF.mono hle, h3⟩)
  obtain ⟨m1, m2⟩ := k2.more [] [w.heap.size] (by simp) (by
    intro r hr; simp at hr; subst hr
    exact ⟨by rw [k1.w0]; exact hR.hsize, _, World.alloc_heap_new _ _⟩)
  exact ⟨_, k1.trans m1, m2, k3, k4, by simp⟩

theorem wc_sound : ∀ (c : Code) (cc : CC), comp P N c = some cc → ∀ fr st Q, wc P N cc fr st Q → WCs P N c fr st Q
  | .skip, cc, hc, fr, st, Q, h => by
    simp only [comp, Option.some.injEq] at hc; subst hc
    exact ⟨.normal, fr, st, h, fun ro G D a w n hr => wpIn_skip (ready_post hr)⟩
  | .label l, cc, hc, fr, st, Q, h => by
    simp only [comp, Option.some.injEq] at hc; subst hc
    exact ⟨.normal, fr, st, h, fun ro G D a w n hr => wpIn_label (ready_post hr)⟩
  | .exit id, cc, hc, fr, st, Q, h => by
    simp only [comp, Option.some.injEq] at hc; subst hc
    exact ⟨.exit id, fr, st, h, fun ro G D a w n hr => wpIn_exit (ready_post (x := .exit id) hr)⟩
  | .ret, cc, hc, fr, st, Q, h => by
    simp only [comp, Option.some.injEq] at hc; subst hc
    exact ⟨.ret, fr, st, h, fun ro G D a w n hr => wpIn_ret (ready_post (x := .ret) hr)⟩
  | .goto l, cc, hc, fr, st, Q, h => by simp [comp] at hc
  | .refuse l, cc, hc, fr, st, Q, h => by simp [comp] at hc
  | .region id ops draw, cc, hc, fr, st, Q, h => by
    simp only [comp] at hc
    split at hc
    · rename_i l hl
      cases draw with
      | true =>
        simp only [if_true] at hc
        split at hc
        · rename_i hok
          simp only [Option.some.injEq] at hc; subst hc
          simp only [Bool.and_eq_true] at hok
          obtain ⟨fr', st', hK, hs⟩ := wdraw_sound hl hok.2 h
          refine ⟨.normal, fr', st', hK, fun ro G D a w n hr => wpIn_region_any hok.1 ?_⟩
          exact hs ro G D a _ n (Post P N G D .normal fr' st') ⟨hr.1, hr.2.1.drewN 1, hr.2.2⟩ fun a' w' G' hle hr' => post_trans hle (ready_post hr')
        · cases hc
      | false =>
        simp at hc; subst hc
        obtain ⟨fr', st', hK, hs⟩ := wops_sound (ops := ops) l 0 (by simpa using hl) fr st _ h
        refine ⟨.normal, fr', st', hK, fun ro G D a w n hr => wpIn_region ?_⟩
        have := hs ro G D a w n (Post P N G D .normal fr' st') hr fun a' w' G' hle hr' => post_trans hle (ready_post hr')
        rwa [Nat.sub_zero, ← List.range_eq_range'] at this
    · cases hc
  | .seq x y, cc, hc, fr, st, Q, h => by
    simp only [comp] at hc
    split at hc
    · rename_i cx cy hx hy; cases hc
      obtain ⟨j, fr1, st1, hq, hs1⟩ := wc_sound x cx hx fr st _ h
      by_cases hj : j = .normal
      · subst hj
        simp only [if_true] at hq
        obtain ⟨j2, fr2, st2, hq2, hs2⟩ := wc_sound y cy hy fr1 st1 _ hq
        refine ⟨j2, fr2, st2, hq2, fun ro G D a w n hr => wpIn_seq (wpIn_mono (hs1 ro G D a w n hr) ?_)⟩
        intro e a' w' hp
        obtain ⟨rfl, G', hle, hr'⟩ := post_ready hr hp
        exact wpIn_mono (hs2 ro G' D a' w' n hr') fun e a w hp => post_trans hle hp
      · rw [if_neg hj] at hq
        refine ⟨j, fr1, st1, hq, fun ro G D a w n hr => wpIn_seq (wpIn_mono (hs1 ro G D a w n hr) ?_)⟩
        intro e a' w' hp
        obtain ⟨rfl, _⟩ := _root_.id hp
        cases j with
        | normal => exact absurd rfl hj
        | ret => exact hp
        | exit id => exact hp
    · cases hc
  | .cond c x y, cc, hc, fr, st, Q, h => by
    simp only [comp] at hc
    split at hc
    · rename_i cc' cx cy h1 hx hy; cases hc
      simp only [wc] at h
      split at h
      · rename_i hb
        obtain ⟨j, fr1, st1, hq, hs1⟩ := wc_sound x cx hx fr st _ h
        refine ⟨j, fr1, st1, hq, fun ro G D a w n hr => wpIn_cond_true ?_ (hs1 ro G D a w n hr)⟩
        have := opd_rel (a := a) h1 hr.2.2.1; rw [hb] at this; simpa [VRel] using this
      · rename_i hb
        obtain ⟨j, fr1, st1, hq, hs1⟩ := wc_sound y cy hy fr st _ h
        refine ⟨j, fr1, st1, hq, fun ro G D a w n hr => wpIn_cond_false ?_ (hs1 ro G D a w n hr)⟩
        have := opd_rel (a := a) h1 hr.2.2.1; rw [hb] at this; simpa [VRel] using this
      · exact h.elim
    · cases hc
  | .block id c, cc, hc, fr, st, Q, h => by
    simp only [comp, Option.map_eq_some_iff] at hc; obtain ⟨c', h1, rfl⟩ := hc
    obtain ⟨j, fr1, st1, hq, hs1⟩ := wc_sound c c' h1 fr st _ h
    by_cases hj : j = .exit id
    · rw [if_pos hj] at hq
      refine ⟨.normal, fr1, st1, hq, fun ro G D a w n hr => wpIn_block (wpIn_mono (hs1 ro G D a w n hr) ?_)⟩
      intro e a' w' hp
      obtain ⟨he, G', hp⟩ := hp
      subst hj; subst he
      simp only [Jmp.toExit, Exit.inBlock, if_true]
      exact ⟨rfl, G', hp⟩
    · rw [if_neg hj] at hq
      refine ⟨j, fr1, st1, hq, fun ro G D a w n hr => wpIn_block (wpIn_mono (hs1 ro G D a w n hr) ?_)⟩
      intro e a' w' hp
      obtain ⟨rfl, _⟩ := _root_.id hp
      cases j with
      | normal => exact hp
      | ret => exact hp
      | exit id' =>
        simp only [Jmp.toExit, Exit.inBlock]
        rw [if_neg (fun e => hj (by rw [e]))]
        exact hp
  | .scope c, cc, hc, fr, st, Q, h => by
    simp only [comp] at hc
    obtain ⟨j, fr1, st1, hq, hs1⟩ := wc_sound c cc hc fr st _ h
    refine ⟨j, fr1, st1, hq, fun ro G D a w n hr => wpIn_scope (hs1 ro G D a w n hr) ?_⟩
    rintro l a' w' ⟨e, _⟩
    cases j <;> cases e
  | .loop c, cc, hc, fr, st, Q, h => by
    simp only [comp, Option.map_eq_some_iff] at hc; obtain ⟨c', h1, rfl⟩ := hc
    simp only [wc] at h
    have key := h (fun fr st => ∃ m x fr' st', Q x fr' st' ∧ ∀ ro G0 G D a w n, G0.le G → Ready P N ro G D fr st a w → Code.roundsIn (wideAt ro) n P c (Post P N G0 D x fr' st') m a w) ?_
    · obtain ⟨m, x, fr', st', hq, hs⟩ := key
      exact ⟨x, fr', st', hq, fun ro G D a w n hr => wpIn_loop_rounds m (hs ro G G D a w n (.refl _) hr)⟩
    · intro fr st hw
      obtain ⟨j, fr1, st1, hq, hs1⟩ := wc_sound c c' h1 fr st _ hw
      by_cases hj : j = .normal
      · subst hj
        simp only [if_true] at hq
        obtain ⟨m, x, fr', st', hq', hs⟩ := hq
        refine ⟨m + 1, x, fr', st', hq', fun ro G0 G D a w n hle hr => ?_⟩
        rw [roundsIn_succ]
        refine wpIn_mono (hs1 ro G D a w n hr) ?_
        intro e a' w' hp
        obtain ⟨rfl, G', hle', hr'⟩ := post_ready hr hp
        exact hs ro G0 G' D a' w' n (hle.trans hle') hr'
      · rw [if_neg hj] at hq
        refine ⟨1, j, fr1, st1, hq, fun ro G0 G D a w n hle hr => ?_⟩
        rw [roundsIn_succ]
        refine wpIn_mono (hs1 ro G D a w n hr) ?_
        intro e a' w' hp
        obtain ⟨rfl, _⟩ := _root_.id hp
        cases j with
        | normal => exact absurd rfl hj
        | ret => exact post_trans hle hp
        | exit id => exact post_trans hle hp
  | .rangeFunc f ps asg body, cc, hc, fr, st, Q, h => by
    simp only [comp] at hc
    split at hc
    · rename_i f' ca cb hf ha hb
      split at hc
      · rename_i hps; cases hc
        simp only [wc] at h
        split at h
        · rename_i g first cap hfv
          obtain ⟨r, st2, ⟨s, pend, fr1, N1, ps1, a1, b1, hget, hbusy, hq⟩, hcf, hcs⟩ := h
          refine ⟨_, fr, _, hq, fun ro G D a w n hr => wpIn_rangeFunc ?_⟩
          intro fn _
          have hv := opd_rel (a := a) hf hr.2.2.1
          rw [hfv] at hv; simp only [VRel] at hv
          obtain ⟨fa, capv, hev, rfirst, rcap⟩ := hv
          -- the record is laid
          have lay : ∃ (l : Nat) (mark : List Deferred) (w1 : World) (G1 : Gh), (Instr.enterLoop fn a.tmps ps asg body (wideAt ro).round).run P w = .ok (l, mark) w1 ∧ G.le G1 ∧ Rel P G1 (st.alloc (.loop .ready none fr N ps.toList asg body)) w1 ∧
              G1.mu st.next = some l ∧ DfrOK G1 D (mark ++ a.defers) := by
            cases ro with
            | none =>
              obtain ⟨rs, d1, d2, d3⟩ := hr.2.2.2.2
              have hR1 := hr.2.1.alloc_world (.deferred (some []))
              obtain ⟨m1, m2⟩ := hR1.more [w.heap.size] [] (by
                intro x hx; simp at hx; subst hx
                exact ⟨hr.2.1.hsize, World.alloc_heap_new _ _⟩) (by simp)
              obtain ⟨G', k1, k2, k3, k4, k5⟩ := loop_obj_new m2 (hr.2.2.1.mono m1) asg body hps fn w.heap.size
              refine ⟨_, _, _, G', run_enterLoop_outer _ _ _ _ _, m1.trans k1, k2, by rw [k3]; simp, w.heap.size :: rs, ?_, ?_, by rw [d3]; rfl⟩
              · refine List.nodup_cons.2 ⟨fun hm => ?_, d1⟩
                have := (Array.getElem?_eq_some_iff.1 (hr.2.1.dfr _ (d2 _ hm).1).2).1; omega
              · intro x hx
                rcases List.mem_cons.1 hx with rfl | hx
                · refine ⟨by rw [k4]; simp, fun hD => ?_⟩
                  have := (Array.getElem?_eq_some_iff.1 (hr.2.1.dfr _ (hr.2.2.2.1 _ hD)).2).1; omega
                · exact ⟨by rw [k4]; exact List.mem_append.2 (.inr (d2 x hx).1), (d2 x hx).2⟩
            | some b =>
              obtain ⟨_, rec, hrec⟩ := hr.2.1.lps b (hr.1 b rfl)
              obtain ⟨G', k1, k2, k3, k4, k5⟩ := loop_obj_new hr.2.1 hr.2.2.1 asg body hps fn rec.defers
              exact ⟨_, _, _, G', run_enterLoop_inner hrec _ _ _ _ _, k1, k2, k3, by simpa using hr.2.2.2.2.mono k1⟩
          obtain ⟨l, mark, w1, G1, e1, hle1, hR1, hmu1, hd1⟩ := lay
          refine ⟨l, mark, w1, { target := .fn (.func g) capv, args := fa ++ #[.func (.yield l) #[] #[]] }, w1, g, fa ++ #[.func (.yield l) #[] #[]] ++ capv, w1, e1, ?_, fun _ _ => trivial, ?_, fun hdep => by simp [wideAt, Fence.wide] at hdep, ?_⟩
          · simp only [resolve, hev, Deferred.ofValue]
            simp [Act.eval]
          · simp only [invoke, hcf]
          · rw [callsIn_at]
            refine (hcs G1 w1 _ (n - 1) hR1 ?_).mono ?_
            · have hy : VRels G1 [AV.yld st.next] [Value.func (.yield l) #[] #[]] := by simp [VRels, VRel, hmu1]
              simpa using ((rfirst.mono hle1).append hy).append (rcap.mono hle1)
            · rintro e w' ⟨v, G', rfl, k1, k2, k3, k4⟩
              have hob := k3.obj _ _ _ hget (k1.mu _ _ hmu1)
              obtain ⟨b', rec, q1, q2, q3, q4, q5, q6, q7, q8, q9⟩ := hob
              have hmu' := k1.mu _ _ hmu1
              rw [hmu'] at q1; cases q1
              refine ⟨pend.map Jmp.code, _, by rw [← q4]; exact run_endLoop q2 (by rw [q3]; exact hbusy), ?_⟩
              have hR2 : Rel P G' (st2.set st.next (.loop .exhausted pend fr1 N1 ps1 a1 b1)) (w'.putObj l (.loop { rec with state := .exhausted })) :=
                k3.put_obj _ _ hmu' (by intro l s e; cases e) ⟨l, _, hmu', World.putObj_heap_same (Array.getElem?_eq_some_iff.1 q2).1, rfl, q4, q5, q6, q7, q8, q9⟩ (fun rec e => ⟨_, rfl⟩) (fun d e => by rw [q2] at e; cases e)
              have hp : ∀ x : Jmp, Post P N G D x fr (st2.set st.next (.loop .exhausted pend fr1 N1 ps1 a1 b1)) x.toExit { a with defers := mark ++ a.defers } (w'.putObj l (.loop { rec with state := .exhausted })) := fun x =>
                ⟨rfl, G', hle1.trans k1, hR2, (hr.2.2.1.mono hle1).mono k1, hd1.mono k1⟩
              cases pend with
              | none => exact hp .normal
              | some j =>
                cases j with
                | normal => exact wpIn_skip (hp .normal)
                | ret => exact wpIn_ret (hp .ret)
                | exit id => exact wpIn_exit (hp (.exit id))
        · exact h.elim
      · cases hc
    · cases hc
end
end Go.EF
end

section
namespace Go.EF
open Go Go.RowKit

def resV1 (P : Program) (fr : Nat → AV) (st : St) : ResultVar → Option AV
  | .tmp t => some (fr t)
  | .cell a t => match tagg P t, tsize P t with
    | some g, some s => match fr a with
      | .ptr p o => loadS st g s (.ptr p o)
      | _ => none
    | _, _ => none

def resVs (P : Program) (fr : Nat → AV) (st : St) : List ResultVar → Option (List AV)
  | [] => some []
  | r :: rs => match resV1 P fr st r, resVs P fr st rs with | some x, some xs => some (x :: xs) | _, _ => none

def resV (P : Program) (rs : List ResultVar) (fr : Nat → AV) (st : St) : Option AV :=
  match resVs P fr st rs with
  | some [x] => some x
  | some xs => some (.tup xs)
  | none => none

def frame0 (args : List AV) : Nat → AV := fun i => args.getD i .junk

section
variable {P : Program}

def resOne (tmps : Array Value) : ResultVar → Sem Value
  | .tmp t => pure (tmps.getD t undef)
  | .cell a t => do loadVar t (← asAddr (tmps.getD a undef))

theorem results_one (fn : Func) (tmps : Array Value) : results fn tmps = (do let vs ← fn.results.mapM (resOne tmps); pure (if h : vs.size = 1 then vs[0] else .tuple vs)) := by
  unfold results
  congr 2

theorem resVs_rel {G : Gh} {N : Nat} {fr : Nat → AV} {st : St} {w : World} {tmps : Array Value} (hR : Rel P G st w) (hF : FrRel G N fr tmps) : ∀ (rs : List ResultVar) (xs : List AV), resVs P fr st rs = some xs →
    ∃ ys, (rs.mapM (resOne tmps)).run P w = .ok ys w ∧ VRels G xs ys
  | [], xs, h => by simp only [resVs, Option.some.injEq] at h; subst h; exact ⟨[], by simp, by simp [VRels]⟩
  | r :: rs, xs, h => by
    simp only [resVs] at h
    split at h
    · rename_i x xs' h1 h2; cases h
      obtain ⟨ys, e1, e2⟩ := resVs_rel hR hF rs xs' h2
      have one : ∃ y, (resOne tmps r).run P w = .ok y w ∧ VRel G x y := by
        cases r with
        | tmp t => simp only [resV1, Option.some.injEq] at h1; subst h1; exact ⟨_, rfl, hF.2 t⟩
        | cell a t =>
          simp only [resV1] at h1
          split at h1
          · rename_i g s hg hs
            split at h1
            · rename_i p o hp
              have hv := hF.2 a
              rw [hp] at hv
              simp only [VRel] at hv; obtain ⟨b, hmu, hb⟩ := hv
              simp only [loadS] at h1
              split at h1
              · rename_i cs hcs
                obtain ⟨b', vs, e, q2, q3, q4⟩ := hR.obj _ _ _ hcs hmu
                rw [hmu] at q2; cases q2
                obtain ⟨y, h5, h6⟩ := getCells_block h1 q4 hg hs q3
                exact ⟨y, by simp only [resOne, hb, asAddr]; simpa using h5, h6⟩
              · rename_i cs hcs
                obtain ⟨b', vs, e, q2, q3, q5, q4⟩ := hR.obj _ _ _ hcs hmu
                rw [hmu] at q2; cases q2
                obtain ⟨y, h5, h6⟩ := getCells_pre h1 q4 hg hs q3
                exact ⟨y, by simp only [resOne, hb, asAddr]; simpa using h5, h6⟩
              · cases h1
            · cases h1
          · cases h1
      obtain ⟨y, e3, e4⟩ := one
      refine ⟨y :: ys, ?_, by simp only [VRels]; exact ⟨_, _, rfl, e4, e2⟩⟩
      rw [List.mapM_cons, Sem.run_bind, e3]
      simp only [Result.andThen_ok, Sem.run_bind]
      rw [e1]; rfl
    · cases h

theorem results_rel {G : Gh} {fr : Nat → AV} {st : St} {w : World} {fn : Func} {tmps : Array Value} {r : AV} (hR : Rel P G st w) (hF : FrRel G fn.ntmps fr tmps) (h : resV P fn.results.toList fr st = some r) :
    ∃ v, (results fn tmps).run P w = .ok v w ∧ VRel G r v := by
  unfold resV at h
  have main : ∀ xs, resVs P fr st fn.results.toList = some xs → ∃ ys : List Value, VRels G xs ys ∧ (results fn tmps).run P w = .ok (if h : ys.toArray.size = 1 then ys.toArray[0] else .tuple ys.toArray) w := by
    intro xs hx
    obtain ⟨ys, e1, e2⟩ := resVs_rel hR hF _ xs hx
    refine ⟨ys, e2, ?_⟩
    rw [results_one, Array.mapM_eq_mapM_toList, Sem.run_bind, Sem.run_map, e1]
    rfl
  split at h
  · rename_i x hx; cases h
    obtain ⟨ys, h1, h2⟩ := main _ hx
    simp only [VRels] at h1
    obtain ⟨y, ys', rfl, h3, rfl⟩ := h1
    exact ⟨y, by rw [h2]; rfl, h3⟩
  · rename_i xs hne hx; cases h
    obtain ⟨ys, h1, h2⟩ := main _ hx
    refine ⟨_, h2, ?_⟩
    have hl := h1.length
    rw [dif_neg]
    · simp only [VRel]; exact ⟨_, rfl, by simpa using h1⟩
    · intro e
      simp at e
      rw [e] at hl
      match xs, hl with
      | [x], _ => exact hne x rfl
  · cases h

/-- The blocks of deferred calls are taken: none holds a call. -/
theorem leave_marks {G : Gh} {st : St} {fn : Func} {tmps : Array Value} {n : Nat} {R : Ending → World → Prop} (hres : ∀ w, Rel P G st w → ∃ v, (results fn tmps).run P w = .ok v w ∧ R (.returned v) w) :
    ∀ (rs : List Nat) (w : World), rs.Nodup → Rel P G st w → (∀ r ∈ rs, r ∉ G.dfr ∧ ¬ G.w0.kp r ∧ w.heap[r]? = some (.deferred (some []))) →
      LeavesInM Fence.wide n P fn tmps R (rs.map fun r => { target := .collected r, args := #[] }) .returning w
  | [], w, _, hR, _ => by
    simp only [List.map_nil, LeavesInM, LeavesIn]; exact hres w hR
  | r :: rs, w, hnd, hR, h => by
    simp only [List.map_cons, LeavesInM]
    obtain ⟨h1, h2, h3⟩ := h r (List.mem_cons_self ..)
    obtain ⟨hn1, hn2⟩ := List.nodup_cons.1 hnd
    refine ⟨by simp, .inl ⟨r, _, rfl, run_takeDeferred h3, leave_marks hres rs _ hn2 (hR.put_def h3 h1 h2) fun k hk => ?_⟩⟩
    obtain ⟨g1, g2, g3⟩ := h k (List.mem_cons_of_mem _ hk)
    exact ⟨g1, g2, by rw [World.putObj_heap_other (fun e => hn1 (by rw [← e]; exact hk))]; exact g3⟩

theorem frame0_rel {G : Gh} {args : List AV} {vargs : Array Value} {N : Nat} (h : VRels G args vargs.toList) (hN : args.length ≤ N) : FrRel G N (frame0 args) (vargs ++ Array.replicate (N - vargs.size) undef) := by
  have hl := h.length
  simp at hl
  refine ⟨by simp; omega, fun i => ?_⟩
  unfold frame0
  rw [List.getD_eq_getElem?_getD, Array.getD_eq_getD_getElem?]
  cases hx : args[i]? with
  | none => simp [VRel]
  | some x =>
    obtain ⟨y, e, r⟩ := h.get i x hx
    have hi : i < vargs.size := by have := (List.getElem?_eq_some_iff.1 hx).1; omega
    rw [Array.getElem?_append_left hi]
    have e' : vargs[i]? = some y := by simpa using e
    rw [e']; exact r

theorem wf_intro {f : Nat} {fn : Func} {c : Code} {cc : CC} {args : List AV} {st : St} {K : AV → St → Prop} (hf : P.funcs[f]? = some fn) (hb : fn.body = some c) (hname : (fn.name == "runtime.NumGoroutine") = false) (hc : comp P fn.ntmps c = some cc) (hn : args.length ≤ fn.ntmps)
    (h : wc P fn.ntmps cc (frame0 args) st fun x fr' st' => (x = .normal ∨ x = .ret) ∧ ∃ r, resV P fn.results.toList fr' st' = some r ∧ K r st') : WF P f args st K := by
  obtain ⟨x, fr', st', ⟨hx, r, hr, hK⟩, hs⟩ := wc_sound c cc hc _ _ _ h
  refine ⟨r, st', hK, fun vargs w => ?_, fun G w vargs n hR hv => ?_⟩
  · have hname' : ¬ fn.name = "runtime.NumGoroutine" := by simpa using hname
    simp [callFunc, hf, hb, hname']
  · refine callsIn_of_wp_marks hf hb trivial (wpIn_mono (hs none G G.dfr { tmps := vargs ++ Array.replicate (fn.ntmps - vargs.size) undef, defers := [] } w n ⟨(fun b e => by cases e), hR, frame0_rel hv hn, fun _ e => e, [], List.nodup_nil, (fun r hr => by cases hr), rfl⟩) ?_)
    intro e a' w' hp
    obtain ⟨rfl, G', hle, hR', hF', rs, d1, d2, d3⟩ := hp
    have hR2 := hR'.shrink G.dfr (fun r hr => hle.dfr r hr)
    have hle2 : G.le { G' with dfr := G.dfr } := ⟨hle.w0, hle.nx, hle.old, hle.mu, hle.fz, hle.arr, fun _ e => e, hle.lps⟩
    have hsub : G'.sub { G' with dfr := G.dfr } := ⟨fun _ _ e => e, fun _ _ _ e => e, fun _ _ e => e⟩
    have hF2 : FrRel { G' with dfr := G.dfr } fn.ntmps fr' a'.tmps := ⟨hF'.1, fun i => VRel.mono' hsub _ _ (hF'.2 i)⟩
    have fin : LeavesInM Fence.wide n P fn a'.tmps (fun e w' => ∃ v G', e = .returned v ∧ G.le G' ∧ G'.dfr = G.dfr ∧ Rel P G' st' w' ∧ VRel G' r v) a'.defers .returning w' := by
      rw [d3]
      refine leave_marks (G := { G' with dfr := G.dfr }) (st := st') (fun w hw => ?_) rs w' d1 hR2 fun k hk => ⟨(d2 k hk).2, (hR'.dfr k (d2 k hk).1).1, (hR'.dfr k (d2 k hk).1).2⟩
      obtain ⟨v, v1, v2⟩ := results_rel hw hF2 hr
      exact ⟨v, v1, v, _, rfl, hle2, rfl, hw, v2⟩
    rcases hx with rfl | rfl
    · exact fin
    · exact fin

def updz (fr : Nat → AV) : List Nat → List AV → Nat → AV
  | p :: ps, x :: xs => updz (upd fr p x) ps xs
  | _, _ => fr

theorem updz_rel {G : Gh} {N : Nat} : ∀ (ps : List Nat) (xs : List AV) (ys : List Value) (fr : Nat → AV) (tmps : Array Value), FrRel G N fr tmps → VRels G xs ys → ps.all (· < N) = true → FrRel G N (updz fr ps xs) ((ps.zip ys).foldl (fun t (p, v) => t.setIfInBounds p v) tmps)
  | [], xs, ys, fr, tmps, hF, hv, _ => by simpa [updz] using hF
  | p :: ps, [], ys, fr, tmps, hF, hv, _ => by simp only [VRels] at hv; subst hv; simpa [updz] using hF
  | p :: ps, x :: xs, ys, fr, tmps, hF, hv, hp => by
    simp only [VRels] at hv; obtain ⟨y, ys', rfl, h1, h2⟩ := hv
    simp only [List.all_cons, Bool.and_eq_true, decide_eq_true_eq] at hp
    simp only [updz, List.zip_cons_cons, List.foldl_cons]
    refine updz_rel ps xs ys' _ _ ?_ h2 hp.2
    have := hF.put (a := { tmps, defers := [] }) (d := some p) (by simpa [dstOK] using hp.1) h1
    simpa [Act.put, updo] using this

/-- The contract of a round: the loop's variables take what is yielded; the record is busy while the body runs; how the body is left stands in the record. -/
theorem wy_intro {l N : Nat} {fr : Nat → AV} {ps : List Nat} {ca cb : Code} {asg body : CC} {pend : Option Jmp} {args : List AV} {st : St} {K : AV → St → Prop} (hl : st.get l = some (.loop .ready pend fr N ps ca cb)) (hca : comp P N ca = some asg) (hcb : comp P N cb = some body) (ha : args.length = ps.length)
    (h : wc P N asg (updz fr ps args) st fun x fr1 st1 => x = .normal ∧ st1.get l = some (.loop .ready pend fr N ps ca cb) ∧
      wc P N body fr1 (st1.set l (.loop .busy pend fr N ps ca cb)) fun y _ st2 => st2.get l = some (.loop .busy pend fr N ps ca cb) ∧
        if y = .normal then K (.bool true) (st2.set l (.loop .ready none fr N ps ca cb)) else K (.bool false) (st2.set l (.loop .done (some y) fr N ps ca cb))) : WY P l args st K := by
  obtain ⟨x, fr1, st1, ⟨rfl, hl1, hw2⟩, hs1⟩ := wc_sound ca asg hca _ _ _ h
  obtain ⟨y, fr2, st2, ⟨hl2, hK⟩, hs2⟩ := wc_sound cb body hcb _ _ _ hw2
  -- what comes of it
  obtain ⟨r, st3, hK3, hr3⟩ : ∃ r st3, K r st3 ∧ (r = .bool (decide (y = .normal)) ∧ st3 = st2.set l (.loop (if y = .normal then .ready else .done) (if y = .normal then none else some y) fr N ps ca cb)) := by
    by_cases hy : y = .normal
    · rw [if_pos hy] at hK; exact ⟨_, _, hK, by simp [hy], by simp [hy]⟩
    · rw [if_neg hy] at hK; exact ⟨_, _, hK, by simp [hy], by simp [hy]⟩
  obtain ⟨rfl, rfl⟩ := hr3
  refine ⟨_, _, hK3, fun G w vargs n b hR hv hmu => ?_⟩
  obtain ⟨b', rec, q1, q2, q3, q4, q5, q6, q7, q8, q9⟩ := hR.obj _ _ _ hl hmu
  rw [hmu] at q1; cases q1
  have hvl := hv.length
  refine ⟨rec.fn, _, rec.assign, rec.body, run_yield q2 (by have := congrArg List.length q5; simp at this hvl; omega), ?_⟩
  -- the loop is among the loops
  obtain ⟨m1, m2⟩ := hR.more [] [b] (by simp) (by intro r hr; simp at hr; subst hr; exact ⟨(hR.fresh _ _ hmu).1, rec, q2⟩)
  have hin : b ∈ ({ G with dfr := [] ++ G.dfr, lps := [b] ++ G.lps } : Gh).lps := by simp
  refine RoundIn.mono (R := fun e w' => ∃ v G', e = .returned v ∧ G.le G' ∧ G'.dfr = G.dfr ∧ Rel P G' (st2.set l (.loop (if y = .normal then .ready else .done) (if y = .normal then none else some y) fr N ps ca cb)) w' ∧ VRel G' (.bool (decide (y = .normal))) v) ?_ (fun _ _ h => h)
  refine roundIn_of_wpIn (F := Fence.wide) trivial ?_
  have hF1 : FrRel ({ G with dfr := [] ++ G.dfr, lps := [b] ++ G.lps } : Gh) N (updz fr ps args) ((rec.params.zip vargs).foldl (fun tmps (t, a) => tmps.setIfInBounds t a) rec.tmps) := by
    have := updz_rel ps args vargs.toList fr rec.tmps (q8.mono m1) (hv.mono m1) q9
    rw [← Array.foldl_toList, Array.toList_zip, q5]
    exact this
  rw [q6]
  have hready : Ready P N (some b) ({ G with dfr := [] ++ G.dfr, lps := [b] ++ G.lps } : Gh) [] (updz fr ps args) st { tmps := (rec.params.zip vargs).foldl (fun tmps (t, a) => tmps.setIfInBounds t a) rec.tmps, defers := [] } w :=
    ⟨fun b' e => by cases e; exact hin, m2, hF1, by simp, [], List.nodup_nil, by simp, rfl⟩
  refine wpIn_mono (hs1 (some b) _ [] _ w n hready) ?_
  intro e a1 w1 hp
  obtain ⟨rfl, G1, hle1, hr1⟩ := post_ready hready hp
  simp only [Jmp.toExit, Exit.then]
  obtain ⟨b1, rec1, p1, p2, p3, p4, p5, p6, p7, p8, p9⟩ := hr1.2.1.obj _ _ _ hl1 (hle1.mu _ _ (m1.mu _ _ hmu))
  have hmu1 := hle1.mu _ _ (m1.mu _ _ hmu)
  rw [hmu1] at p1; cases p1
  refine ⟨_, run_beginRound p2 p3, ?_⟩
  have hRb : Rel P G1 (st1.set l (.loop .busy pend fr N ps ca cb)) (w1.putObj b (.loop { rec1 with state := .busy })) :=
    hr1.2.1.put_obj _ _ hmu1 (by intro l s e; cases e) ⟨b, _, hmu1, World.putObj_heap_same (Array.getElem?_eq_some_iff.1 p2).1, rfl, p4, p5, p6, p7, p8, p9⟩ (fun rec e => ⟨_, rfl⟩) (fun d e => by rw [p2] at e; cases e)
  have hready2 : Ready P N (some b) G1 [] fr1 (st1.set l (.loop .busy pend fr N ps ca cb)) a1 (w1.putObj b (.loop { rec1 with state := .busy })) := ⟨hr1.1, hRb, hr1.2.2⟩
  rw [q7]
  refine wpIn_mono (hs2 (some b) G1 [] a1 _ n hready2) ?_
  intro e a2 w2 hp2
  obtain ⟨rfl, G2, hle2, hr2⟩ := post_ready hready2 hp2
  obtain ⟨b2, rec2, u1, u2, u3, u4, u5, u6, u7, u8, u9⟩ := hr2.2.1.obj _ _ _ hl2 (hle2.mu _ _ hmu1)
  have hmu2 := hle2.mu _ _ hmu1
  rw [hmu2] at u1; cases u1
  have hle3 : G.le { G2 with dfr := G.dfr } := by
    have := (m1.trans hle1).trans hle2
    exact ⟨this.w0, this.nx, this.old, this.mu, this.fz, this.arr, fun _ e => e, this.lps⟩
  have fin : ∀ (s : LoopState) (pj : Option Jmp), Rel P { G2 with dfr := G.dfr } (st2.set l (.loop s pj fr N ps ca cb)) (w2.putObj b (.loop { rec2 with state := s, pending := pj.map Jmp.code })) := fun s pj =>
    (hr2.2.1.put_obj (.loop s pj fr N ps ca cb) (.loop { rec2 with state := s, pending := pj.map Jmp.code }) hmu2 (by intro l s e; cases e) ⟨b, _, hmu2, World.putObj_heap_same (Array.getElem?_eq_some_iff.1 u2).1, rfl, rfl, u5, u6, u7, u8, u9⟩ (fun rec e => ⟨_, rfl⟩) (fun d e => by rw [u2] at e; cases e)).shrink G.dfr
      fun r hr => ((m1.trans hle1).trans hle2).dfr r hr
  cases y with
  | normal => exact ⟨_, _, run_endRound none u2, _, _, rfl, hle3, rfl, fin .ready none, by simp [VRel]⟩
  | ret => exact ⟨_, _, run_endRound (some .ret) u2, _, _, rfl, hle3, rfl, fin .done (some .ret), by simp [VRel]⟩
  | exit id => exact ⟨_, _, run_endRound (some (.exit id)) u2, _, _, rfl, hle3, rfl, fin .done (some (.exit id)), by simp [VRel]⟩
end
end Go.EF
end

section
namespace Go.EF
open Go Go.RowKit

def compF (P : Program) (f : Nat) : Option (Nat × List ResultVar × CC) :=
  match P.funcs[f]? with
  | some fn => match fn.body with
    | some c => if fn.name == "runtime.NumGoroutine" then none else match comp P fn.ntmps c with
      | some cc => some (fn.ntmps, fn.results.toList, cc)
      | none => none
    | none => none
  | none => none

theorem wf_of {P : Program} {f N : Nat} {rs : List ResultVar} {cc : CC} {args : List AV} {st : St} {K : AV → St → Prop} (hc : compF P f = some (N, rs, cc)) (hn : args.length ≤ N)
    (h : wc P N cc (frame0 args) st fun x fr' st' => (x = .normal ∨ x = .ret) ∧ ∃ r, resV P rs fr' st' = some r ∧ K r st') : WF P f args st K := by
  unfold compF at hc
  split at hc
  · rename_i fn hf
    split at hc
    · rename_i c hb
      split at hc
      · cases hc
      · rename_i hname
        split at hc
        · rename_i cc' hcc
          simp only [Option.some.injEq, Prod.mk.injEq] at hc
          obtain ⟨rfl, rfl, rfl⟩ := hc
          exact wf_intro hf hb (by simpa using hname) hcc hn h
        · cases hc
    · cases hc
  · cases hc

def rfs : Code → List (Code × Code)
  | .seq a b => rfs a ++ rfs b
  | .cond _ a b => rfs a ++ rfs b
  | .block _ c => rfs c
  | .loop c => rfs c
  | .scope c => rfs c
  | .rangeFunc _ _ a b => [(a, b)]
  | _ => []
def rfA (f : Func) (k : Nat) : Code := (((f.body.map rfs).getD []).getD k (.skip, .skip)).1
def rfB (f : Func) (k : Nat) : Code := (((f.body.map rfs).getD []).getD k (.skip, .skip)).2

theorem WF.mono {P : Program} {f : Nat} {args : List AV} {st : St} {K K' : AV → St → Prop} (h : WF P f args st K) (hk : ∀ r st', K r st' → K' r st') : WF P f args st K' :=
  let ⟨r, st', h1, h2⟩ := h; ⟨r, st', hk _ _ h1, h2⟩
theorem WY.mono {P : Program} {l : Nat} {args : List AV} {st : St} {K K' : AV → St → Prop} (h : WY P l args st K) (hk : ∀ r st', K r st' → K' r st') : WY P l args st K' :=
  let ⟨r, st', h1, h2⟩ := h; ⟨r, st', hk _ _ h1, h2⟩
theorem WV.mono {P : Program} {x : AV} {args : List AV} {st : St} {K K' : AV → St → Prop} (h : WV P x args st K) (hk : ∀ r st', K r st' → K' r st') : WV P x args st K' := by
  cases x <;> first | exact WF.mono h hk | exact WY.mono h hk | exact h.elim

/-- A loop: what holds at every round's head; a measure. -/
theorem wc_loop {P : Program} {N : Nat} {c : CC} {fr : Nat → AV} {st : St} {Q : Jmp → (Nat → AV) → St → Prop} {σ : Type} (I : σ → (Nat → AV) → St → Prop) (μ : σ → Nat) (s : σ) (h0 : I s fr st)
    (round : ∀ s fr st, I s fr st → wc P N c fr st fun x fr' st' => if x = .normal then ∃ s', I s' fr' st' ∧ μ s' < μ s else Q x fr' st') : wc P N (.loop c) fr st Q := by
  intro R hR
  have key : ∀ n s fr st, μ s = n → I s fr st → R fr st := by
    intro n
    induction n using Nat.strongRecOn with
    | _ n ih =>
      intro s fr st hn hI
      apply hR
      refine wc_mono c _ _ _ _ (round s fr st hI) fun x fr' st' h => ?_
      by_cases hx : x = .normal
      · rw [if_pos hx] at h ⊢
        obtain ⟨s', h1, h2⟩ := h
        exact ih _ (by omega) s' fr' st' rfl h1
      · rw [if_neg hx] at h ⊢; exact h
  exact key _ s fr st rfl h0
where
  wops_mono : ∀ (l : List GOp) (fr : Nat → AV) (st : St) (K K' : (Nat → AV) → St → Prop), wops P l fr st K → (∀ fr st, K fr st → K' fr st) → wops P l fr st K'
    | [], fr, st, K, K', h, hk => hk _ _ h
    | g :: r, fr, st, K, K', h, hk => by
      have op : ∀ (K1 K2 : AV → St → Prop), wop P g.op fr st K1 → (∀ x s, K1 x s → K2 x s) → wop P g.op fr st K2 := by
        intro K1 K2 h1 h2
        unfold wop at h1 ⊢
        split at h1
        · exact h1.mono h2
        · exact h1.mono h2
        · split at h1
          · exact h2 _ _ h1
          · exact h1.elim
      simp only [wops] at h ⊢
      split at h
      · exact op _ _ h fun x s h' => wops_mono r _ _ _ _ h' hk
      · split at h
        · split at h
          · rename_i hb; rw [if_pos hb]; exact op _ _ h fun x s h' => wops_mono r _ _ _ _ h' hk
          · rename_i hb; rw [if_neg hb]; exact wops_mono r _ _ _ _ h hk
        · exact wops_mono r _ _ _ _ h hk
        · exact h.elim
  wop_mono : ∀ (c : COp) (fr : Nat → AV) (st : St) (K1 K2 : AV → St → Prop), wop P c fr st K1 → (∀ x s, K1 x s → K2 x s) → wop P c fr st K2 := by
    intro c fr st K1 K2 h1 h2
    unfold wop at h1 ⊢
    split at h1
    · exact h1.mono h2
    · exact h1.mono h2
    · split at h1
      · exact h2 _ _ h1
      · exact h1.elim
  wdraw_mono (bss : List (List Nat)) (als : List (Nat × Nat × List AV)) : ∀ (l : List GOp) (i : Nat) (fr : Nat → AV) (st : St) (hist : List (Nat × St)) (pend : List (Nat × (St → Option (AV × St)) × AV)) (K K' : (Nat → AV) → St → Prop), wdraw P bss als i l fr st hist pend K → (∀ fr st, K fr st → K' fr st) → wdraw P bss als i l fr st hist pend K'
    | [], i, fr, st, hist, pend, K, K', h, hk => hk _ _ h
    | g :: r, i, fr, st, hist, pend, K, K', h, hk => by
      simp only [wdraw] at h ⊢
      split at h
      · split at h
        · exact wdraw_mono bss als r _ _ _ _ _ _ _ h hk
        · exact h.elim
      · split at h
        · exact wop_mono _ _ _ _ _ h fun x s h' => wdraw_mono bss als r _ _ _ _ _ _ _ h' hk
        · split at h
          · split at h
            · rename_i hb; rw [if_pos hb]; exact wop_mono _ _ _ _ _ h fun x s h' => wdraw_mono bss als r _ _ _ _ _ _ _ h' hk
            · rename_i hb; rw [if_neg hb]; exact wdraw_mono bss als r _ _ _ _ _ _ _ h hk
          · exact wdraw_mono bss als r _ _ _ _ _ _ _ h hk
          · exact h.elim
      · split at h
        · exact wop_mono _ _ _ _ _ h fun x s h' => ⟨h'.1, wdraw_mono bss als r _ _ _ _ _ _ _ h'.2 hk⟩
        · split at h
          · split at h
            · rename_i hb; rw [if_pos hb]; exact wop_mono _ _ _ _ _ h fun x s h' => ⟨h'.1, wdraw_mono bss als r _ _ _ _ _ _ _ h'.2 hk⟩
            · rename_i hb; rw [if_neg hb]; exact wdraw_mono bss als r _ _ _ _ _ _ _ h hk
          · exact wdraw_mono bss als r _ _ _ _ _ _ _ h hk
          · exact h.elim
      · split at h
        · exact wop_mono _ _ _ _ _ h fun x s h' => ⟨h'.1, wdraw_mono bss als r _ _ _ _ _ _ _ h'.2 hk⟩
        · split at h
          · split at h
            · rename_i hb; rw [if_pos hb]; exact wop_mono _ _ _ _ _ h fun x s h' => ⟨h'.1, wdraw_mono bss als r _ _ _ _ _ _ _ h'.2 hk⟩
            · rename_i hb; rw [if_neg hb]; exact ⟨h.1, wdraw_mono bss als r _ _ _ _ _ _ _ h.2 hk⟩
          · exact ⟨h.1, wdraw_mono bss als r _ _ _ _ _ _ _ h.2 hk⟩
          · exact h.elim
  wc_mono : ∀ (c : CC) (fr : Nat → AV) (st : St) (Q Q' : Jmp → (Nat → AV) → St → Prop), wc P N c fr st Q → (∀ x fr st, Q x fr st → Q' x fr st) → wc P N c fr st Q'
    | .skip, fr, st, Q, Q', h, hq => hq _ _ _ h
    | .exit _, fr, st, Q, Q', h, hq => hq _ _ _ h
    | .ret, fr, st, Q, Q', h, hq => hq _ _ _ h
    | .draw l bs, fr, st, Q, Q', h, hq => wdraw_mono _ _ l _ _ _ _ _ _ _ h fun _ _ h' => hq _ _ _ h'
    | .ops l, fr, st, Q, Q', h, hq => wops_mono l _ _ _ _ h fun _ _ h' => hq _ _ _ h'
    | .seq a b, fr, st, Q, Q', h, hq => by
      refine wc_mono a _ _ _ _ h fun x fr' st' h' => ?_
      by_cases hx : x = .normal
      · simp only [if_pos hx] at h' ⊢; exact wc_mono b _ _ _ _ h' hq
      · simp only [if_neg hx] at h' ⊢; exact hq _ _ _ h'
    | .cond c a b, fr, st, Q, Q', h, hq => by
      simp only [wc] at h ⊢
      split at h
      · exact wc_mono a _ _ _ _ h hq
      · exact wc_mono b _ _ _ _ h hq
      · exact h.elim
    | .block id c, fr, st, Q, Q', h, hq => by
      refine wc_mono c _ _ _ _ h fun x fr' st' h' => ?_
      by_cases hx : x = .exit id
      · simp only [if_pos hx] at h' ⊢; exact hq _ _ _ h'
      · simp only [if_neg hx] at h' ⊢; exact hq _ _ _ h'
    | .loop c, fr, st, Q, Q', h, hq => by
      intro R hR
      refine h R fun fr st hw => hR fr st (wc_mono c _ _ _ _ hw fun x fr' st' h' => ?_)
      by_cases hx : x = .normal
      · simp only [if_pos hx] at h' ⊢; exact h'
      · simp only [if_neg hx] at h' ⊢; exact hq _ _ _ h'
    | .rangef f ps a b, fr, st, Q, Q', h, hq => by
      simp only [wc] at h ⊢
      split at h
      · exact h.mono fun r st' ⟨s, p, f1, n1, p1, a1, b1, h1, h2, h3⟩ => ⟨s, p, f1, n1, p1, a1, b1, h1, h2, hq _ _ _ h3⟩
      · exact h.elim

end Go.EF
end

section
namespace Go.EF
open Go Go.RowKit

section
variable {P : Program} {N : Nat} {fr : Nat → AV} {st : St} {Q : Jmp → (Nat → AV) → St → Prop}

end

/-! ### operations, one lemma each (for simp) -/
section
variable {P : Program} {fr : Nat → AV} {st : St} {K : AV → St → Prop} {KK : (Nat → AV) → St → Prop}

theorem wop_op {c : COp} {x : AV} {st' : St} (hc : (∀ f a, c ≠ .call f a) ∧ ∀ f a, c ≠ .callv f a) (h : evOp P (·.ev fr) st c = some (x, st')) : wop P c fr st K = K x st' := by
  unfold wop
  split
  · exact absurd rfl (hc.1 _ _)
  · exact absurd rfl (hc.2 _ _)
  · rw [h]
end

section bins
variable (P : Program) (t : TypeId) (k : IntKind) (a b : Int)
theorem bin_lss : binV P .lss t (.v (.int k a)) (.v (.int k b)) = some (.bool (decide (a < b))) := by simp [binV, AV.toV, eqGuard, binOp, Op.intCmp, evSem, bind, Sem.bind, pure]
theorem bin_leq : binV P .leq t (.v (.int k a)) (.v (.int k b)) = some (.bool (decide (a ≤ b))) := by simp [binV, AV.toV, eqGuard, binOp, Op.intCmp, evSem, bind, Sem.bind, pure]
theorem bin_gtr : binV P .gtr t (.v (.int k a)) (.v (.int k b)) = some (.bool (decide (a > b))) := by simp [binV, AV.toV, eqGuard, binOp, Op.intCmp, evSem, bind, Sem.bind, pure]
theorem bin_geq : binV P .geq t (.v (.int k a)) (.v (.int k b)) = some (.bool (decide (a ≥ b))) := by simp [binV, AV.toV, eqGuard, binOp, Op.intCmp, evSem, bind, Sem.bind, pure]
theorem bin_eql : binV P .eql t (.v (.int k a)) (.v (.int k b)) = some (.bool (a == b)) := by simp [binV, AV.toV, eqGuard, binOp, Op.intCmp, evSem, bind, Sem.bind, pure]
theorem bin_neq : binV P .neq t (.v (.int k a)) (.v (.int k b)) = some (.bool (a != b)) := by simp [binV, AV.toV, eqGuard, binOp, Op.intCmp, evSem, bind, Sem.bind, pure]
theorem bin_add : binV P .add t (.v (.int k a)) (.v (.int k b)) = some (.v (.int k (k.wrap (a + b)))) := by simp [binV, AV.toV, eqGuard, binOp, Op.intArith, evSem, bind, Sem.bind, pure]
theorem bin_sub : binV P .sub t (.v (.int k a)) (.v (.int k b)) = some (.v (.int k (k.wrap (a - b)))) := by simp [binV, AV.toV, eqGuard, binOp, Op.intArith, evSem, bind, Sem.bind, pure]
theorem bin_mul : binV P .mul t (.v (.int k a)) (.v (.int k b)) = some (.v (.int k (k.wrap (a * b)))) := by simp [binV, AV.toV, eqGuard, binOp, Op.intArith, evSem, bind, Sem.bind, pure]
def bitsI (k : IntKind) (op : BinOp) (a b : Int) : Int :=
  k.wrap (match op with
    | .and => (BitVec.ofInt k.bits a &&& BitVec.ofInt k.bits b).toNat
    | .or => (BitVec.ofInt k.bits a ||| BitVec.ofInt k.bits b).toNat
    | .xor => (BitVec.ofInt k.bits a ^^^ BitVec.ofInt k.bits b).toNat
    | _ => (BitVec.ofInt k.bits a &&& ~~~ BitVec.ofInt k.bits b).toNat)
theorem bin_and : binV P .and t (.v (.int k a)) (.v (.int k b)) = some (.v (.int k (bitsI k .and a b))) := by simp [binV, AV.toV, eqGuard, binOp, Op.intBits, evSem, bind, Sem.bind, pure, bitsI]
theorem bin_or : binV P .or t (.v (.int k a)) (.v (.int k b)) = some (.v (.int k (bitsI k .or a b))) := by simp [binV, AV.toV, eqGuard, binOp, Op.intBits, evSem, bind, Sem.bind, pure, bitsI]
theorem bin_andNot : binV P .andNot t (.v (.int k a)) (.v (.int k b)) = some (.v (.int k (bitsI k .andNot a b))) := by simp [binV, AV.toV, eqGuard, binOp, Op.intBits, evSem, bind, Sem.bind, pure, bitsI]
theorem bin_shl {j : IntKind} (h : 0 ≤ b) : binV P .shl t (.v (.int k a)) (.v (.int j b)) = some (.v (.int k (k.wrap (a * 2 ^ (min b.toNat k.bits))))) := by
  have h' : ¬ b < 0 := by omega
  simp [binV, AV.toV, eqGuard, binOp, Op.shift, evSem, bind, Sem.bind, pure, h']
theorem bin_shr {j : IntKind} (h : 0 ≤ b) : binV P .shr t (.v (.int k a)) (.v (.int j b)) = some (.v (.int k (a.fdiv (2 ^ (min b.toNat k.bits))))) := by
  have h' : ¬ b < 0 := by omega
  simp [binV, AV.toV, eqGuard, binOp, Op.shift, evSem, bind, Sem.bind, pure, h']
theorem bin_quo (h : b ≠ 0) : binV P .quo t (.v (.int k a)) (.v (.int k b)) = some (.v (.int k (k.wrap (a.tdiv b)))) := by
  simp [binV, AV.toV, eqGuard, binOp, Op.intDiv, evSem, bind, Sem.bind, pure, h]
theorem bin_rem (h : b ≠ 0) : binV P .rem t (.v (.int k a)) (.v (.int k b)) = some (.v (.int k (a.tmod b))) := by
  simp [binV, AV.toV, eqGuard, binOp, Op.intDiv, evSem, bind, Sem.bind, pure, h]
end bins

end Go.EF
end

section
namespace Go.EF
open Go Go.RowKit

/-- All that was there is as it was. -/
structure Ext (s s' : St) : Prop where
  next : s.next ≤ s'.next
  get : ∀ a, a < s.next → s'.get a = s.get a

theorem Ext.refl (s : St) : Ext s s := ⟨Nat.le_refl _, fun _ _ => rfl⟩
theorem Ext.trans {a b c : St} (h : Ext a b) (k : Ext b c) : Ext a c := ⟨Nat.le_trans h.next k.next, fun x hx => (k.get x (Nat.lt_of_lt_of_le hx h.next)).trans (h.get x hx)⟩
theorem Ext.alloc {s s' : St} (h : Ext s s') (o : AObj) : Ext s (s'.alloc o) := h.trans ⟨by rw [St.next_alloc]; omega, fun a ha => St.get_alloc_old _ _ ha⟩
theorem Ext.set {s s' : St} (h : Ext s s') {a : Nat} (ha : s.next ≤ a) (o : AObj) : Ext s (s'.set a o) := ⟨by rw [St.next_set]; exact h.next, fun x hx => by rw [St.get_set_ne _ _ (by omega)]; exact h.get x hx⟩
theorem Ext.here {s s' : St} (h : Ext s s') {a : Nat} {o : AObj} (g : s.get a = some o) : s'.get a = some o := by rw [h.get a (St.lt_of_get g)]; exact g

end Go.EF
end

section
namespace Go.EF
open Go Go.RowKit

def L (l : List AV) : Nat → AV := fun i => l.getD i .junk
section
variable {P : Program} {N : Nat} {lf : List AV} {st : St} {K : (Nat → AV) → St → Prop} {Q : Jmp → (Nat → AV) → St → Prop}

end

/-- Code that is to be run from a literal frame (a structure, so that nothing unfolds it). -/
structure RC (P : Program) (N : Nat) (c : CC) (lf : List AV) (st : St) (Q : Jmp → (Nat → AV) → St → Prop) : Prop where
  run : wc P N c (L lf) st Q
/-- What is left of a region, and the code behind it. -/
structure RO (P : Program) (N : Nat) (l : List GOp) (b : CC) (lf : List AV) (st : St) (Q : Jmp → (Nat → AV) → St → Prop) : Prop where
  run : wops P l (L lf) st fun fr' st' => wc P N b fr' st' Q
/-- What a function's end must be. -/
structure FinP (P : Program) (rs : List ResultVar) (K : AV → St → Prop) (x : Jmp) (fr : Nat → AV) (st : St) : Prop where
  h : (x = .normal ∨ x = .ret) ∧ ∃ r, resV P rs fr st = some r ∧ K r st

section
variable {P : Program} {N : Nat} {lf : List AV} {st : St} {Q : Jmp → (Nat → AV) → St → Prop} {b : CC}

/-! ### code -/
end

section
variable {P : Program} {N : Nat} {lf : List AV} {st : St} {Q : Jmp → (Nat → AV) → St → Prop} {b : CC}
end

/-! ### the state -/
structure Cell where
  a : Nat
  o : AObj
  new : Bool

/-- A state that something comes of, and which of its places must stay as they are. -/
structure Base where
  st : St
  pr : Nat → Prop
instance : Coe St Base := ⟨fun s => ⟨s, fun _ => True⟩⟩
/-- A growing list's room: its own from the start, or a live row that came after s0, or that need not stay. -/
def Grown (s0 : Base) (st : St) : Own × Nat → Prop
  | (.any, _) => False
  | (.exact, _) => True
  | (.tok a, sz) => (s0.st.next ≤ a ∨ ¬ s0.pr a) ∧ st.get a = some (.arr true sz)

def apart (x y : Own × Nat) : Prop := ∀ a, x.1 = .tok a → y.1 ≠ .tok a

def noArr : AObj → Bool
  | .arr _ _ => false
  | _ => true

/-- What has come of the state s0: nothing that was there has turned, but what m lists; what m lists is as m says; t are the lists that grow. -/
structure SP (s0 : Base) (m : List Cell) (t : List (Own × Nat)) (st : St) : Prop where
  next : s0.st.next ≤ st.next
  old : ∀ a, a < s0.st.next → s0.pr a → (∀ x ∈ m, x.new = false → x.a ≠ a) → st.get a = s0.st.get a
  facts : ∀ x ∈ m, st.get x.a = some x.o
  isnew : ∀ x ∈ m, x.new = true → s0.st.next ≤ x.a
  nodup : (m.map (·.a)).Nodup
  toks : ∀ x ∈ t, Grown s0 st x
  apart : t.Pairwise apart

theorem Grown.then {s0 : Base} {st st' : St} {x : Own × Nat} (h : Grown s0 st x) (k : ∀ a sz, (s0.st.next ≤ a ∨ ¬ s0.pr a) → st.get a = some (.arr true sz) → st'.get a = some (.arr true sz)) : Grown s0 st' x := by
  obtain ⟨o, sz⟩ := x
  cases o with
  | any => exact h
  | exact => exact h
  | tok a => exact ⟨h.1, k a sz h.1 h.2⟩

theorem SP.start (s : St) : SP s [] [] s := ⟨Nat.le_refl _, fun _ _ _ _ => rfl, by simp, by simp, by simp, by simp, by simp⟩
theorem SP.grow {s0 : Base} {st : St} {m : List Cell} {t : List (Own × Nat)} (h : SP s0 m t st) (sz : Nat) : SP s0 m ((.exact, sz) :: t) st :=
  ⟨h.next, h.old, h.facts, h.isnew, h.nodup, fun x hx => (List.mem_cons.1 hx).elim (fun e => by subst e; trivial) (h.toks x), List.pairwise_cons.2 ⟨fun y _ a (e : Own.exact = Own.tok a) => (nomatch e), h.apart⟩⟩
theorem SP.ext {s0 st : St} {m : List Cell} {t : List (Own × Nat)} (h : SP s0 m t st) (hn : m.all (·.new) = true) : Ext s0 st :=
  ⟨h.next, fun a ha => h.old a ha trivial fun x hx hf => by have := List.all_eq_true.1 hn x hx; rw [hf] at this; cases this⟩
theorem SP.then {s0 : Base} {st st' : St} {m : List Cell} {t : List (Own × Nat)} (h : SP s0 m t st) (e : Ext st st') : SP s0 m t st' :=
  ⟨Nat.le_trans h.next e.next, fun a ha hp hx => by rw [e.get a (Nat.lt_of_lt_of_le ha h.next)]; exact h.old a ha hp hx, fun x hx => e.here (h.facts x hx), h.isnew, h.nodup,
    fun x hx => (h.toks x hx).then fun a sz _ g => e.here g, h.apart⟩
theorem SP.alloc {s0 : Base} {st : St} {m : List Cell} {t : List (Own × Nat)} (h : SP s0 m t st) (o : AObj) : SP s0 (⟨st.next, o, true⟩ :: m) t (st.alloc o) := by
  have hne : ∀ x ∈ m, x.a ≠ st.next := fun x hx e => by have := St.lt_of_get (h.facts x hx); omega
  refine ⟨by rw [St.next_alloc]; have := h.next; omega, fun a ha hp hx => ?_, fun x hx => ?_, fun x hx hn => ?_, ?_, fun x hx => (h.toks x hx).then fun a sz _ g => by rw [St.get_alloc_old _ _ (St.lt_of_get g)]; exact g, h.apart⟩
  · rw [St.get_alloc_old _ _ (Nat.lt_of_lt_of_le ha h.next)]; exact h.old a ha hp fun x hm => hx x (List.mem_cons_of_mem _ hm)
  · rcases List.mem_cons.1 hx with rfl | hx
    · exact St.get_alloc_new _ _
    · rw [St.get_alloc_old _ _ (St.lt_of_get (h.facts x hx))]; exact h.facts x hx
  · rcases List.mem_cons.1 hx with rfl | hx
    · exact h.next
    · exact h.isnew x hx hn
  · simp only [List.map_cons, List.nodup_cons]
    refine ⟨fun hm => ?_, h.nodup⟩
    obtain ⟨x, hx, e⟩ := List.mem_map.1 hm
    exact hne x hx e

def putC (m : List Cell) (j : Nat) (o : AObj) : List Cell := match m, j with
  | [], _ => []
  | x :: r, 0 => ⟨x.a, o, x.new⟩ :: r
  | x :: r, j + 1 => x :: putC r j o

theorem putC_a : ∀ (m : List Cell) (j : Nat) (o : AObj), (putC m j o).map (·.a) = m.map (·.a)
  | [], _, _ => rfl
  | x :: r, 0, o => rfl
  | x :: r, j + 1, o => by simp [putC, putC_a r j o]

theorem putC_mem : ∀ (m : List Cell) (j : Nat) (o : AObj) (c : Cell), m[j]? = some c → ∀ x ∈ putC m j o, (x.a = c.a ∧ x.o = o ∧ x.new = c.new) ∨ (∃ i, m[i]? = some x ∧ i ≠ j)
  | [], _, _, _, h, x, hx => by simp [putC] at hx
  | y :: r, 0, o, c, h, x, hx => by
    simp at h; subst h
    rcases List.mem_cons.1 hx with rfl | hx
    · exact .inl ⟨rfl, rfl, rfl⟩
    · obtain ⟨i, hi⟩ := List.getElem?_of_mem hx
      exact .inr ⟨i + 1, by simpa using hi, by omega⟩
  | y :: r, j + 1, o, c, h, x, hx => by
    simp at h
    rcases List.mem_cons.1 hx with rfl | hx
    · exact .inr ⟨0, by simp, by omega⟩
    · rcases putC_mem r j o c h x hx with h' | ⟨i, h1, h2⟩
      · exact .inl h'
      · exact .inr ⟨i + 1, by simpa using h1, by omega⟩

theorem addr_inj {m : List Cell} (h : (m.map (·.a)).Nodup) {i j : Nat} {x y : Cell} (hi : m[i]? = some x) (hj : m[j]? = some y) (e : x.a = y.a) : i = j := by
  have h1 := List.pairwise_iff_getElem.1 h
  obtain ⟨q1, q2⟩ := List.getElem?_eq_some_iff.1 hi
  obtain ⟨q3, q4⟩ := List.getElem?_eq_some_iff.1 hj
  rcases Nat.lt_trichotomy i j with hlt | heq | hgt
  · exact (h1 i j (by simpa using q1) (by simpa using q3) hlt (by simp [q2, q4, e])).elim
  · exact heq
  · exact (h1 j i (by simpa using q3) (by simpa using q1) hgt (by simp [q2, q4, e])).elim

/-- One listed object turns (a state that does so, however it came). -/
theorem SP.turn {s0 : Base} {st st' : St} {m : List Cell} {t : List (Own × Nat)} (h : SP s0 m t st) (j : Nat) {c : Cell} (hj : m[j]? = some c) (hc' : noArr c.o = true) (o : AObj) (hn : st.next ≤ st'.next) (hs : st'.get c.a = some o) (ho : ∀ a, a < st.next → a ≠ c.a → st'.get a = st.get a) : SP s0 (putC m j o) t st' := by
  have hc := h.facts c (List.mem_of_getElem? hj)
  refine ⟨Nat.le_trans h.next hn, fun a ha hp hx => ?_, fun x hx => ?_, fun x hx hn => ?_, by rw [putC_a]; exact h.nodup, fun x hx => (h.toks x hx).then fun a sz _ g => ?_, h.apart⟩
  · have hca : a ≠ c.a := by
      intro e
      cases hcn : c.new with
      | true => have := h.isnew c (List.mem_of_getElem? hj) hcn; omega
      | false =>
        have hm : c.a ∈ (putC m j o).map (·.a) := by rw [putC_a]; exact List.mem_map.2 ⟨c, List.mem_of_getElem? hj, rfl⟩
        obtain ⟨x, hx1, hx2⟩ := List.mem_map.1 hm
        rcases putC_mem m j o c hj x hx1 with ⟨_, _, e3⟩ | ⟨i, h1, h2⟩
        · exact hx x hx1 (by rw [e3, hcn]) (by rw [hx2, e])
        · exact h2 (addr_inj h.nodup h1 hj hx2)
    rw [ho a (Nat.lt_of_lt_of_le ha h.next) hca]
    refine h.old a ha hp fun x hm hf e => ?_
    have hm' : x.a ∈ (putC m j o).map (·.a) := by rw [putC_a]; exact List.mem_map.2 ⟨x, hm, rfl⟩
    obtain ⟨y, hy1, hy2⟩ := List.mem_map.1 hm'
    rcases putC_mem m j o c hj y hy1 with ⟨e1, _, _⟩ | ⟨i, h1, h2⟩
    · exact hca (by rw [← e1, hy2, e])
    · obtain ⟨i', hi'⟩ := List.getElem?_of_mem hm
      have hii := addr_inj h.nodup h1 hi' hy2
      subst hii
      rw [hi'] at h1; cases h1
      exact hx x hy1 hf e
  · rcases putC_mem m j o c hj x hx with ⟨e1, e2, _⟩ | ⟨i, h1, h2⟩
    · rw [e1, e2]; exact hs
    · have hx' := h.facts x (List.mem_of_getElem? h1)
      rw [ho x.a (St.lt_of_get hx') (fun e => h2 (addr_inj h.nodup h1 hj e))]; exact hx'
  · rcases putC_mem m j o c hj x hx with ⟨e1, e2, e3⟩ | ⟨i, h1, h2⟩
    · rw [e1]; exact h.isnew c (List.mem_of_getElem? hj) (by rw [← e3]; exact hn)
    · exact h.isnew x (List.mem_of_getElem? h1) hn
  · rw [ho a (St.lt_of_get g) (fun e => by subst e; rw [hc] at g; rw [Option.some.inj g] at hc'; cases hc')]; exact g

theorem SP.set {s0 : Base} {st : St} {m : List Cell} {t : List (Own × Nat)} (h : SP s0 m t st) (j : Nat) {c : Cell} (hj : m[j]? = some c) (hc' : noArr c.o = true) (o : AObj) : SP s0 (putC m j o) t (st.set c.a o) :=
  h.turn j hj hc' o (by rw [St.next_set]; exact Nat.le_refl _) (St.get_set_same _ _ (St.lt_of_get (h.facts c (List.mem_of_getElem? hj)))) fun a _ hne => St.get_set_ne _ _ (Ne.symm hne)
end Go.EF
end

section
namespace Go.EF
open Go Go.RowKit

section
variable {P : Program} {lf : List AV} {st : St} {s0 : Base} {N : Nat} {Q : Jmp → (Nat → AV) → St → Prop} {bb : CC} {m : List Cell} {t : List (Own × Nat)} {d : Option Nat} {r : List GOp}

end

/-! ### numbers -/
section
variable {P : Program} {ty : TypeId}
end

/-! ### lists of records -/
section
variable {τ : Type} {enc : τ → List AV} {sz : Nat}
end
end Go.EF
end

section
namespace Go.EF
open Go Go.RowKit

section
variable {P : Program} {N : Nat} {lf : List AV} {st : St} {s0 : Base} {Q : Jmp → (Nat → AV) → St → Prop} {bb : CC} {m : List Cell} {t : List (Own × Nat)} {d : Option Nat} {r : List GOp}

theorem SP.tail {c : Cell} (h : SP s0 (c :: m) t st) (hn : c.new = true) : SP s0 m t st :=
  ⟨h.next, fun a ha hp hx => h.old a ha hp fun x hx' hf => (List.mem_cons.1 hx').elim (fun e => by subst e; rw [hn] at hf; cases hf) (fun hm => hx x hm hf), fun x hx => h.facts x (List.mem_cons_of_mem _ hx), fun x hx => h.isnew x (List.mem_cons_of_mem _ hx), (List.nodup_cons.1 h.nodup).2, h.toks, h.apart⟩
/-- Some objects of the caller's are listed from the start. -/
theorem SP.startm (m : List Cell) (h : ∀ x ∈ m, st.get x.a = some x.o ∧ x.new = false) (hn : (m.map (·.a)).Nodup) : SP st m [] st :=
  ⟨Nat.le_refl _, fun _ _ _ _ => rfl, fun x hx => (h x hx).1, fun x hx hn => by { rw [(h x hx).2] at hn; cases hn }, hn, by simp, by simp⟩
/-- Old objects that are as they were. -/
theorem SP.ext' {s0 : St} (h : SP s0 m t st) (ho : ∀ x ∈ m, x.new = false → s0.get x.a = some x.o) : Ext s0 st := by
  refine ⟨h.next, fun a ha => ?_⟩
  by_cases hx : ∃ x ∈ m, x.new = false ∧ x.a = a
  · obtain ⟨x, h1, h2, rfl⟩ := hx
    rw [h.facts x h1, ho x h1 h2]
  · exact h.old a ha trivial fun x h1 h2 e => hx ⟨x, h1, h2, e⟩
theorem SP.tok (h : SP s0 m t st) (j : Nat) {x : Own × Nat} (hj : t[j]? = some x) : Grown s0 st x := h.toks x (List.mem_of_getElem? hj)

end

theorem some_get {τ : Type} {l : List τ} {i : Nat} {x : τ} (h : l[i]? = some x) : x ∈ l := List.mem_of_getElem? h
end Go.EF
namespace Go.EF
open Go Go.RowKit
section
variable {P : Program} {N : Nat} {lf : List AV} {st : St} {s0 : Base} {Q : Jmp → (Nat → AV) → St → Prop} {bb : CC} {m : List Cell} {t : List (Own × Nat)} {d : Option Nat} {r : List GOp}

end

def encI (n : Int) : List AV := [.int n]
def encS (s : ByteArray) : List AV := [.str s]
abbrev lst {τ : Type} (own : Own) (enc : τ → List AV) (l : List τ) : AV := .list own (l.flatMap enc) l.length
end Go.EF
namespace Go.EF
end Go.EF
namespace Go.EF
theorem SP.fact {s0 : Base} {st : St} {m : List Cell} {t : List (Own × Nat)} (h : SP s0 m t st) (j : Nat) {c : Cell} (hj : m[j]? = some c) : st.get c.a = some c.o := h.facts c (List.mem_of_getElem? hj)
theorem SP.ne {s0 : Base} {st : St} {m : List Cell} {t : List (Own × Nat)} (h : SP s0 m t st) (i j : Nat) {x y : Cell} (hi : m[i]? = some x) (hj : m[j]? = some y) (hij : i ≠ j) : x.a ≠ y.a := fun e => hij (addr_inj h.nodup hi hj e)
end Go.EF
namespace Go.EF
open Go Go.RowKit
theorem decode_width (s : ByteArray) (i : Nat) : 1 ≤ (Utf8.decode s i).2 := by
  unfold Utf8.decode
  simp only
  repeat' split
  all_goals simp

section
variable {P : Program} {N : Nat} {lf : List AV} {st : St} {s0 : Base} {Q : Jmp → (Nat → AV) → St → Prop} {bb : CC} {m : List Cell} {t : List (Own × Nat)} {d : Option Nat} {r : List GOp}
end
end Go.EF
namespace Go.EF
end Go.EF
end

section
namespace Go.EF
open Go Go.RowKit

abbrev Pend := List (Nat × (St → Option (AV × St)) × AV)
abbrev Als := List (Nat × Nat × List AV)

structure RD (P : Program) (N : Nat) (bss : List (List Nat)) (als : Als) (i : Nat) (l : List GOp) (b : CC) (lf : List AV) (st : St) (hist : List (Nat × St)) (pend : Pend) (Q : Jmp → (Nat → AV) → St → Prop) : Prop where
  run : wdraw P bss als i l (L lf) st hist pend fun fr' st' => wc P N b fr' st' Q

/-- What holds at some places of a list. -/
def AtAll {α : Type} (φ : α → Prop) (l : List α) : List Nat → Prop
  | [] => True
  | j :: js => (match l[j]? with | some x => φ x | none => False) ∧ AtAll φ l js

/-- What an effect owes: the reads at the places js, the objects at the places ks. -/
structure Owes (b : List Nat) (als : Als) (pend : Pend) (js ks : List Nat) (s : St) : Prop where
  reads : AtAll (fun p : Nat × (St → Option (AV × St)) × AV => p.2.1 s = some (p.2.2, s)) pend js
  objs : AtAll (fun a : Nat × Nat × List AV => s.get a.2.1 = some (.cells a.2.2)) als ks
section
variable {P : Program} {N : Nat} {lf : List AV} {st : St} {s0 : Base} {Q : Jmp → (Nat → AV) → St → Prop} {bb : CC} {m : List Cell} {t : List (Own × Nat)} {bss : List (List Nat)} {als : Als} {hist : List (Nat × St)} {pend : Pend} {i : Nat}

end

section
variable {P : Program} {N : Nat} {lf : List AV} {st : St} {s0 : Base} {Q : Jmp → (Nat → AV) → St → Prop} {bb : CC} {m : List Cell} {t : List (Own × Nat)} {bss : List (List Nat)} {als : Als} {hist : List (Nat × St)} {pend : Pend} {i : Nat}

/-! what single operations read -/
end
end Go.EF
end

section
namespace Go.EF
open Go Go.RowKit

section
variable {P : Program} {N : Nat} {lf : List AV} {st : St} {s0 : Base} {Q : Jmp → (Nat → AV) → St → Prop} {bb : CC} {m : List Cell} {t : List (Own × Nat)} {bss : List (List Nat)} {als : Als} {hist : List (Nat × St)} {pend : Pend} {i : Nat} {d : Option Nat} {r : List GOp} {c : COp}

end

section
variable {P : Program} {lf : List AV} {ty : TypeId} {x y : Opd} {op : BinOp}

end

section
variable {P : Program} {N : Nat} {lf : List AV} {st : St} {s0 : Base} {Q : Jmp → (Nat → AV) → St → Prop} {bb : CC} {m : List Cell} {t : List (Own × Nat)} {d : Option Nat} {r : List GOp}

end

/-! ### what a call changes -/
/-- All is as it was, but for some objects, which are now so. -/
structure Eff (l : List (Nat × AObj)) (st st' : St) : Prop where
  next : st.next ≤ st'.next
  get : ∀ a, a < st.next → (∀ p ∈ l, p.1 ≠ a) → st'.get a = st.get a
  now : ∀ p ∈ l, st'.get p.1 = some p.2

theorem Eff.ext {st st' : St} (h : Eff [] st st') : Ext st st' := ⟨h.next, fun a ha => h.get a ha (by simp)⟩

theorem SP.eff {s0 st : St} {m : List Cell} {t : List (Own × Nat)} (h : SP s0 m t st) (l : List (Nat × AObj)) (h0 : ∀ c ∈ m, c.new = false → (c.a, c.o) ∈ l ∨ s0.get c.a = some c.o) (hl : ∀ p ∈ l, ∃ c ∈ m, c.a = p.1 ∧ c.o = p.2 ) : Eff l s0 st := by
  refine ⟨h.next, fun a ha hp => ?_, fun p hp => ?_⟩
  · by_cases hx : ∃ c ∈ m, c.new = false ∧ c.a = a
    · obtain ⟨c, hc, hn, rfl⟩ := hx
      rcases h0 c hc hn with hm | hg
      · exact absurd rfl (hp _ hm)
      · rw [h.facts c hc, hg]
    · exact h.old a ha trivial fun c hc hn e => hx ⟨c, hc, hn, e⟩
  · obtain ⟨c, hc, e1, e2⟩ := hl p hp
    rw [← e1, ← e2]; exact h.facts c hc
end Go.EF
end

section
namespace Go.EF
open Go Go.RowKit

section
variable {s0 : Base} {st : St} {m : List Cell} {t : List (Own × Nat)}
/-- The addresses at some places of the list of cells are apart. -/
theorem SP.pick (h : SP s0 m t st) (js : List Nat) (hj : js.Nodup) {l : List Nat} (hl : js.map (fun j => m[j]?.map (·.a)) = l.map some) : l.Nodup := by
  have hlen : js.length = l.length := by simpa using congrArg List.length hl
  have at_ : ∀ i (h1 : i < js.length) (h2 : i < l.length), (m[js[i]]?).map (·.a) = some l[i] := by
    intro i h1 h2
    have := congrArg (·[i]?) hl
    simpa [List.getElem?_map, List.getElem?_eq_getElem h1, List.getElem?_eq_getElem h2] using this
  refine List.pairwise_iff_getElem.2 fun i k hi hk hik e => ?_
  have a1 := at_ i (by omega) hi
  have a2 := at_ k (by omega) hk
  cases h1 : m[js[i]]? with
  | none => rw [h1] at a1; cases a1
  | some x =>
    cases h2 : m[js[k]]? with
    | none => rw [h2] at a2; cases a2
    | some y =>
      rw [h1] at a1; rw [h2] at a2; simp at a1 a2
      have := addr_inj h.nodup h1 h2 (by rw [a1, a2, e])
      exact List.pairwise_iff_getElem.1 hj i k (by omega) (by omega) hik this
end

/-! ### results that lie in cells -/
section
variable {P : Program} {fr : Nat → AV} {st : St}
end

/-! ### slices of the call's own -/
section
variable {P : Program} {N : Nat} {lf : List AV} {st : St} {s0 : Base} {Q : Jmp → (Nat → AV) → St → Prop} {bb : CC} {m : List Cell} {t : List (Own × Nat)} {d : Option Nat} {r : List GOp} {bss : List (List Nat)} {als : Als} {hist : List (Nat × St)} {pend : Pend} {i : Nat}

end

/-! ### maps -/
theorem evSem_bind1 {P : Program} {α β : Type} (s : Sem α) (f : α → Sem β) {a : α} (h : evSem P s = some a) : evSem P (s >>= f) = evSem P (f a) := by
  cases hb : evSem P (f a) with
  | some b => exact (evSem_bind s f b).2 ⟨a, h, hb⟩
  | none =>
    cases hc : evSem P (s >>= f) with
    | none => rfl
    | some c =>
      obtain ⟨a', h1, h2⟩ := (evSem_bind s f c).1 hc
      rw [h] at h1; cases h1; rw [hb] at h2; cases h2

structure KeyOK (P : Program) (kt : TypeId) (κ : Value → Prop) : Prop where
  und : ∃ u, evSem P (underlying kt) = some u
  chk : ∀ emp k, κ k → evSem P (Instr.checkKey emp 10000 kt k) = some ()
  eq : ∀ k k', κ k → κ k' → ∃ b, evSem P (Op.equal kt k k') = some b ∧ (b = true → Instr.sameBits 10000 k' k = true)

theorem sameNow_bits {u : TypeDesc} {a b : Value} (h : Instr.sameNow u a b = some true) : Instr.sameBits 10000 b a = true := by
  unfold Instr.sameNow at h
  split at h
  · split at h
    · rename_i e; subst e; simp at h; subst h; simp [Instr.sameBits]
    · cases h
  · rename_i a b
    have e : a = b := by
      cases a with | mk a => cases b with | mk b =>
      exact congrArg _ (eq_of_beq (Option.some.inj h : (a == b) = true))
    subst e
    have : (a == a) = true := Option.some.inj h
    simp only [Instr.sameBits, this]
  · have e := eq_of_beq (Option.some.inj h); subst e; simp [Instr.sameBits]
  · cases h

theorem findNow_spec {u : TypeDesc} {k : Value} : ∀ (es : List MapEntry) (i : Nat) (r : Option (Nat × Value)), Instr.findNow u k es i = some r → ∀ j v, r = some (j, v) → ∃ e, i ≤ j ∧ es[j - i]? = some e ∧ Instr.sameBits 10000 e.key k = true
  | [], i, r, h, j, v, e => by simp [Instr.findNow] at h; subst h; cases e
  | x :: es, i, r, h, j, v, e => by
    simp only [Instr.findNow] at h
    split at h
    · rename_i hs; simp at h; subst h; cases e; exact ⟨x, Nat.le_refl _, by simp, sameNow_bits hs⟩
    · obtain ⟨y, h1, h2, h3⟩ := findNow_spec es (i + 1) r h j v e
      refine ⟨y, by omega, ?_, h3⟩
      rw [show j - i = (j - (i + 1)) + 1 from by omega, List.getElem?_cons_succ]; exact h2
    · cases h

theorem findAsking_spec {P : Program} {kt : TypeId} {κ : Value → Prop} (K : KeyOK P kt κ) {k : Value} (hk : κ k) : ∀ (es : List MapEntry) (i : Nat), (∀ e ∈ es, κ e.key) →
    ∃ r, evSem P (Instr.findAsking kt k es i) = some r ∧ ∀ j v, r = some (j, v) → ∃ e, i ≤ j ∧ es[j - i]? = some e ∧ Instr.sameBits 10000 e.key k = true
  | [], i, _ => ⟨none, rfl, by intro j v e; cases e⟩
  | x :: es, i, h => by
    obtain ⟨b, h1, h2⟩ := K.eq k x.key hk (h x (List.mem_cons_self ..))
    simp only [Instr.findAsking]
    cases b with
    | true =>
      refine ⟨some (i, x.val), by rw [evSem_bind1 _ _ h1]; rfl, fun j v e => ?_⟩
      cases e; exact ⟨x, Nat.le_refl _, by simp, h2 rfl⟩
    | false =>
      obtain ⟨r, e1, e2⟩ := findAsking_spec K hk es (i + 1) fun e he => h e (List.mem_cons_of_mem _ he)
      refine ⟨r, by rw [evSem_bind1 _ _ h1]; exact e1, fun j v e => ?_⟩
      obtain ⟨y, h3, h4, h5⟩ := e2 j v e
      refine ⟨y, by omega, ?_, h5⟩
      rw [show j - i = (j - (i + 1)) + 1 from by omega, List.getElem?_cons_succ]; exact h4

theorem findK_total {P : Program} {kt : TypeId} {κ : Value → Prop} (K : KeyOK P kt κ) {emp : Bool} {k : Value} {es : List MEnt} (hk : κ k) (hes : ∀ e ∈ es, κ e.key) :
    ∃ o, findK P emp kt k es = some o ∧ ∀ i, o = some i → ∃ e, es[i]? = some e ∧ Instr.sameBits 10000 e.key k = true := by
  obtain ⟨u, hu⟩ := K.und
  have hd : ∀ e ∈ dents es, κ e.key := by
    intro e he
    obtain ⟨x, hx, rfl⟩ := List.mem_map.1 he
    exact hes x hx
  have back : ∀ (j : Nat) (e : MapEntry), (dents es)[j]? = some e → ∃ x, es[j]? = some x ∧ x.key = e.key := by
    intro j e h
    simp only [dents, List.getElem?_map, Option.map_eq_some_iff] at h
    obtain ⟨x, h1, rfl⟩ := h
    exact ⟨x, h1, rfl⟩
  have key : ∃ r, evSem P (Instr.findKey kt k (dents es)) = some r ∧ ∀ j v, r = some (j, v) → ∃ e, (dents es)[j]? = some e ∧ Instr.sameBits 10000 e.key k = true := by
    unfold Instr.findKey
    rw [evSem_bind1 _ _ hu]
    split
    · rename_i r hr
      refine ⟨r, rfl, fun j v e => ?_⟩
      obtain ⟨y, _, h2, h3⟩ := findNow_spec _ 0 r hr j v e
      exact ⟨y, by simpa using h2, h3⟩
    · obtain ⟨r, e1, e2⟩ := findAsking_spec K hk (dents es) 0 hd
      refine ⟨r, e1, fun j v e => ?_⟩
      obtain ⟨y, _, h2, h3⟩ := e2 j v e
      exact ⟨y, by simpa using h2, h3⟩
  obtain ⟨r, e1, e2⟩ := key
  refine ⟨r.map (·.1), ?_, fun i e => ?_⟩
  · unfold findK
    rw [evSem_bind1 _ _ (K.chk emp k hk), evSem_bind1 _ _ e1]; rfl
  · obtain ⟨⟨j, v⟩, rfl, rfl⟩ := Option.map_eq_some_iff.1 e
    obtain ⟨y, h1, h2⟩ := e2 j v rfl
    obtain ⟨x, h3, h4⟩ := back _ _ h1
    exact ⟨x, h3, by rw [h4]; exact h2⟩

section
variable {P : Program} {N : Nat} {lf : List AV} {st : St} {s0 : Base} {Q : Jmp → (Nat → AV) → St → Prop} {bb : CC} {m : List Cell} {t : List (Own × Nat)} {d : Option Nat} {r : List GOp} {κ : Value → Prop} {φ : AV → Prop}

end

end Go.EF
end

section
namespace Go.EF
open Go Go.RowKit

/-- Some objects came since, apart from each other, and are now so. -/
structure New (l : List (Nat × AObj)) (st st' : St) : Prop where
  ge : ∀ p ∈ l, st.next ≤ p.1
  now : ∀ p ∈ l, st'.get p.1 = some p.2
  nd : (l.map (·.1)).Nodup

section
variable {s0 : Base} {st st' : St} {m : List Cell} {t : List (Own × Nat)}
end

section
variable {s0 : Base} {st st' : St} {m m' : List Cell} {t t' : List (Own × Nat)}
end

/-! ### what reads are owed, by what they read -/
section
variable {P : Program} {N : Nat} {lf : List AV} {st : St} {s0 : Base} {Q : Jmp → (Nat → AV) → St → Prop} {bb : CC} {m : List Cell} {t : List (Own × Nat)} {bss : List (List Nat)} {als : Als} {hist : List (Nat × St)} {pend : Pend} {i : Nat} {d : Option Nat} {r : List GOp}

def PendLe (pend pend' : Pend) : Prop := ∀ q' ∈ pend', ∃ q ∈ pend, q.1 = q'.1 ∧ ∀ s, q.2.1 s = some (q.2.2, s) → q'.2.1 s = some (q'.2.2, s)
theorem PendLe.cons {pend pend' : Pend} (h : PendLe pend pend') (x : Nat × (St → Option (AV × St)) × AV) : PendLe (x :: pend) (x :: pend') := by
  intro q hq
  rcases List.mem_cons.1 hq with rfl | hq
  · exact ⟨q, List.mem_cons_self .., rfl, fun _ h => h⟩
  · obtain ⟨p, hp, e⟩ := h q hq; exact ⟨p, List.mem_cons_of_mem _ hp, e⟩

end
end Go.EF
end

section
namespace Go.EF
open Go Go.RowKit

section
variable {P : Program} {ty : TypeId}
end

end Go.EF
end

section
namespace Go.EF
open Go Go.RowKit

/-- The objects from n0 on are as they were, but for growing rows and some others. -/
structure KeepX (n0 : Nat) (ex : List Nat) (st st' : St) : Prop where
  next : st.next ≤ st'.next
  get : ∀ a o, n0 ≤ a → a ∉ ex → st.get a = some o → noArr o = true → st'.get a = some o
theorem KeepX.refl (n0 : Nat) (ex : List Nat) (st : St) : KeepX n0 ex st st := ⟨Nat.le_refl _, fun _ _ _ _ h _ => h⟩
theorem KeepX.trans {n0 : Nat} {ex : List Nat} {a b c : St} (h : KeepX n0 ex a b) (k : KeepX n0 ex b c) : KeepX n0 ex a c := ⟨Nat.le_trans h.next k.next, fun x o h1 h2 h3 h4 => k.get x o h1 h2 (h.get x o h1 h2 h3 h4) h4⟩
theorem KeepX.more {n0 : Nat} {ex ex' : List Nat} {a b : St} (h : KeepX n0 ex a b) (hs : ∀ x ∈ ex, x ∈ ex') : KeepX n0 ex' a b := ⟨h.next, fun x o h1 h2 h3 h4 => h.get x o h1 (fun hx => h2 (hs x hx)) h3 h4⟩
/-- An iterator leaves the caller's objects alone, and all growing rows. -/
structure Rely (n0 : Nat) (st st' : St) : Prop where
  next : st.next ≤ st'.next
  old : ∀ a, a < n0 → st'.get a = st.get a
  arr : ∀ a l s, st.get a = some (.arr l s) → st'.get a = some (.arr l s)

theorem Rely.refl (n0 : Nat) (st : St) : Rely n0 st st := ⟨Nat.le_refl _, fun _ _ => rfl, fun _ _ _ h => h⟩
theorem Rely.trans {n0 : Nat} {a b c : St} (h : Rely n0 a b) (k : Rely n0 b c) : Rely n0 a c := ⟨Nat.le_trans h.next k.next, fun x hx => (k.old x hx).trans (h.old x hx), fun x l s e => k.arr x l s (h.arr x l s e)⟩
section
variable {st st' : St} {s0 : Base} {m m' : List Cell} {t t' : List (Own × Nat)} {n0 : Nat}

/-- The same state, looked at from here on: for a function's own use. -/
theorem SP.fresh (h : SP s0 m t st) (m' : List Cell) (h1 : m'.map (·.a) = m.map (·.a)) (h2 : m'.map (·.o) = m.map (·.o)) (h3 : m'.all (fun c => !c.new) = true) : SP st m' [] st := by
  refine SP.startm m' (fun x hx => ?_) (by rw [h1]; exact h.nodup)
  obtain ⟨i, hi⟩ := List.getElem?_of_mem hx
  have e1 := congrArg (·[i]?) h1
  have e2 := congrArg (·[i]?) h2
  simp only [List.getElem?_map, hi, Option.map_some] at e1 e2
  cases hm : m[i]? with
  | none => rw [hm] at e1; cases e1
  | some c =>
    rw [hm] at e1 e2; simp at e1 e2
    have := h.facts c (List.mem_of_getElem? hm)
    have h4 := List.all_eq_true.1 h3 x hx
    exact ⟨by rw [e1, e2]; exact this, by simpa using h4⟩

end

/-! ### the loop -/
section
variable {P : Program} {N : Nat} {lf : List AV} {st : St} {s0 : Base} {Q : Jmp → (Nat → AV) → St → Prop} {bb : CC} {m : List Cell} {t : List (Own × Nat)}

end
end Go.EF
end

section
namespace Go.EF
open Go Go.RowKit

theorem evSem_underlying {P : Program} {t : TypeId} {d : TypeDesc} (h : P.underlying t = some d) : evSem P (underlying t) = some d := by
  have e : underlying t = Sem.program (fun p => match p.underlying t with | some d => pure d | none => stuck "no such type") := rfl
  rw [e]; simp only [evSem, h]; rfl

theorem evSem_program {P : Program} {α : Type} (f : Program → Sem α) : evSem P (program >>= f) = evSem P (f P) := rfl

theorem evSem_size {P : Program} {t : TypeId} {i : TypeInfo} (h : P.info? t = some i) : evSem P (sizeOf t) = some i.size := by
  unfold sizeOf typeInfo
  simp only [bind, Sem.bind, program, evSem, h, pure]

end Go.EF
end
