/- Every operation that calls no function: what the resolved operation says, the machine does. No conditions. -/
import Derived.Test.YtbekogkbdmaobaaEf9
namespace Go.EF
open Go Go.RowKit

theorem getElem_map_some {a : Act} {xs : Array Operand} {i : Nat} {o : Operand} (h : xs[i]? = some o) : (xs.map a.eval)[i]? = some (a.eval o) := by simp [h]

theorem opt_rel {G : Gh} {N : Nat} {fr : Nat → AV} {a : Act} (hF : FrRel G N fr a.tmps) {x : Option Operand} {o : Option Opd} (h : optOpd x = some o) : OptRel G (·.ev fr) o (x.map a.eval) := by
  cases x with
  | none => simp [optOpd] at h; subst h; trivial
  | some x =>
    simp only [optOpd, Option.map_eq_some_iff] at h
    obtain ⟨o', h1, rfl⟩ := h
    exact opd_rel h1 hF

theorem op_sound {P : Program} {G : Gh} {st st' : St} {w : World} {N : Nat} {fr : Nat → AV} {a : Act} {o : Oper} {c : COp} {x : AV} (hc : compOp P o = some c) (hF : FrRel G N fr a.tmps) (hR : Rel P G st w)
    (he : evOp P (·.ev fr) st c = some (x, st')) : OpOK P G st' x w (execOp a.eval o) := by
  obtain ⟨dst, op, type, pos, after, guard⟩ := o
  cases op with
  | move y =>
    simp only [compOp, Option.map_eq_some_iff] at hc; obtain ⟨y', h1, rfl⟩ := hc
    simp only [evOp, Option.some.injEq, Prod.mk.injEq] at he; obtain ⟨rfl, rfl⟩ := he
    exact ⟨_, _, w, G, rfl, .inl rfl, .refl _, hR, opd_rel h1 hF⟩
  | assign y =>
    simp only [compOp, Option.map_eq_some_iff] at hc; obtain ⟨y', h1, rfl⟩ := hc
    simp only [evOp, Option.some.injEq, Prod.mk.injEq] at he; obtain ⟨rfl, rfl⟩ := he
    exact ⟨_, _, w, G, rfl, .inl rfl, .refl _, hR, opd_rel h1 hF⟩
  | pick p q r =>
    simp only [compOp] at hc
    split at hc
    · rename_i p' q' r' h1 h2 h3; cases hc
      simp only [evOp] at he
      split at he
      · rename_i hb; cases he
        exact ok_pick (t := true) hR (opd_rel h1 hF) (opd_rel h2 hF) (opd_rel h3 hF) hb
      · rename_i hb; cases he
        exact ok_pick (t := false) hR (opd_rel h1 hF) (opd_rel h2 hF) (opd_rel h3 hF) hb
      · cases he
    · cases hc
  | alloc t =>
    simp only [compOp, Option.map_eq_some_iff] at hc; obtain ⟨z, h1, rfl⟩ := hc
    simp only [evOp, Option.some.injEq, Prod.mk.injEq] at he; obtain ⟨rfl, rfl⟩ := he
    exact ok_alloc h1 hR
  | box t y =>
    simp only [compOp, Option.map_eq_some_iff] at hc; obtain ⟨y', h1, rfl⟩ := hc
    simp only [evOp] at he
    split at he
    · rename_i hb; cases he; exact ok_box hb hR (opd_rel h1 hF)
    · cases he
  | build t parts =>
    simp only [compOp] at hc
    split at hc
    · rename_i fields z hu hz
      split at hc
      · rename_i places hp
        rw [Option.map_eq_some_iff] at hc; obtain ⟨ps, h1, rfl⟩ := hc
        simp only [evOp] at he
        split at he
        · rename_i cs hf; cases he; exact ok_build_struct hu hz hp h1 hF hR hf
        · cases he
      · cases hc
    · rename_i n e z hu hz
      split at hc
      · rename_i s hs
        rw [Option.map_eq_some_iff] at hc; obtain ⟨ps, h1, rfl⟩ := hc
        simp only [evOp] at he
        split at he
        · rename_i cs hf; cases he; exact ok_build_array hu hz hs h1 hF hR hf
        · cases he
      · cases hc
    · cases hc
  | buildSlice t n parts =>
    simp only [compOp] at hc
    split at hc
    · rename_i e hu
      split at hc
      · rename_i s z hs hz
        split at hc
        · rename_i hn
          rw [Option.map_eq_some_iff] at hc; obtain ⟨ps, h1, rfl⟩ := hc
          simp only [evOp] at he
          split at he
          · rename_i cs hf; cases he; exact ok_lit hu hz hs hn h1 hF hR hf
          · cases he
        · cases hc
      · cases hc
    · cases hc
  | load t y =>
    simp only [compOp] at hc
    split at hc
    · rename_i g s y' hg hs hy; cases hc
      simp only [evOp] at he
      split at he
      · rename_i r hl; cases he; exact ok_load hg hs hR (opd_rel hy hF) hl
      · cases he
    · cases hc
  | store t y v =>
    simp only [compOp] at hc
    split at hc
    · rename_i s y' v' hs hy hv; cases hc
      simp only [evOp] at he
      split at he
      · rename_i st'' hl; cases he; exact ok_store hs hR (opd_rel hy hF) (opd_rel hv hF) hl
      · cases he
    · cases hc
  | nilCheck y =>
    simp only [compOp, Option.map_eq_some_iff] at hc; obtain ⟨y', h1, rfl⟩ := hc
    have ry := opd_rel (a := a) h1 hF
    simp only [evOp] at he
    have fin : (∀ s p q, a.eval y ≠ .func (.method s) p q) → a.eval y ≠ .pointer none → a.eval y ≠ .nilIface → a.eval y ≠ .nilFunc → st' = st → x = Opd.ev fr y' → OpOK P G st' x w (execOp a.eval ⟨dst, .nilCheck y, type, pos, after, guard⟩) := by
      intro n1 n2 n3 n4 e1 e2
      subst e1; subst e2
      refine ⟨.value (a.eval y), a.eval y, w, G, ?_, .inl rfl, .refl _, hR, ry⟩
      simp only [execOp]; rfl
    split at he
    · rename_i p o' hy; cases he; rw [hy] at ry; simp only [VRel] at ry; obtain ⟨b, _, hb⟩ := ry
      exact fin (by rw [hb]; simp) (by rw [hb]; simp) (by rw [hb]; simp) (by rw [hb]; simp) rfl hy.symm
    · rename_i p o' hy; cases he; rw [hy] at ry; simp only [VRel] at ry; obtain ⟨b, o2, ys, hb, _⟩ := ry
      exact fin (by rw [hb]; simp) (by rw [hb]; simp) (by rw [hb]; simp) (by rw [hb]; simp) rfl hy.symm
    · rename_i f p q hy; cases he; rw [hy] at ry; simp only [VRel] at ry; obtain ⟨b, o2, hb, _⟩ := ry
      exact fin (by rw [hb]; simp) (by rw [hb]; simp) (by rw [hb]; simp) (by rw [hb]; simp) rfl hy.symm
    · rename_i l hy; cases he; rw [hy] at ry; simp only [VRel] at ry; obtain ⟨b, _, hb⟩ := ry
      exact fin (by rw [hb]; simp) (by rw [hb]; simp) (by rw [hb]; simp) (by rw [hb]; simp) rfl hy.symm
    · cases he
  | binOp op t y z t' =>
    simp only [compOp] at hc
    split at hc
    · rename_i y' z' hy hz; cases hc
      simp only [evOp] at he
      split at he
      · rename_i r hb; cases he; exact ok_bin hR (opd_rel hy hF) (opd_rel hz hF) hb
      · cases he
    · cases hc
  | unOp op t y =>
    simp only [compOp, Option.map_eq_some_iff] at hc; obtain ⟨y', h1, rfl⟩ := hc
    simp only [evOp] at he
    split at he
    · rename_i v hv
      split at he
      · rename_i r hr; cases he; exact ok_un hR (opd_rel h1 hF) hv hr
      · cases he
    · cases he
  | convert s d y =>
    simp only [compOp] at hc
    split at hc
    · rename_i e k hs hd
      rw [Option.map_eq_some_iff] at hc; obtain ⟨y', h1, rfl⟩ := hc
      simp only [evOp] at he
      split at he
      · rename_i j n hy; cases he
        have ry := opd_rel (a := a) h1 hF
        rw [hy] at ry
        exact ok_conv hR hd ⟨_, hs⟩ ry
      · cases he
    · cases hc
  | makeFunc fn first cap =>
    cases fn with
    | func f =>
      simp only [compOp] at hc
      split at hc
      · rename_i p q hp hq; cases hc
        simp only [evOp, Option.some.injEq, Prod.mk.injEq] at he; obtain ⟨rfl, rfl⟩ := he
        refine OpOK.same (y := .func (.func f) (first.map a.eval) (cap.map a.eval)) rfl hR ?_
        simp only [VRel]
        exact ⟨_, _, rfl, opds_rel hF hp, opds_rel hF hq⟩
      · cases hc
    | _ => simp [compOp] at hc
  | makeMap t r =>
    cases r with
    | none =>
      simp only [compOp, Option.some.injEq] at hc; subst hc
      simp only [evOp, Option.some.injEq, Prod.mk.injEq] at he; obtain ⟨rfl, rfl⟩ := he
      exact ok_mkmap hR
    | some r => simp [compOp] at hc
  | makeSlice t l cp =>
    simp only [compOp] at hc
    split at hc
    · rename_i e hu
      split at hc
      · rename_i i z l' c' hi hz hl hcp
        split at hc
        · rename_i hp; cases hc
          simp only [evOp] at he
          split at he
          · rename_i li ci h1 h2
            split at he
            · rename_i hb; cases he; exact ok_mkslice hu hi hz hp hR (opd_rel hl hF) (opd_rel hcp hF) h1 h2 hb
            · cases he
          · cases he
        · cases hc
      · cases hc
    · cases hc
  | slice t y lo hi mx =>
    simp only [compOp] at hc
    split at hc
    · rename_i n e hu
      split at hc
      · rename_i s y' lo' hi' hs hy hlo hhi; cases hc
        simp only [evOp] at he
        split at he
        · rename_i l h m hb
          split at he
          · rename_i p off hx; cases he
            exact ok_slicearr hu hs hR (opd_rel hy hF) (opt_rel hF hlo) (opt_rel hF hhi) hb (.inl ⟨p, off, hx, rfl⟩)
          · rename_i cs off hx
            split at he
            · rename_i hl; cases he
              exact ok_slicearr hu hs hR (opd_rel hy hF) (opt_rel hF hlo) (opt_rel hF hhi) hb (.inr ⟨cs, off, hx, hl, rfl⟩)
            · cases he
          · cases he
        · cases he
      · cases hc
    · rename_i e hu
      split at hc
      · rename_i s y' lo' hi' mx' hs hy hlo hhi hmx; cases hc
        simp only [evOp] at he
        split at he
        · rename_i own cs n hx
          split at he
          · rename_i hl
            split at he
            · rename_i l h m hb; cases he
              exact ok_slice_list hu hs hR (by rw [← hx]; exact opd_rel hy hF) (opt_rel hF hlo) (opt_rel hF hhi) (opt_rel hF hmx) hb hl rfl
            · cases he
          · cases he
        · rename_i p off len cap hx
          split at he
          · rename_i l h m hb; cases he
            exact ok_slice_ms hu hs hR (by rw [← hx]; exact opd_rel hy hF) (opt_rel hF hlo) (opt_rel hF hhi) (opt_rel hF hmx) hb
          · cases he
        · cases he
      · cases hc
    · rename_i hu
      split at hc
      · rename_i y' lo' hi' hy hlo hhi; cases hc
        simp only [evOp] at he
        split at he
        · rename_i b hx
          split at he
          · rename_i l h m hb; cases he
            exact ok_slicestr hu hR (by rw [← hx]; exact opd_rel hy hF) (opt_rel hF hlo) (opt_rel hF hhi) hb
          · cases he
        · cases he
      · cases hc
    · cases hc
  | fieldAddr s y f =>
    simp only [compOp] at hc
    split at hc
    · rename_i fields hu
      split at hc
      · rename_i fd hf
        split at hc
        · rename_i n y' hs hy; cases hc
          simp only [evOp] at he
          split at he
          · rename_i p o' hx; cases he
            exact ok_faddr hu hf hs hR (opd_rel hy hF) (.inl ⟨p, o', hx, rfl⟩)
          · rename_i cs o' hx; cases he
            exact ok_faddr hu hf hs hR (opd_rel hy hF) (.inr ⟨cs, o', hx, rfl⟩)
          · cases he
        · cases hc
      · cases hc
    · cases hc
  | field s y f =>
    simp only [compOp] at hc
    split at hc
    · rename_i fields hu
      split at hc
      · rename_i fd hf
        split at hc
        · rename_i g n y' hg hs hy; cases hc
          simp only [evOp] at he
          split at he
          · rename_i cs hx
            split at he
            · rename_i r hr; cases he
              exact ok_field hu hf hg hs hR (by rw [← hx]; exact opd_rel hy hF) hr
            · cases he
          · cases he
        · cases hc
      · cases hc
    · cases hc
  | indexAddr t y i =>
    simp only [compOp] at hc
    split at hc
    · rename_i e hu
      split at hc
      · rename_i s y' i' hs hy hi
        split at hc
        · rename_i h0; cases hc
          simp only [evOp] at he
          split at he
          · rename_i ii hii
            split at he
            · rename_i own cs n hx
              split at he
              · rename_i hb; cases he
                exact ok_iaddr hu hs hR (opd_rel hy hF) (opd_rel hi hF) hii (.inl ⟨own, cs, n, hx, hb.2, h0, hb.1, rfl⟩)
              · cases he
            · rename_i p off len cap hx
              split at he
              · rename_i hb; cases he
                exact ok_iaddr hu hs hR (opd_rel hy hF) (opd_rel hi hF) hii (.inr (.inl ⟨p, off, len, cap, hx, hb, rfl⟩))
              · cases he
            · rename_i p len hx
              split at he
              · rename_i hb; cases he
                exact ok_iaddr hu hs hR (opd_rel hy hF) (opd_rel hi hF) hii (.inr (.inr ⟨p, len, hx, hb, rfl⟩))
              · cases he
            · cases he
          · cases he
        · cases hc
      · cases hc
    · rename_i n e hu
      split at hc
      · rename_i s y' i' hs hy hi; cases hc
        simp only [evOp] at he
        split at he
        · rename_i ii hii
          split at he
          · rename_i hb
            split at he
            · rename_i p off hx; cases he
              exact ok_iaddrarr hu hs hR (opd_rel hy hF) (opd_rel hi hF) hii hb (.inl ⟨p, off, hx, rfl⟩)
            · rename_i cs off hx; cases he
              exact ok_iaddrarr hu hs hR (opd_rel hy hF) (opd_rel hi hF) hii hb (.inr ⟨cs, off, hx, rfl⟩)
            · cases he
          · cases he
        · cases he
      · cases hc
    · cases hc
  | index t y i =>
    simp only [compOp] at hc
    split at hc
    · rename_i n e hu
      split at hc
      · rename_i g s y' i' hg hs hy hi; cases hc
        simp only [evOp] at he
        split at he
        · rename_i ii cs hii hx
          split at he
          · rename_i hb
            split at he
            · rename_i r hr; cases he
              exact ok_index hu hg hs hR (by rw [← hx]; exact opd_rel hy hF) (opd_rel hi hF) hii hb hr
            · cases he
          · cases he
        · cases he
      · cases hc
    · rename_i hu
      split at hc
      · rename_i y' i' hy hi; cases hc
        simp only [evOp] at he
        split at he
        · rename_i ii b hii hx
          split at he
          · rename_i hb
            split at he
            · rename_i r hr; cases he
              exact ok_indexstr hu hR (by rw [← hx]; exact opd_rel hy hF) (opd_rel hi hF) hii hb hr
            · cases he
          · cases he
        · cases he
      · cases hc
    · cases hc
  | lookup t m k ok =>
    simp only [compOp] at hc
    split at hc
    · rename_i kt e hu
      split at hc
      · rename_i z m' k' hz hm hk; cases hc
        simp only [evOp] at he
        split at he
        · rename_i aa es clock kv h1 h2
          split at he
          · rename_i i hf
            split at he
            · rename_i en hen; cases he
              exact ok_lookup hu hz hR (opd_rel hm hF) (opd_rel hk hF) h1 h2 hf (.inl ⟨i, en, rfl, hen, rfl⟩)
            · cases he
          · rename_i hf; cases he
            exact ok_lookup hu hz hR (opd_rel hm hF) (opd_rel hk hF) h1 h2 hf (.inr ⟨rfl, rfl⟩)
          · cases he
        · cases he
      · cases hc
    · cases hc
  | mapUpdate t m k y =>
    simp only [compOp] at hc
    split at hc
    · rename_i kt e hu
      split at hc
      · rename_i m' k' y' hm hk hy; cases hc
        simp only [evOp] at he
        split at he
        · rename_i aa es clock kv h1 h2
          split at he
          · rename_i i hf
            split at he
            · rename_i en hen
              split at he
              · rename_i hsb; cases he
                exact ok_mapset hu hR (opd_rel hm hF) (opd_rel hk hF) (opd_rel hy hF) h1 h2 hf (.inl ⟨i, en, rfl, hen, hsb, rfl⟩)
              · cases he
            · cases he
          · rename_i hf; cases he
            exact ok_mapset hu hR (opd_rel hm hF) (opd_rel hk hF) (opd_rel hy hF) h1 h2 hf (.inr ⟨rfl, rfl⟩)
          · cases he
        · cases he
      · cases hc
    · cases hc
  | mapEntry t m k =>
    simp only [compOp] at hc
    split at hc
    · rename_i kt e hu
      split at hc
      · rename_i z m' k' hz hm hk; cases hc
        simp only [evOp] at he
        split at he
        · rename_i aa es clock kv h1 h2
          split at he
          · rename_i i hf
            split at he
            · rename_i en hen
              split at he
              · rename_i hsb; cases he
                exact ok_mapentry hu hz hR (opd_rel hm hF) (opd_rel hk hF) h1 h2 hf (.inl ⟨i, en, rfl, hen, hsb, rfl, rfl⟩)
              · cases he
            · cases he
          · rename_i hf; cases he
            exact ok_mapentry hu hz hR (opd_rel hm hF) (opd_rel hk hF) h1 h2 hf (.inr ⟨rfl, rfl, rfl⟩)
          · cases he
        · cases he
      · cases hc
    · cases hc
  | entryStore t m s y =>
    simp only [compOp] at hc
    split at hc
    · rename_i m' s' y' hm hs hy; cases hc
      simp only [evOp] at he
      split at he
      · rename_i aa es clock b h1 h2
        split at he
        · rename_i i hi
          split at he
          · rename_i en hen; cases he
            exact ok_entrystore hR (opd_rel hm hF) (opd_rel hs hF) (opd_rel hy hF) h1 h2 hi hen
          · cases he
        · cases he
      · cases he
    · cases hc
  | extract y i =>
    simp only [compOp, Option.map_eq_some_iff] at hc; obtain ⟨y', h1, rfl⟩ := hc
    simp only [evOp] at he
    split at he
    · rename_i vs hx
      split at he
      · rename_i r hr; cases he
        exact ok_extract hR (by rw [← hx]; exact opd_rel h1 hF) hr
      · cases he
    · cases he
  | range t y =>
    simp only [compOp] at hc
    split at hc
    · rename_i hu
      rw [Option.map_eq_some_iff] at hc; obtain ⟨y', h1, rfl⟩ := hc
      simp only [evOp] at he
      split at he
      · rename_i s hx; cases he
        exact ok_srange (isStrT_spec hu) hR (by rw [← hx]; exact opd_rel h1 hF)
      · cases he
    · cases hc
  | next y isS =>
    cases isS with
    | false => simp [compOp] at hc
    | true =>
      simp only [compOp, Option.map_eq_some_iff] at hc; obtain ⟨y', h1, rfl⟩ := hc
      simp only [evOp] at he
      split at he
      · rename_i p hx
        split at he
        · rename_i s pos hs
          have ry := opd_rel (a := a) h1 hF
          rw [hx] at ry
          split at he
          · rename_i hp; cases he; exact (ok_snext hR ry hs).1 hp
          · rename_i hp; cases he; exact (ok_snext hR ry hs).2 hp
        · cases he
      · cases he
  | call cl =>
    obtain ⟨callee, args, argTypes⟩ := cl
    cases callee with
    | builtin b =>
      cases b with
      | len =>
        simp only [compOp] at hc
        split at hc
        · rename_i t y ht hy
          have ey := getElem_map_some (a := a) hy
          have ex : execOp a.eval ⟨dst, .call ⟨.builtin .len, args, argTypes⟩, type, pos, after, guard⟩ = (do pure (Next.value (← Builtin.len_ argTypes type (args.map a.eval)))) := rfl
          rw [ex]
          split at hc
          · rename_i n e hu; cases hc
            simp only [evOp, Option.some.injEq, Prod.mk.injEq] at he; obtain ⟨rfl, rfl⟩ := he
            exact OpOK.same (y := goInt n) (by simp [Builtin.len_, ht, hy, run_underlying_of hu]) hR (by simp [VRel, Opd.ev, goInt])
          · rename_i hu
            rw [Option.map_eq_some_iff] at hc; obtain ⟨y', h1, rfl⟩ := hc
            have ry := opd_rel (a := a) h1 hF
            simp only [evOp] at he
            split at he
            · rename_i s hx; cases he; exact run_len_str ht ey hu hR (by rw [← hx]; exact ry)
            · cases he
          · rename_i e hu
            rw [Option.map_eq_some_iff] at hc; obtain ⟨y', h1, rfl⟩ := hc
            have ry := opd_rel (a := a) h1 hF
            simp only [evOp] at he
            split at he
            · rename_i o c n hx; cases he; exact run_len_sl ht ey hu hR (by rw [← hx]; exact ry) (.inl ⟨o, c, rfl⟩)
            · rename_i p o n c hx; cases he; exact run_len_sl ht ey hu hR (by rw [← hx]; exact ry) (.inr (.inl ⟨p, o, c, rfl⟩))
            · rename_i p n hx; cases he; exact run_len_sl ht ey hu hR (by rw [← hx]; exact ry) (.inr (.inr ⟨p, rfl⟩))
            · cases he
          · rename_i k e hu
            rw [Option.map_eq_some_iff] at hc; obtain ⟨y', h1, rfl⟩ := hc
            have ry := opd_rel (a := a) h1 hF
            simp only [evOp] at he
            split at he
            · rename_i aa es clock hm; cases he; exact run_len_mp ht ey hu hR ry hm
            · cases he
          · cases hc
        · cases hc
      | append =>
        simp only [compOp] at hc
        split at hc
        · rename_i t t' y z ht ht' hy hz
          have ey := getElem_map_some (a := a) hy
          have ez := getElem_map_some (a := a) hz
          have ex : execOp a.eval ⟨dst, .call ⟨.builtin .append, args, argTypes⟩, type, pos, after, guard⟩ = (do pure (Next.value (← Builtin.append_ argTypes type (args.map a.eval)))) := rfl
          rw [ex]
          split at hc
          · rename_i e e' hu hu'
            split at hc
            · rename_i i zz y' z' hi hzz hy' hz'
              split at hc
              · rename_i hp; cases hc
                exact ok_append ht ht' ey ez hu hu' (by intro k e; cases e) hi hzz hp hR (opd_rel hy' hF) (opd_rel hz' hF) _ y' z' rfl rfl he
              · cases hc
            · cases hc
          · rename_i e hu hu'
            split at hc
            · rename_i i zz y' z' hi hzz hy' hz'
              split at hc
              · rename_i hp; cases hc
                exact ok_append ht ht' ey ez hu hu' (by intro k e; cases e) hi hzz hp hR (opd_rel hy' hF) (opd_rel hz' hF) _ y' z' rfl rfl he
              · cases hc
            · cases hc
          · cases hc
        · cases hc
      | copy =>
        simp only [compOp] at hc
        split at hc
        · rename_i t y z ht hy hz
          have ey := getElem_map_some (a := a) hy
          have ez := getElem_map_some (a := a) hz
          have ex : execOp a.eval ⟨dst, .call ⟨.builtin .copy, args, argTypes⟩, type, pos, after, guard⟩ = (do pure (Next.value (← Builtin.copy_ argTypes type (args.map a.eval)))) := rfl
          rw [ex]
          split at hc
          · rename_i e hu
            split at hc
            · rename_i s y' z' hs hy' hz'; cases hc
              simp only [evOp] at he
              split at he
              · rename_i ys k p off len cap hsrc hx
                split at he
                · rename_i cs hcs
                  split at he
                  · rename_i hb; cases he
                    exact ok_copy ht ey ez hu hs hR (by rw [← hx]; exact opd_rel hy' hF) (opd_rel hz' hF) hsrc hcs hb
                  · cases he
                · cases he
              · cases he
            · cases hc
          · cases hc
        · cases hc
      | max =>
        simp only [compOp, Option.map_eq_some_iff] at hc; obtain ⟨xs, h1, rfl⟩ := hc
        simp only [evOp] at he
        split at he
        · rename_i vs hv
          split at he
          · rename_i r hr; cases he
            exact ok_mnmx (ty := type) (argTypes := argTypes) (mx := true) hR (opds_rel hF h1) hv hr
          · cases he
        · cases he
      | min =>
        simp only [compOp, Option.map_eq_some_iff] at hc; obtain ⟨xs, h1, rfl⟩ := hc
        simp only [evOp] at he
        split at he
        · rename_i vs hv
          split at he
          · rename_i r hr; cases he
            exact ok_mnmx (ty := type) (argTypes := argTypes) (mx := false) hR (opds_rel hF h1) hv hr
          · cases he
        · cases he
      | _ => simp [compOp] at hc
    | value f =>
      have : (∃ f' as, c = .call f' as) ∨ (∃ f' as, c = .callv f' as) := by
        cases f with
        | func f' => simp only [compOp, Option.map_eq_some_iff] at hc; obtain ⟨as, _, rfl⟩ := hc; exact .inl ⟨_, _, rfl⟩
        | _ =>
          simp only [compOp] at hc
          split at hc
          · cases hc; exact .inr ⟨_, _, rfl⟩
          · cases hc
      rcases this with ⟨f', as, rfl⟩ | ⟨f', as, rfl⟩ <;> simp [evOp] at he
    | invoke => simp [compOp] at hc
  | _ => simp [compOp] at hc

end Go.EF
