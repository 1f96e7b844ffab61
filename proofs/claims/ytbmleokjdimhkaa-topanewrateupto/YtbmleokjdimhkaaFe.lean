/- Maps, least and greatest, strings in rounds. No conditions. -/
import Derived.Test.YtbmleokjdimhkaaFd
set_option linter.unusedVariables false
set_option linter.unusedSimpArgs false

section
namespace Go.EF.Rk
noncomputable section
open Go Go.EF

/-- The kinds of a key, where it is one of a type of keys. -/
def keyOK (P : Program) (kt : TypeId) (one : Bool) (ks : List CK) (k : SV) : Bool :=
  decide (oneT P kt = one) && decide (flatK P 8 kt = some ks) && (bif one then (match kindOf k with | some c => decide (ks = [c]) | none => false) else match k with | .agg cs => decide (kindsOf cs = some ks) | _ => false)
section
variable {P : Program} {ρ ρ' : V} {ss : SS} {st : St} {frc : Nat → AV}

theorem keyOK_ok {kt : TypeId} {one : Bool} {ks : List CK} {k : SV} (h : keyOK P kt one ks k = true) {x : AV} (hx : R ρ k x) : KeyOK P kt (KeyV one ks) ∧ ∃ v, x.toV = some v ∧ KeyV one ks v := by
  simp only [keyOK, Bool.and_eq_true, decide_eq_true_eq] at h
  obtain ⟨⟨h1, h2⟩, h3⟩ := h
  refine ⟨by rw [← h1]; exact keyFlat h2 (by omega), ?_⟩
  cases one with
  | true =>
    simp only [cond_true] at h3
    cases hk : kindOf k with
    | none => rw [hk] at h3; cases h3
    | some c =>
      rw [hk] at h3
      have h3 := of_decide_eq_true h3
      obtain ⟨v, _, q2, q3, _⟩ := kindOf_ok hk hx
      exact ⟨v, q3, by unfold KeyV; rw [if_pos rfl]; exact ⟨c, h3, q2⟩⟩
  | false =>
    simp only [cond_false] at h3
    cases k <;> simp only [Bool.false_eq_true] at h3
    rename_i cs
    have h3 := of_decide_eq_true h3
    simp only [R] at hx
    obtain ⟨ys, rfl, h4⟩ := hx
    obtain ⟨vs, q1, q2⟩ := kindsOf_ok h3 h4
    exact ⟨.agg vs.toArray, by simp only [AV.toV, q1, Option.map_some], by unfold KeyV; rw [if_neg (by simp)]; exact ⟨_, rfl, by simpa using q2⟩⟩

theorem map_get (h : Sat P ρ ss st) {a : Nat} {one : Bool} {ks : List CK} {v : SV} (hg : hget ss.hp a = some (.map one ks v)) : ∃ es clk, st.get (ρ.a a) = some (.map es clk) ∧ ∀ e ∈ es, KeyV one ks e.key ∧ R ρ v e.val := h.hp.get hg
theorem empty_key {v : Value} : ¬ KeyV true [] v := by
  unfold KeyV; rw [if_pos rfl]; rintro ⟨c, e, _⟩; cases e

/-! ### looking up -/
def lookupS (P : Program) (kt : TypeId) (z : AV) (ok : Bool) (m k : SV) (ss : SS) : M Outs :=
  match m with
  | .map a => match hget ss.hp a with
    | some (.map one ks v) =>
      bif keyOK P kt one ks k then do
        bif ok then pure [nm (.tup [v, .bool .tt]) ss, nm (.tup [ofAV z, .bool .ff]) ss]
        else do
          let b ← le ss.fs ss.ks 8 (ofAV z) v
          if b then fin v ss else pure [nm v ss, nm (ofAV z) ss]
      else bif one && ks.isEmpty && (match flatK P 8 kt with | some fk => keyOK P kt (oneT P kt) fk k | none => false) then
        pure [nm (bif ok then .tup [ofAV z, .bool .ff] else ofAV z) ss]
      else bad 140
    | _ => bad 141
  | _ => bad 142
theorem lookup_ok (h : Sat P ρ ss st) {kt : TypeId} {z : AV} {ok : Bool} {m k : SV} {ym yk : AV} (rm : R ρ m ym) (rk : R ρ k yk) {c d : Opd} (hc : c.ev frc = ym) (hd : d.ev frc = yk) {outs : Outs} {o o' : Orc} (e : lookupS P kt z ok m k ss o = .ok outs o') :
    ∃ x, evOp P (·.ev frc) st (.lookup kt z ok c d) = some (x, st) ∧ Some1 P ρ ss.nv st x outs := by
  cases m <;> simp only [lookupS] at e <;> first | exact (bad_ok e).elim | skip
  rename_i a
  simp only [R] at rm; subst rm
  cases hg : hget ss.hp a with
  | none => rw [hg] at e; exact (bad_ok e).elim
  | some ob =>
    rw [hg] at e
    cases ob <;> simp only at e <;> first | exact (bad_ok e).elim | skip
    rename_i one ks v
    obtain ⟨es, clk, g1, g2⟩ := map_get h hg
    have hbl := (hpBl_mem h.hb _ (hget_mem hg)).2
    simp only [SObj.bl] at hbl
    have zb := ofAV_bl ss.nv z
    have zr := ofAV_ok ρ z
    have tb : ∀ {s : SV} {b : Cond}, s.bl ss.nv = true → b.bl ss.nv = true → (SV.tup [s, .bool b]).bl ss.nv = true := fun h1 h2 => by simp only [SV.bl, belowS, h1, h2, Bool.and_true]
    cases hko : keyOK P kt one ks k with
    | true =>
      rw [hko] at e
      simp only [cond_true] at e
      obtain ⟨K, kv, q1, q2⟩ := keyOK_ok hko rk
      obtain ⟨o1, h3, h4⟩ := findK_total K (emp := es.isEmpty) q2 fun e he => (g2 e he).1
      cases o1 with
      | none =>
        refine ⟨_, by simp only [evOp, hc, hd, mapOf, g1, q1, h3]; rfl, ?_⟩
        cases ok with
        | true =>
          have e := ret_ok e; subst e
          exact ⟨_, List.mem_cons_of_mem _ (List.mem_singleton.2 rfl), nm_ok (.tup [ofAV z, .bool .ff]) h (tb zb rfl) (by simp only [R, Rs]; exact ⟨_, rfl, _, _, rfl, zr, _, _, rfl, rfl, rfl⟩)⟩
        | false =>
          obtain ⟨b, o2, e1, e2⟩ := bind_ok e
          cases b with
          | true => exact fin_here h (le_ok h.kn e1 zr) hbl (by simpa using e2)
          | false =>
            have e2 := ret_ok (by simpa using e2); subst e2
            exact ⟨_, List.mem_cons_of_mem _ (List.mem_singleton.2 rfl), nm_ok _ h zb zr⟩
      | some i =>
        obtain ⟨en, h5, _⟩ := h4 i rfl
        have hv := (g2 en (List.mem_of_getElem? h5)).2
        refine ⟨_, by simp only [evOp, hc, hd, mapOf, g1, q1, h3, h5]; rfl, ?_⟩
        cases ok with
        | true =>
          have e := ret_ok e; subst e
          exact ⟨_, List.mem_cons_self .., nm_ok (.tup [v, .bool .tt]) h (tb hbl rfl) (by simp only [R, Rs]; exact ⟨_, rfl, _, _, rfl, hv, _, _, rfl, rfl, rfl⟩)⟩
        | false =>
          obtain ⟨b, o2, e1, e2⟩ := bind_ok e
          cases b with
          | true => exact fin_here h hv hbl (by simpa using e2)
          | false =>
            have e2 := ret_ok (by simpa using e2); subst e2
            exact ⟨_, List.mem_cons_self .., nm_ok _ h hbl hv⟩
    | false =>
      rw [hko] at e
      simp only [cond_false] at e
      cases hem : (one && ks.isEmpty && (match flatK P 8 kt with | some fk => keyOK P kt (oneT P kt) fk k | none => false)) with
      | false => rw [hem] at e; exact (bad_ok e).elim
      | true =>
        rw [hem] at e
        have e := ret_ok e; subst e
        simp only [Bool.and_eq_true] at hem
        obtain ⟨⟨rfl, hk0⟩, hem⟩ := hem
        have hk0 : ks = [] := List.isEmpty_iff.1 hk0
        subst hk0
        have hes : es = [] := by
          cases es with
          | nil => rfl
          | cons x r => exact absurd (g2 x (List.mem_cons_self ..)).1 empty_key
        subst hes
        cases hf : flatK P 8 kt with
        | none => rw [hf] at hem; cases hem
        | some fk =>
          rw [hf] at hem
          obtain ⟨K, kv, q1, q2⟩ := keyOK_ok hem rk
          obtain ⟨o1, h3, h4⟩ := findK_total K (emp := ([] : List MEnt).isEmpty) (es := []) q2 (by simp)
          cases o1 with
          | some i => obtain ⟨en, h5, _⟩ := h4 i rfl; simp at h5
          | none =>
            refine ⟨_, by simp only [evOp, hc, hd, mapOf, g1, q1, h3]; rfl, _, List.mem_singleton.2 rfl, ?_⟩
            cases ok with
            | true => exact nm_ok (.tup [ofAV z, .bool .ff]) h (tb zb rfl) (by simp only [R, Rs]; exact ⟨_, rfl, _, _, rfl, zr, _, _, rfl, rfl, rfl⟩)
            | false => exact nm_ok _ h zb zr

/-! ### writing -/
/-- A map's kinds and values, with one more value. -/
def mapJoin (P : Program) (kt : TypeId) (k : SV) (x : SV) (ss : SS) : SObj → M (Bool × List CK × SV)
  | .map one ks v =>
    bif keyOK P kt one ks k then do
      let w ← wjoin ss.fs ss.ks v x
      pure (one, ks, w)
    else match one && ks.isEmpty, flatK P 8 kt with
      | true, some fk => bif keyOK P kt (oneT P kt) fk k then pure (oneT P kt, fk, x) else bad 143
      | _, _ => bad 144
  | _ => bad 145
theorem mapJoin_ok (h : Sat P ρ ss st) {kt : TypeId} {k x : SV} {ob : SObj} {a : Nat} (hg : hget ss.hp a = some ob) (bx : x.bl ss.nv = true) {yk yx : AV} (rk : R ρ k yk) (rx : R ρ x yx) {r : Bool × List CK × SV} {o o' : Orc} (e : mapJoin P kt k x ss ob o = .ok r o') :
    ob.real = true ∧ r.2.2.bl ss.nv = true ∧ KeyOK P kt (KeyV r.1 r.2.1) ∧ R ρ r.2.2 yx ∧ (∃ v, yk.toV = some v ∧ KeyV r.1 r.2.1 v) ∧ ∃ es clk, st.get (ρ.a a) = some (.map es clk) ∧ ∀ e ∈ es, KeyV r.1 r.2.1 e.key ∧ R ρ r.2.2 e.val := by
  cases ob <;> simp only [mapJoin] at e <;> first | exact (bad_ok e).elim | skip
  rename_i one ks v
  obtain ⟨es, clk, g1, g2⟩ := map_get h hg
  have hbl := (hpBl_mem h.hb _ (hget_mem hg)).2
  simp only [SObj.bl] at hbl
  cases hko : keyOK P kt one ks k with
  | true =>
    rw [hko] at e
    obtain ⟨w, o1, e1, e2⟩ := bind_ok e
    have e2 := ret_ok e2; subst e2
    obtain ⟨K, q⟩ := keyOK_ok hko rk
    have J := wjoin_ok h.kn e1
    exact ⟨rfl, wjoin_bl hbl e1, K, J.2 _ rx, q, es, clk, g1, fun e he => ⟨(g2 e he).1, J.1 _ (g2 e he).2⟩⟩
  | false =>
    rw [hko] at e
    simp only [cond_false] at e
    cases hem : (one && ks.isEmpty) with
    | false => rw [hem] at e; exact (bad_ok e).elim
    | true =>
      rw [hem] at e
      simp only [Bool.and_eq_true] at hem
      obtain ⟨rfl, hk0⟩ := hem
      have hk0 : ks = [] := List.isEmpty_iff.1 hk0
      subst hk0
      have hes : es = [] := by
        cases es with
        | nil => rfl
        | cons x r => exact absurd (g2 x (List.mem_cons_self ..)).1 empty_key
      subst hes
      cases hf : flatK P 8 kt with
      | none => rw [hf] at e; exact (bad_ok e).elim
      | some fk =>
        rw [hf] at e
        cases hk2 : keyOK P kt (oneT P kt) fk k with
        | false => simp only [hk2] at e; exact (bad_ok e).elim
        | true =>
          simp only [hk2] at e
          have e := ret_ok e; subst e
          obtain ⟨K, q⟩ := keyOK_ok hk2 rk
          exact ⟨rfl, bx, K, rx, q, [], clk, g1, by simp⟩

def mapsetS (P : Program) (kt : TypeId) (m k x : SV) (ss : SS) : M Outs :=
  match m with
  | .map a => do
    let ob ← opt 146 (hget ss.hp a)
    let r ← mapJoin P kt k x ss ob
    pure [(.any, { ss with hp := hput ss.hp a (.map r.1 r.2.1 r.2.2) })]
  | _ => bad 147
theorem same_named (h : Sat P ρ ss st) {hp' : Hp} {st' : St} (S : Sat P ρ { ss with hp := hp' } st') {s : SV} {x : AV} (hb : s.bl ss.nv = true) (hx : R ρ s x) : Named P ρ ss.nv st' x (s, { ss with hp := hp' }) := ⟨ρ, Agree.refl _ _, Nat.le_refl _, S, hx, hb⟩
theorem mapset_ok (h : Sat P ρ ss st) {kt : TypeId} {m k x : SV} (bx : x.bl ss.nv = true) {ym yk yx : AV} (rm : R ρ m ym) (rk : R ρ k yk) (rx : R ρ x yx) {c d f : Opd} (hc : c.ev frc = ym) (hd : d.ev frc = yk) (hf : f.ev frc = yx) {outs : Outs} {o o' : Orc} (e : mapsetS P kt m k x ss o = .ok outs o') :
    ∃ y st', evOp P (·.ev frc) st (.mapset kt c d f) = some (y, st') ∧ Some1 P ρ ss.nv st' y outs := by
  cases m <;> simp only [mapsetS] at e <;> first | exact (bad_ok e).elim | skip
  rename_i a
  simp only [R] at rm; subst rm
  obtain ⟨ob, o1, e1, e2⟩ := bind_ok e
  have hg := opt_ok e1
  obtain ⟨⟨one, ks, v⟩, o2, e3, e4⟩ := bind_ok e2
  have e4 := ret_ok e4; subst e4
  obtain ⟨hr, q1, K, q2, ⟨kv, q3, q4⟩, es, clk, g1, g2⟩ := mapJoin_ok h hg bx rk rx e3
  simp only at q1 K q2 q4 g2
  obtain ⟨o5, h3, h4⟩ := findK_total K (emp := false) q4 fun e he => (g2 e he).1
  have hlt := St.lt_of_get g1
  cases o5 with
  | none =>
    refine ⟨_, _, by simp only [evOp, hc, hd, hf, mapOf, g1, q3, h3]; rfl, one1 (same_named h (h.put (o' := .map one ks v) hg hr rfl q1 ?_) rfl trivial)⟩
    refine ⟨_, _, St.get_set_same _ _ hlt, fun e he => ?_⟩
    rcases List.mem_append.1 he with he | he
    · exact g2 e he
    · simp only [List.mem_singleton] at he; subst he; exact ⟨q4, q2⟩
  | some i =>
    obtain ⟨en, h5, h6⟩ := h4 i rfl
    refine ⟨_, _, by simp only [evOp, hc, hd, hf, mapOf, g1, q3, h3, h5, h6, if_true]; rfl, one1 (same_named h (h.put (o' := .map one ks v) hg hr rfl q1 ?_) rfl trivial)⟩
    refine ⟨_, _, St.get_set_same _ _ hlt, fun e he => ?_⟩
    rcases List.mem_or_eq_of_mem_set he with he | rfl
    · exact g2 e he
    · exact ⟨q4, q2⟩

/-- An entry is looked for, or made: its value, and its place. -/
def mapentryS (P : Program) (kt : TypeId) (z : AV) (m k : SV) (ss : SS) : M Outs :=
  match m with
  | .map a => do
    let ob ← opt 148 (hget ss.hp a)
    let r ← mapJoin P kt k (ofAV z) ss ob
    pure [nm (.tup [r.2.2, .born ss.nv]) ⟨ss.nv + 1, [] ++ ss.fs, [] ++ ss.ks, hput ss.hp a (.mape r.1 r.2.1 r.2.2 ss.nv)⟩]
  | _ => bad 149
theorem mapentry_ok (h : Sat P ρ ss st) {kt : TypeId} {z : AV} {m k : SV} {ym yk : AV} (rm : R ρ m ym) (rk : R ρ k yk) {c d : Opd} (hc : c.ev frc = ym) (hd : d.ev frc = yk) {outs : Outs} {o o' : Orc} (e : mapentryS P kt z m k ss o = .ok outs o') :
    ∃ y st', evOp P (·.ev frc) st (.mapentry kt z c d) = some (y, st') ∧ Some1 P ρ ss.nv st' y outs := by
  cases m <;> simp only [mapentryS] at e <;> first | exact (bad_ok e).elim | skip
  rename_i a
  simp only [R] at rm; subst rm
  obtain ⟨ob, o1, e1, e2⟩ := bind_ok e
  have hg := opt_ok e1
  obtain ⟨⟨one, ks, v⟩, o2, e3, e4⟩ := bind_ok e2
  have e4 := ret_ok e4; subst e4
  have zr := ofAV_ok ρ z
  obtain ⟨hr, q1, K, q2, ⟨kv, q3, q4⟩, es, clk, g1, g2⟩ := mapJoin_ok h hg (ofAV_bl _ z) rk zr e3
  simp only at q1 K q2 q4 g2
  obtain ⟨o5, h3, h4⟩ := findK_total K (emp := false) q4 fun e he => (g2 e he).1
  have hlt := St.lt_of_get g1
  have ha : a < ss.nv := (hpBl_mem h.hb _ (hget_mem hg)).1
  -- what comes of it, whichever entry it is
  have fin' : ∀ (es' : List MEnt) (clk' b : Nat) (y : AV), (∀ e ∈ es', KeyV one ks e.key ∧ R ρ v e.val) → (∃ e ∈ es', e.born = b) → R ρ v y → Some1 P ρ ss.nv (st.set (ρ.a a) (.map es' clk')) (.tup [y, .int (b : Nat)]) [nm (.tup [v, .born ss.nv]) ⟨ss.nv + 1, [] ++ ss.fs, [] ++ ss.ks, hput ss.hp a (.mape one ks v ss.nv)⟩] := by
    intro es' clk' b y w1 w2 w3
    let p : Pt := { a := b }
    have ag := put_agree ρ ss.nv p
    have S := h.ext ag (put_ok h.ok _ (by show _ ∧ _; simp only [p]; omega)) (Nat.le_succ _) [] [] (by simp) (by simp)
    have hpa : (ρ.put ss.nv p).a a = ρ.a a := ag.a a ha
    have hpn : (ρ.put ss.nv p).a ss.nv = b := put_a _ _ _
    have S2 := S.put (o' := .mape one ks v ss.nv) (ao := .map es' clk') hg hr rfl (by simp only [SObj.bl, Bool.and_eq_true]; exact ⟨SV.bl_mono (Nat.le_succ _) _ q1, blt_succ _⟩) (by
      rw [hpa]
      exact ⟨_, _, St.get_set_same _ _ hlt, fun e he => ⟨(w1 e he).1, R_agree ag q1 (w1 e he).2⟩, by rw [hpn]; exact w2⟩)
    rw [hpa] at S2
    refine ⟨_, List.mem_singleton.2 rfl, ((nm_ok (.tup [v, .born ss.nv]) S2 ?_ ?_).less ag (Nat.le_succ _))⟩
    · simp only [SV.bl, belowS, Bool.and_eq_true]; exact ⟨SV.bl_mono (Nat.le_succ _) _ q1, blt_succ _, trivial⟩
    · simp only [R, Rs, hpn]; exact ⟨_, rfl, _, _, rfl, R_agree ag q1 w3, _, _, rfl, rfl, rfl⟩
  cases o5 with
  | none =>
    refine ⟨_, _, by simp only [evOp, hc, hd, mapOf, g1, q3, h3]; rfl, fin' _ _ clk z ?_ ⟨_, List.mem_append.2 (.inr (List.mem_singleton.2 rfl)), rfl⟩ q2⟩
    intro e he
    rcases List.mem_append.1 he with he | he
    · exact g2 e he
    · simp only [List.mem_singleton] at he; subst he; exact ⟨q4, q2⟩
  | some i =>
    obtain ⟨en, h5, h6⟩ := h4 i rfl
    have hen := g2 en (List.mem_of_getElem? h5)
    refine ⟨_, _, by simp only [evOp, hc, hd, mapOf, g1, q3, h3, h5, h6, if_true]; rfl, fin' _ _ en.born en.val ?_ ⟨{ en with key := kv }, List.mem_set (List.getElem?_eq_some_iff.1 h5).1 _, rfl⟩ hen.2⟩
    intro e he
    rcases List.mem_or_eq_of_mem_set he with he | rfl
    · exact g2 e he
    · exact ⟨q4, hen.2⟩

def entrystoreS (m s x : SV) (ss : SS) : M Outs :=
  match m, s with
  | .map a, .born b => match hget ss.hp a with
    | some (.mape one ks v b') => if b = b' then do
        let w ← wjoin ss.fs ss.ks v x
        pure [(.any, { ss with hp := hput ss.hp a (.map one ks w) })]
      else bad 150
    | _ => bad 151
  | _, _ => bad 152
theorem entrystore_ok (h : Sat P ρ ss st) {m s x : SV} {ym ys yx : AV} (rm : R ρ m ym) (rs : R ρ s ys) (rx : R ρ x yx) {c d f : Opd} (hc : c.ev frc = ym) (hd : d.ev frc = ys) (hf : f.ev frc = yx) {outs : Outs} {o o' : Orc} (e : entrystoreS m s x ss o = .ok outs o') :
    ∃ y st', evOp P (·.ev frc) st (.entrystore c d f) = some (y, st') ∧ Some1 P ρ ss.nv st' y outs := by
  cases m <;> simp only [entrystoreS] at e <;> first | exact (bad_ok e).elim | skip
  cases s <;> simp only at e <;> first | exact (bad_ok e).elim | skip
  rename_i a b
  simp only [R] at rm rs; subst rm rs
  cases hg : hget ss.hp a with
  | none => rw [hg] at e; exact (bad_ok e).elim
  | some ob =>
    rw [hg] at e
    cases ob <;> simp only at e <;> first | exact (bad_ok e).elim | skip
    rename_i one ks v b'
    split at e
    · rename_i hb; subst hb
      obtain ⟨w, o1, e1, e2⟩ := bind_ok e
      have e2 := ret_ok e2; subst e2
      have G := h.hp.get hg
      simp only [SObj.ok] at G
      obtain ⟨es, clk, g1, g2, en, g3, g4⟩ := G
      have hbl := (hpBl_mem h.hb _ (hget_mem hg)).2
      simp only [SObj.bl, Bool.and_eq_true] at hbl
      have J := wjoin_ok h.kn e1
      have hlt := St.lt_of_get g1
      have hfind : ∃ i, es.findIdx? (fun e => (e.born : Int) == ((ρ.a b : Nat) : Int)) = some i := by
        cases hq : es.findIdx? (fun e => (e.born : Int) == ((ρ.a b : Nat) : Int)) with
        | some i => exact ⟨i, rfl⟩
        | none =>
          rw [List.findIdx?_eq_none_iff] at hq
          have := hq en g3
          rw [g4] at this; simp at this
      obtain ⟨i, hi⟩ := hfind
      have hin := (List.findIdx?_eq_some_iff_getElem.1 hi).1
      refine ⟨_, _, by simp only [evOp, hc, hd, hf, mapOf, g1, intOf?, hi, List.getElem?_eq_getElem hin]; rfl, one1 (same_named h (h.put (o' := .map one ks w) hg rfl rfl (wjoin_bl hbl.1 e1) ?_) rfl trivial)⟩
      refine ⟨_, _, St.get_set_same _ _ hlt, fun e he => ?_⟩
      rcases List.mem_or_eq_of_mem_set he with he | rfl
      · exact ⟨(g2 e he).1, J.1 _ (g2 e he).2⟩
      · exact ⟨(g2 _ (List.getElem_mem hin)).1, J.2 _ rx⟩
    · exact (bad_ok e).elim

def mkmapS (ss : SS) : Outs := [(.map ss.nv, newS (.map true [] .any) ss)]
theorem mkmap_ok (h : Sat P ρ ss st) : Some1 P ρ ss.nv (st.alloc (.map [] 0)) (.map st.next) (mkmapS ss) :=
  one1 (new_named h (o := .map true [] .any) rfl (fun _ _ _ => ⟨[], 0, St.get_alloc_new _ _, by simp⟩) (s := .map ss.nv) (blt_succ _) (fun _ _ e => by simp only [R, e]))
end
end
end Go.EF.Rk
end

section
namespace Go.EF.Rk
noncomputable section
open Go Go.EF

section
variable {P : Program} {ρ ρ' : V} {ss : SS} {st : St} {fr : Fr} {frc : Nat → AV}

/-! ### least and greatest -/
def mnmxS (mx : Bool) (xs : List SV) (ss : SS) : M Outs := match xs with
  | [.int k a, .int k' b] => if k = k' then do
      let d := bif mx then a.sub b else b.sub a
      let x ← prv ss.fs d
      if x then pure [(.int k a, ss)] else do
        let y ← prv ss.fs (d.mul (-1))
        if y then pure [(.int k b, ss)] else do
          let s1 ← asm (.ge d) ss
          let s2 ← asm (.ge ((d.mul (-1)).addk (-1))) ss
          pure [(.int k a, s1), (.int k b, s2)]
    else bad 160
  | _ => bad 161
theorem mnmx_ok (h : Sat P ρ ss st) {mx : Bool} {xs : List SV} (hb : belowS ss.nv xs = true) {ys : List AV} (hx : Rs ρ xs ys) {os : List Opd} (hy : os.map (·.ev frc) = ys) {outs : Outs} {o o' : Orc} (e : mnmxS mx xs ss o = .ok outs o') :
    ∃ z, evOp P (·.ev frc) st (.mnmx mx os) = some (z, st) ∧ Some1 P ρ ss.nv st z outs := by
  unfold mnmxS at e
  split at e
  · rename_i k a k' b
    simp only [Rs] at hx
    obtain ⟨y1, r1, rfl, h1, y2, r2, rfl, h2, rfl⟩ := hx
    simp only [R] at h1 h2
    simp only [belowS, SV.bl, Bool.and_eq_true] at hb
    split at e
    · rename_i hk; subst hk
      have ev : evOp P (·.ev frc) st (.mnmx mx os) = some (.v (.int k (if mx then (if b.ev ρ.i > a.ev ρ.i then b.ev ρ.i else a.ev ρ.i) else (if b.ev ρ.i < a.ev ρ.i then b.ev ρ.i else a.ev ρ.i))), st) := by
        simp only [evOp, hy, h1.1, h2.1, toVs, AV.toV1]
        cases mx <;> rfl
      refine ⟨_, ev, ?_⟩
      have da : (bif mx then a.sub b else b.sub a).below ss.nv = true := by cases mx <;> simp only [cond_true, cond_false]; exact sub_below hb.2.1 hb.1; exact sub_below hb.1 hb.2.1
      have dv : (bif mx then a.sub b else b.sub a).ev ρ.i = if mx then a.ev ρ.i - b.ev ρ.i else b.ev ρ.i - a.ev ρ.i := by cases mx <;> simp [Lin.ev_sub]
      have A : 0 ≤ (bif mx then a.sub b else b.sub a).ev ρ.i → (if mx then (if b.ev ρ.i > a.ev ρ.i then b.ev ρ.i else a.ev ρ.i) else (if b.ev ρ.i < a.ev ρ.i then b.ev ρ.i else a.ev ρ.i)) = a.ev ρ.i := by
        intro hd; rw [dv] at hd; cases mx <;> simp at hd ⊢ <;> omega
      have B : (bif mx then a.sub b else b.sub a).ev ρ.i ≤ 0 → (if mx then (if b.ev ρ.i > a.ev ρ.i then b.ev ρ.i else a.ev ρ.i) else (if b.ev ρ.i < a.ev ρ.i then b.ev ρ.i else a.ev ρ.i)) = b.ev ρ.i := by
        intro hd; rw [dv] at hd; cases mx <;> simp at hd ⊢ <;> omega
      obtain ⟨x, o1, e1, e2⟩ := bind_ok e
      cases x with
      | true =>
        have e2 := ret_ok (by simpa using e2); subst e2
        rw [A (prv_ok h.kn e1)]
        exact one1 (.same h (s := .int k a) hb.1 ⟨rfl, h1.2⟩)
      | false =>
        simp only [Bool.false_eq_true, if_false] at e2
        obtain ⟨y, o2, e3, e4⟩ := bind_ok e2
        cases y with
        | true =>
          have e4 := ret_ok (by simpa using e4); subst e4
          have := prv_ok h.kn e3; rw [Lin.ev_mul] at this
          rw [B (by omega)]
          exact one1 (.same h (s := .int k b) hb.2.1 ⟨rfl, h2.2⟩)
        | false =>
          simp only [Bool.false_eq_true, if_false] at e4
          obtain ⟨s1, o3, e5, e6⟩ := bind_ok e4
          obtain ⟨s2, o4, e7, e8⟩ := bind_ok e6
          have e8 := ret_ok e8; subst e8
          by_cases hd : 0 ≤ (bif mx then a.sub b else b.sub a).ev ρ.i
          · rw [A hd]
            obtain ⟨S, hn⟩ := asm_ok h (c := .ge _) da (decide_eq_true hd) e5
            exact ⟨_, List.mem_cons_self .., ρ, Agree.refl _ _, by rw [hn]; exact Nat.le_refl _, S, ⟨rfl, h1.2⟩, by simp only [hn]; exact hb.1⟩
          · rw [B (by omega)]
            obtain ⟨S, hn⟩ := asm_ok h (c := .ge _) (addk_below (-1) (mul_below (-1) da)) (decide_eq_true (by rw [Lin.ev_addk, Lin.ev_mul]; omega)) e7
            exact ⟨_, List.mem_cons_of_mem _ (List.mem_singleton.2 rfl), ρ, Agree.refl _ _, by rw [hn]; exact Nat.le_refl _, S, ⟨rfl, h2.2⟩, by simp only [hn]; exact hb.2.1⟩
    · exact (bad_ok e).elim
  · exact (bad_ok e).elim

/-! ### rounds over strings -/
def srangeS (x : SV) (ss : SS) : M Outs := match x with
  | .str s => pure [(.ptr ss.nv 0, newS (.sit s (.k 0)) ss)]
  | _ => bad 162
theorem srange_ok (h : Sat P ρ ss st) {x : SV} (hb : x.bl ss.nv = true) {y : AV} (hx : R ρ x y) {c : Opd} (hc : c.ev frc = y) {outs : Outs} {o o' : Orc} (e : srangeS x ss o = .ok outs o') :
    ∃ z st', evOp P (·.ev frc) st (.srange c) = some (z, st') ∧ Some1 P ρ ss.nv st' z outs := by
  cases x <;> simp only [srangeS] at e <;> first | exact (bad_ok e).elim | skip
  rename_i s
  simp only [R] at hx; subst hx
  have e := ret_ok e; subst e
  refine ⟨.ptr st.next 0, st.alloc (.sit (ρ.s s) 0), by simp only [evOp, hc], one1 (new_named h (o := .sit s (.k 0)) (by simp only [SObj.bl, Bool.and_eq_true]; exact ⟨blt_mono (Nat.le_succ _) hb, rfl⟩) (fun ρ' ha _ => ?_) (s := .ptr ss.nv 0) (blt_succ _) (fun _ _ e => by simp only [R, e]))⟩
  simp only [SObj.ok, ha.s _ (Nat.blt_eq.mp hb), Lin.ev_k]; exact ⟨St.get_alloc_new _ _, Int.le_refl _⟩

theorem decode_width4 (s : ByteArray) (i : Nat) : (Utf8.decode s i).2 ≤ 4 := by
  unfold Utf8.decode
  simp only
  repeat' split
  all_goals simp
theorem decode_rune (s : ByteArray) (i : Nat) : (Utf8.decode s i).1 ≤ 2147483647 := by
  unfold Utf8.decode
  simp only
  repeat' split
  all_goals first | (simp only [Utf8.runeError]; omega) | skip
  all_goals (have := (s.get! (i + 0)).toNat_lt; have := (s.get! (i + 1)).toNat_lt; have := (s.get! (i + 2)).toNat_lt; have := (s.get! (i + 3)).toNat_lt; omega)

def snextS (x : SV) (ss : SS) : M Outs := match x with
  | .ptr a 0 => match hget ss.hp a with
    | some (.sit s p) => do
      let len ← opt 163 (strOf ss.ks s)
      let s1 ← asm (.ge (p.sub len)) ss
      let s2 ← asm (.ge ((len.sub p).addk (-1))) ss
      pure [(.tup [.bool .ff], s1), nm (.tup [.bool .tt, .int .i64 p, .uint .i32 [.k 0] []]) ⟨s2.nv + 1, [((Lin.v s2.nv).sub p).addk (-1), (p.addk 4).sub (Lin.v s2.nv)] ++ s2.fs, [] ++ s2.ks, hput s2.hp a (.sit s (.v s2.nv))⟩]
    | _ => bad 164
  | _ => bad 165
theorem snext_ok (h : Sat P ρ ss st) {x : SV} {y : AV} (hx : R ρ x y) {c : Opd} (hc : c.ev frc = y) {outs : Outs} {o o' : Orc} (e : snextS x ss o = .ok outs o') :
    ∃ z st', evOp P (·.ev frc) st (.snext c) = some (z, st') ∧ Some1 P ρ ss.nv st' z outs := by
  unfold snextS at e
  split at e
  · rename_i a
    simp only [R] at hx; subst hx
    cases hg : hget ss.hp a with
    | none => rw [hg] at e; exact (bad_ok e).elim
    | some ob =>
      rw [hg] at e
      cases ob <;> simp only at e <;> first | exact (bad_ok e).elim | skip
      rename_i s p
      obtain ⟨len, o1, e1, e2⟩ := bind_ok e
      obtain ⟨s1, o2, e3, e4⟩ := bind_ok e2
      obtain ⟨s2, o3, e5, e6⟩ := bind_ok e4
      have e6 := ret_ok e6; subst e6
      have hk := h.ks _ (strOf_mem (opt_ok e1))
      simp only [KI.bl, Bool.and_eq_true, KI.ok] at hk
      have hbl := (hpBl_mem h.hb _ (hget_mem hg)).2
      simp only [SObj.bl, Bool.and_eq_true] at hbl
      have G := h.hp.get hg
      simp only [SObj.ok] at G
      obtain ⟨g1, g2⟩ := G
      have hlt := St.lt_of_get g1
      by_cases hp : (p.ev ρ.i).toNat < (ρ.s s).size
      · obtain ⟨S, hn⟩ := asm_ok h (c := .ge ((len.sub p).addk (-1))) (addk_below _ (sub_below hk.1.2 hbl.2)) (decide_eq_true (by rw [Lin.ev_addk, Lin.ev_sub]; omega)) e5
        refine ⟨.tup [.bool true, .int (p.ev ρ.i).toNat, .v (.int .i32 (Utf8.decode (ρ.s s) (p.ev ρ.i).toNat).1)], st.set (ρ.a a) (.sit (ρ.s s) ((p.ev ρ.i).toNat + (Utf8.decode (ρ.s s) (p.ev ρ.i).toNat).2)), by simp only [evOp, hc, g1, if_pos hp], _, List.mem_cons_of_mem _ (List.mem_singleton.2 rfl), ?_⟩
        have w1 := decode_width (ρ.s s) (p.ev ρ.i).toNat
        have w2 := decode_width4 (ρ.s s) (p.ev ρ.i).toNat
        have w3 := decode_rune (ρ.s s) (p.ev ρ.i).toNat
        have hsz := hk.2.2
        simp only [LBIG] at hsz
        have hg2 : hget s2.hp a = some (.sit s p) := by
          obtain ⟨f, q1, q2, q3⟩ := bind_ok e5
          obtain ⟨g, q4, q5, q6⟩ := bind_ok q3
          have q6 := ret_ok q6; subst q6; exact hg
        let z : Pt := { i := (p.ev ρ.i).toNat + (Utf8.decode (ρ.s s) (p.ev ρ.i).toNat).2 }
        have ag := put_agree ρ s2.nv z
        have hb2 : p.below s2.nv = true := by rw [hn]; exact hbl.2
        have hbs : Nat.blt s s2.nv = true := by rw [hn]; exact hbl.1
        have ep : p.ev (ρ.put s2.nv z).i = p.ev ρ.i := lin_agree ag hb2
        have ev : (ρ.put s2.nv z).i s2.nv = (p.ev ρ.i).toNat + (Utf8.decode (ρ.s s) (p.ev ρ.i).toNat).2 := put_i _ _ _
        have S2 := S.ext ag (put_ok S.ok _ (by show _ ∧ _; simp only [z]; omega)) (Nat.le_succ _) [((Lin.v s2.nv).sub p).addk (-1), (p.addk 4).sub (Lin.v s2.nv)] [] (by
          intro f hf
          simp only [List.mem_cons, List.not_mem_nil, or_false] at hf
          have hb3 := Lin.below_mono (Nat.le_succ s2.nv) hb2
          rcases hf with rfl | rfl
          · exact ⟨addk_below _ (sub_below (v_below _) hb3), by rw [Lin.ev_addk, Lin.ev_sub, Lin.ev_v, ev, ep]; omega⟩
          · exact ⟨sub_below (addk_below _ hb3) (v_below _), by rw [Lin.ev_sub, Lin.ev_addk, Lin.ev_v, ev, ep]; omega⟩) (by simp)
        have ha : a < s2.nv := (hpBl_mem S.hb _ (hget_mem hg2)).1
        have hpa : (ρ.put s2.nv z).a a = ρ.a a := ag.a a ha
        have S3 := S2.put (o' := .sit s (.v s2.nv)) (ao := .sit (ρ.s s) ((p.ev ρ.i).toNat + (Utf8.decode (ρ.s s) (p.ev ρ.i).toNat).2)) hg2 rfl rfl (by simp only [SObj.bl, Bool.and_eq_true]; exact ⟨blt_mono (Nat.le_succ _) hbs, v_below _⟩) (by
          simp only [SObj.ok, hpa, Lin.ev_v, ev, ag.s _ (Nat.blt_eq.mp hbs)]
          exact ⟨by rw [St.get_set_same _ _ hlt]; congr 2, by omega⟩)
        rw [hpa] at S3
        have := (nm_ok (.tup [.bool .tt, .int .i64 p, .uint .i32 [.k 0] []]) S3 (x := .tup [.bool true, .int (p.ev ρ.i).toNat, .v (.int .i32 (Utf8.decode (ρ.s s) (p.ev ρ.i).toNat).1)]) (by
          have hb3 := Lin.below_mono (Nat.le_succ s2.nv) hb2
          simp only [SV.bl, belowS, Cond.bl, belowL, k_below, hb3, Bool.and_true]) (by
          simp only [R, Rs]
          refine ⟨_, rfl, _, _, rfl, rfl, _, _, rfl, ⟨?_, ?_⟩, _, _, rfl, ⟨_, rfl, ?_, ?_⟩, rfl⟩
          · rw [ep]; show AV.v (.int .i64 _) = _; congr 2; omega
          · rw [ep]; simp only [inR, ikLo, ikHi]; omega
          · simp only [inR, ikLo, ikHi]; omega
          · exact ⟨fun l hl => by rw [List.mem_singleton.1 hl, Lin.ev_k]; omega, by simp⟩)).less ag (Nat.le_succ _)
        rw [← hn]
        exact this
      · obtain ⟨S, hn⟩ := asm_ok h (c := .ge (p.sub len)) (sub_below hbl.2 hk.1.2) (decide_eq_true (by rw [Lin.ev_sub]; omega)) e3
        refine ⟨.tup [.bool false], st, by simp only [evOp, hc, g1, if_neg hp], _, List.mem_cons_self .., ρ, Agree.refl _ _, by rw [hn]; exact Nat.le_refl _, S, ?_, rfl⟩
        simp only [R, Rs]; exact ⟨_, rfl, _, _, rfl, rfl, rfl⟩
  · exact (bad_ok e).elim

/-! ### bounds of slices -/
def linOf : SV → Option Lin
  | .int _ l => some l
  | _ => none
def optL (fr : Fr) : Option Opd → M (Option Lin)
  | none => pure none
  | some o => match linOf (opS fr o) with
    | some l => pure (some l)
    | none => bad 170
/-- From nought up to a number. -/
def upto (fs : List Lin) (x m : Lin) : M Bool := do
  let a ← prv fs x
  if a then prv fs (m.sub x) else pure false
def boundsS (fs : List Lin) (n cap : Lin) (lo hi mx : Option Lin) : M (Lin × Lin × Lin) := do
  let m ← (match mx with
    | none => pure cap
    | some x => do
      let b ← upto fs x cap
      if b then pure x else bad 171)
  let h ← (match hi with
    | none => (match mx with | none => pure n | some _ => bad 172)
    | some x => do
      let b ← upto fs x m
      if b then pure x else bad 173)
  match lo with
  | none => pure (.k 0, h, m)
  | some x => do
    let b ← upto fs x h
    if b then pure (x, h, m) else bad 174
theorem upto_ok {fs : List Lin} {ks : List KI} (K : Kn P ρ fs ks) {x m : Lin} {o o' : Orc} (h : upto fs x m o = .ok true o') : 0 ≤ x.ev ρ.i ∧ x.ev ρ.i ≤ m.ev ρ.i := by
  obtain ⟨⟨o1, h1⟩, o2, h2⟩ := and_ok h
  have a := prv_ok K h1; have b := prv_ok K h2; rw [Lin.ev_sub] at b; exact ⟨a, by omega⟩
theorem optL_ok (hF : FR ρ fr frc) (hb : ∀ {n : Nat}, fr.bl n = true → True) {x : Option Opd} {l : Option Lin} {o o' : Orc} (e : optL fr x o = .ok l o') : (x = none ∧ l = none) ∨ ∃ op y, x = some op ∧ l = some y ∧ intOf? (op.ev frc) = some (y.ev ρ.i) ∧ linOf (opS fr op) = some y := by
  cases x with
  | none => exact .inl ⟨rfl, (ret_ok e).symm⟩
  | some op =>
    simp only [optL] at e
    cases hl : linOf (opS fr op) with
    | none => rw [hl] at e; exact (bad_ok e).elim
    | some y =>
      rw [hl] at e
      have e := ret_ok e; subst e
      have := opS_ok hF op
      cases hs : opS fr op <;> rw [hs] at hl this <;> simp only [linOf, reduceCtorEq] at hl
      cases hl
      simp only [R] at this
      exact .inr ⟨op, y, rfl, rfl, by rw [this.1]; rfl, by rw [hs]; rfl⟩
theorem linOf_bl {n : Nat} {s : SV} {l : Lin} (h : s.bl n = true) (e : linOf s = some l) : l.below n = true := by
  cases s <;> simp only [linOf, reduceCtorEq] at e
  cases e; exact h

def mOf (f : Opd → AV) (C : Nat) : Option Opd → Option Nat
  | none => some C
  | some o => match intOf? (f o) with | some i => if 0 ≤ i ∧ i ≤ C then some i.toNat else none | none => none
def hOf (f : Opd → AV) (N m : Nat) : Option Opd → Bool → Option Nat
  | none, false => some N
  | none, true => none
  | some o, _ => match intOf? (f o) with | some i => if 0 ≤ i ∧ i ≤ m then some i.toNat else none | none => none
def lOf (f : Opd → AV) (h m : Nat) : Option Opd → Option (Nat × Nat × Nat)
  | none => some (0, h, m)
  | some o => match intOf? (f o) with | some i => if 0 ≤ i ∧ i ≤ h then some (i.toNat, h, m) else none | none => none
theorem boundsOf_eq (f : Opd → AV) (N C : Nat) (lo hi mx : Option Opd) : boundsOf f N C lo hi mx = (match mOf f C mx with
    | none => none
    | some m => match hOf f N m hi mx.isSome with
      | none => none
      | some h => lOf f h m lo) := by
  cases lo <;> cases hi <;> cases mx <;> rfl
theorem bounds_ok (h : Sat P ρ ss st) (hF : FR ρ fr frc) (hb : fr.bl ss.nv = true) {n cap : Lin} {N C : Nat} (hn : n.ev ρ.i = N) (hc : cap.ev ρ.i = C) (hnc : N ≤ C) (bn : n.below ss.nv = true) (bc : cap.below ss.nv = true) {lo hi mx : Option Opd} {l1 l2 l3 : Option Lin} {o1 o2 o3 o4 o5 o6 : Orc}
    (e1 : optL fr lo o1 = .ok l1 o2) (e2 : optL fr hi o3 = .ok l2 o4) (e3 : optL fr mx o5 = .ok l3 o6) {r : Lin × Lin × Lin} {o o' : Orc} (e : boundsS ss.fs n cap l1 l2 l3 o = .ok r o') :
    boundsOf (·.ev frc) N C lo hi mx = some ((r.1.ev ρ.i).toNat, (r.2.1.ev ρ.i).toNat, (r.2.2.ev ρ.i).toNat) ∧ 0 ≤ r.1.ev ρ.i ∧ r.1.ev ρ.i ≤ r.2.1.ev ρ.i ∧ r.2.1.ev ρ.i ≤ r.2.2.ev ρ.i ∧ r.2.2.ev ρ.i ≤ C ∧ r.1.below ss.nv = true ∧ r.2.1.below ss.nv = true ∧ r.2.2.below ss.nv = true ∧ (l3 = none → r.2.2 = cap) := by
  have K := h.kn
  obtain ⟨m, p1, em, e⟩ := bind_ok e
  obtain ⟨hh, p2, eh, e⟩ := bind_ok e
  have lb : ∀ {op : Opd} {y : Lin}, linOf (opS fr op) = some y → y.below ss.nv = true := fun q => linOf_bl (opS_bl hb _) q
  -- the greatest
  have M1 : mOf (·.ev frc) C mx = some (m.ev ρ.i).toNat ∧ 0 ≤ m.ev ρ.i ∧ m.ev ρ.i ≤ C ∧ m.below ss.nv = true ∧ (l3 = none → m = cap) ∧ (l3 = none ↔ mx = none) := by
    rcases optL_ok hF (fun _ => trivial) e3 with ⟨rfl, rfl⟩ | ⟨op, y, rfl, rfl, q1, q2⟩
    · have em := ret_ok em; subst em
      exact ⟨by simp only [mOf, hc]; simp, by omega, by omega, bc, fun _ => rfl, by simp⟩
    · obtain ⟨b, p3, e4, e5⟩ := bind_ok em
      cases b with
      | false => exact (bad_ok (by simpa using e5)).elim
      | true =>
        have e5 := ret_ok (by simpa using e5); subst e5
        have := upto_ok K e4
        exact ⟨by simp only [mOf, q1]; rw [if_pos ⟨this.1, by omega⟩], this.1, by omega, lb q2, by simp, by simp⟩
  obtain ⟨m1, m2, m3, m4, m5, m6⟩ := M1
  have H1 : hOf (·.ev frc) N (m.ev ρ.i).toNat hi mx.isSome = some (hh.ev ρ.i).toNat ∧ 0 ≤ hh.ev ρ.i ∧ hh.ev ρ.i ≤ m.ev ρ.i ∧ hh.below ss.nv = true := by
    rcases optL_ok hF (fun _ => trivial) e2 with ⟨rfl, rfl⟩ | ⟨op, y, rfl, rfl, q1, q2⟩
    · cases l3 with
      | none =>
        have := m6.1 rfl; subst this
        have eh := ret_ok eh; subst eh
        have := m5 rfl; subst this
        exact ⟨by simp only [hOf, Option.isSome, hn]; simp, by omega, by omega, bn⟩
      | some _ => exact (bad_ok eh).elim
    · obtain ⟨b, p3, e4, e5⟩ := bind_ok eh
      cases b with
      | false => exact (bad_ok (by simpa using e5)).elim
      | true =>
        have e5 := ret_ok (by simpa using e5); subst e5
        have := upto_ok K e4
        refine ⟨?_, this.1, this.2, lb q2⟩
        cases mx <;> simp only [hOf, Option.isSome, q1] <;> rw [if_pos ⟨this.1, by omega⟩]
  obtain ⟨h1, h2, h3, h4⟩ := H1
  rcases optL_ok hF (fun _ => trivial) e1 with ⟨rfl, rfl⟩ | ⟨op, y, rfl, rfl, q1, q2⟩
  · have e := ret_ok e; subst e
    refine ⟨?_, by rw [Lin.ev_k]; omega, by simp only [Lin.ev_k]; exact h2, h3, m3, rfl, h4, m4, m5⟩
    rw [boundsOf_eq, m1]; simp only; rw [h1]; simp only [lOf, Lin.ev_k]; rfl
  · obtain ⟨b, p3, e4, e5⟩ := bind_ok e
    cases b with
    | false => exact (bad_ok (by simpa using e5)).elim
    | true =>
      have e5 := ret_ok (by simpa using e5); subst e5
      have := upto_ok K e4
      refine ⟨?_, this.1, this.2, h3, m3, lb q2, h4, m4, m5⟩
      rw [boundsOf_eq, m1]; simp only; rw [h1]; simp only [lOf, q1]; rw [if_pos ⟨this.1, by omega⟩]
end
end
end Go.EF.Rk
end

section
namespace Go.EF.Rk
noncomputable section
open Go Go.EF

section
variable {P : Program} {ρ ρ' : V} {ss : SS} {st : St} {fr : Fr} {frc : Nat → AV}

def isNil (o : Option Opd) : Bool := match o with | none => true | some _ => false
/-- A part whose place is as it should be although nothing may be left behind it. -/
def offOK (fs : List Lin) (l m : Lin) : M Bool :=
  if isK l && decide (l.c = 0) then pure true else prv fs ((m.sub l).addk (-1))
theorem offOK_ok {fs : List Lin} {ks : List KI} (K : Kn P ρ fs ks) {l m : Lin} {o o' : Orc} (h : offOK fs l m o = .ok true o') : l.ev ρ.i = 0 ∨ l.ev ρ.i < m.ev ρ.i := by
  unfold offOK at h
  split at h
  · rename_i hc
    simp only [Bool.and_eq_true, decide_eq_true_eq] at hc
    exact .inl (by rw [isK_ev hc.1]; exact hc.2)
  · have := prv_ok K h; rw [Lin.ev_addk, Lin.ev_sub] at this; exact .inr (by omega)

/-- A new list: its variable, and what is known of it. -/
def newList (ss : SS) (w : SOwn) (sz : Nat) (len : Lin) (nk : List KI) : SV × SS := (.list w ss.nv, ⟨ss.nv + 1, [] ++ ss.fs, (.lst ss.nv sz len :: nk) ++ ss.ks, ss.hp⟩)
theorem newList_ok (h : Sat P ρ ss st) (own : Own) (cs : List AV) (n : Nat) {w : SOwn} {sz : Nat} {len : Lin} {nk : List KI} (hl : cs.length = n * sz) (hn : n ≤ LBIG) (hlen : len.ev ρ.i = n) (bl : len.below ss.nv = true) (hw : (∃ q, w = q ∧ q.bl ss.nv = true ∧ q.den ρ = own) ∨ w = .var ss.nv)
    (hk : ∀ ρ', Agree ss.nv ρ ρ' → ρ'.l ss.nv = cs → ρ'.n ss.nv = n → ∀ k ∈ nk, k.bl (ss.nv + 1) = true ∧ k.ok P ρ') : Named P ρ ss.nv st (.list own cs n) (newList ss w sz len nk) := by
  let z : Pt := { l := cs, n := n, o := own }
  have ag := put_agree ρ ss.nv z
  have el : (ρ.put ss.nv z).l ss.nv = cs := put_l _ _ _
  have en : (ρ.put ss.nv z).n ss.nv = n := put_n _ _ _
  have eo : (ρ.put ss.nv z).o ss.nv = own := put_o _ _ _
  refine ⟨_, ag, Nat.le_succ _, h.ext ag (put_ok h.ok _ (by show _ ∧ _; simp only [z]; omega)) (Nat.le_succ _) [] (.lst ss.nv sz len :: nk) (by simp) ?_, ?_, ?_⟩
  · refine List.forall_mem_cons.2 ⟨⟨?_, ?_⟩, hk _ ag el en⟩
    · simp only [KI.bl, Bool.and_eq_true]; exact ⟨blt_succ _, Lin.below_mono (Nat.le_succ _) bl⟩
    · simp only [KI.ok, el, en, lin_agree ag bl]; exact ⟨hlen, hl, hn⟩
  · simp only [newList, R, el, en]
    rcases hw with ⟨q, rfl, q1, q2⟩ | rfl
    · have : w.den (ρ.put ss.nv z) = own := by
        rw [← q2]
        cases w with
        | any => rfl
        | exact => rfl
        | tok a => simp only [SOwn.den, ag.a _ (Nat.blt_eq.mp q1)]
        | var k => simp only [SOwn.den, ag.o _ (Nat.blt_eq.mp q1)]
      rw [this]
    · simp only [SOwn.den, eo]
  · simp only [newList, SV.bl, Bool.and_eq_true]
    refine ⟨?_, blt_succ _⟩
    rcases hw with ⟨q, rfl, q1, q2⟩ | rfl
    · exact SOwn.bl_mono (Nat.le_succ _) q1
    · exact blt_succ _
/-- All that is known of all elements of one list, of another one. -/
def copyAlls (L : Nat) (els : List (List SV)) : List KI := els.map fun el => .all L el

def slicearrT (n s : Nat) (x : SV) (full : Bool) (r : Lin × Lin × Lin) (ss : SS) : M Outs := match x with
  | .ptr a off => do
    let b ← offOK ss.fs r.1 (.k n)
    if b then pure [(.ms a off s r.1 (r.2.1.sub r.1) ((Lin.k n).sub r.1), ss)] else bad 180
  | .lptr L sz o i => match lstOf ss.ks L with
    | some (sz', _) => if sz' = sz ∧ full = true ∧ o + n * s ≤ sz then do
        let q ← rdElt ss L i
        if q.1.length = sz then pure [(.listc .any ((q.1.drop o).take (n * s)) n, q.2)] else bad 181
      else bad 182
    | none => bad 183
  | _ => bad 184
def slicearrS (n s : Nat) (x : SV) (lo hi : Option Opd) (fr : Fr) (ss : SS) : M Outs := do
  let l1 ← optL fr lo
  let l2 ← optL fr hi
  let r ← boundsS ss.fs (.k n) (.k n) l1 l2 none
  slicearrT n s x (isNil lo && isNil hi) r ss
theorem slicearr_ok (h : Sat P ρ ss st) (hF : FR ρ fr frc) (hf : fr.bl ss.nv = true) {n s : Nat} {x : SV} (hb : x.bl ss.nv = true) {y : AV} (hx : R ρ x y) {c : Opd} (hc : c.ev frc = y) {lo hi : Option Opd} {outs : Outs} {o o' : Orc} (e : slicearrS n s x lo hi fr ss o = .ok outs o') :
    ∃ z, evOp P (·.ev frc) st (.slicearr n s c lo hi) = some (z, st) ∧ Some1 P ρ ss.nv st z outs := by
  replace e := bind_ok e; obtain ⟨l1, o1, e1, e⟩ := e
  replace e := bind_ok e; obtain ⟨l2, o2, e2, e⟩ := e
  replace e := bind_ok e; obtain ⟨r, o3, e3, e⟩ := e
  have e4 : optL fr none o1 = .ok none o1 := rfl
  obtain ⟨q0, q1, q2, q3, q4, q5, q6, q7, q8⟩ := bounds_ok h hF hf (N := n) (C := n) (Lin.ev_k _ _) (Lin.ev_k _ _) (Nat.le_refl _) rfl rfl e1 e2 e4 e3
  have hm := q8 rfl
  have em : (r.2.2.ev ρ.i).toNat = n := by rw [hm, Lin.ev_k]; rfl
  rw [hm, Lin.ev_k] at q3
  cases x <;> simp only [slicearrT] at e <;> first | exact (bad_ok e).elim | skip
  · rename_i a off
    simp only [R] at hx; subst hx
    obtain ⟨b, o4, e5, e6⟩ := bind_ok e
    cases b with
    | false => exact (bad_ok (by simpa using e6)).elim
    | true =>
      have e6 := ret_ok (by simpa using e6); subst e6
      have ho := offOK_ok h.kn e5
      rw [Lin.ev_k] at ho
      refine ⟨_, by simp only [evOp, q0, hc]; rfl, one1 (.same h (s := .ms a off s r.1 (r.2.1.sub r.1) ((Lin.k n).sub r.1)) ?_ ?_)⟩
      · simp only [SV.bl, Bool.and_eq_true]; exact ⟨hb, q5, sub_below q6 q5, sub_below rfl q5⟩
      · simp only [R, Lin.ev_sub, Lin.ev_k, em]
        refine ⟨?_, q1, by omega, by omega⟩
        have : (if n = (r.1.ev ρ.i).toNat then off else off + (r.1.ev ρ.i).toNat * s) = off + (r.1.ev ρ.i).toNat * s := by
          split
          · rename_i hn; rcases ho with ho | ho
            · rw [ho]; simp
            · omega
          · rfl
        rw [this]; congr 1 <;> omega
  · rename_i L sz off i
    simp only [R] at hx
    obtain ⟨rfl, h0, h1⟩ := hx
    simp only [SV.bl, Bool.and_eq_true] at hb
    cases hl : lstOf ss.ks L with
    | none => rw [hl] at e; exact (bad_ok e).elim
    | some q =>
      obtain ⟨sz', len⟩ := q
      rw [hl] at e; simp only at e
      split at e
      · rename_i hk
        obtain ⟨k1, k2, k3⟩ := hk
        simp only [Bool.and_eq_true] at k2
        obtain ⟨qq, o4, e5, e6⟩ := bind_ok e
        split at e6
        · rename_i hlen
          have e6 := ret_ok e6; subst e6
          obtain ⟨ρ1, a1, a2, a3, a4, a5⟩ := rdElt_ok h (Nat.blt_eq.mp hb.1) hb.2 h0 h1 e5
          have lo0 : lo = none := by cases lo with | none => rfl | some _ => cases k2.1
          have hi0 : hi = none := by cases hi with | none => rfl | some _ => cases k2.2
          subst lo0 hi0
          have kk := h.ks _ (lstOf_mem hl)
          simp only [KI.ok] at kk
          have hlen1 : ((i.ev ρ.i).toNat + 1) * sz ≤ (ρ.l L).length := by rw [kk.2.2.1, ← k1]; exact Nat.mul_le_mul_right _ (by omega)
          have hexp : ((i.ev ρ.i).toNat + 1) * sz = (i.ev ρ.i).toNat * sz + sz := by rw [Nat.add_mul, Nat.one_mul]
          have hb0 : boundsOf (·.ev frc) n n none none none = some (0, n, n) := rfl
          refine ⟨_, by simp only [evOp, hb0, hc]; rw [if_pos (by omega)], one1 ⟨ρ1, a1, a2, a3, ?_, ?_⟩⟩
          · simp only [R]
            refine ⟨_, by simp only [Nat.sub_zero, Nat.zero_mul, Nat.add_zero]; rfl, ?_⟩
            rw [hlen] at a4
            have := Rs_take (Rs_drop a4 off) (n * s)
            unfold elemAt at this
            rw [List.drop_take, List.drop_drop, List.take_take, Nat.min_eq_left (by omega)] at this
            exact this
          · simp only [SV.bl, SOwn.bl, Bool.true_and]; exact belowS_take (belowS_drop a5 _) _
        · exact (bad_ok e6).elim
      · exact (bad_ok e).elim

def sliceT (s : Nat) (x : SV) (n1 n2 n3 : Bool) (l1 l2 l3 : Option Lin) (ss : SS) : M Outs := match x with
  | .list w L => match lstOf ss.ks L with
    | some (sz, len) => if sz = s then do
        let r ← boundsS ss.fs len len l1 l2 l3
        if n1 && n2 && n3 then pure [(.list w L, ss)]
        else if !n3 && decide (r.2.2 = r.2.1) && decide (r.2.1 = .k 0) && decide (r.1 = .k 0) then pure [(.listc .exact [] 0, ss)]
        else pure [newList ss (bif !n3 && decide (r.2.2 = r.2.1) then .exact else .var ss.nv) s (r.2.1.sub r.1) (.src ss.nv s [L] [] :: copyAlls ss.nv ((allsOf ss.ks L).filter fun el => Nat.beq el.length s))]
      else bad 185
    | none => bad 186
  | .listc w cs n => if cs.length = n * s then do
      let r ← boundsS ss.fs (.k n) (.k n) l1 l2 l3
      if n1 && n2 && n3 then pure [(.listc w cs n, ss)]
      else if isK r.1 && isK r.2.1 && (n3 || decide (r.2.2 = r.2.1)) then
        pure [(.listc (bif n3 then (bif decide (r.1.c.toNat = 0) && decide (r.2.1.c.toNat = n) then w else .any) else .exact) ((cs.drop (r.1.c.toNat * s)).take ((r.2.1.c.toNat - r.1.c.toNat) * s)) (r.2.1.c.toNat - r.1.c.toNat), ss)]
      else bad 187
    else bad 188
  | .ms a b sz i len cap => if sz = s then do
      let r ← boundsS ss.fs len cap l1 l2 l3
      let ok ← offOK ss.fs r.1 r.2.2
      if ok then pure [(.ms a b s (i.add r.1) (r.2.1.sub r.1) (r.2.2.sub r.1), ss)] else bad 189
    else bad 190
  | _ => bad 191
def sliceS (s : Nat) (x : SV) (lo hi mx : Option Opd) (fr : Fr) (ss : SS) : M Outs := do
  let l1 ← optL fr lo
  let l2 ← optL fr hi
  let l3 ← optL fr mx
  sliceT s x (isNil lo) (isNil hi) (isNil mx) l1 l2 l3 ss
theorem isNil_some {o : Option Opd} : o.isSome = !isNil o := by cases o <;> rfl
theorem part_elem {cs : List AV} {s l n j : Nat} (hj : j < n) : elemAt ((cs.drop (l * s)).take (n * s)) s j = elemAt cs s (l + j) := by
  unfold elemAt
  rw [List.drop_take, List.drop_drop, List.take_take, Nat.min_eq_left]
  · congr 2; rw [Nat.add_mul]
  · have := Nat.mul_le_mul_right s (show j + 1 ≤ n by omega); rw [Nat.add_mul, Nat.one_mul] at this; omega
theorem slice_ok (h : Sat P ρ ss st) (hF : FR ρ fr frc) (hf : fr.bl ss.nv = true) {s : Nat} {x : SV} (hb : x.bl ss.nv = true) {y : AV} (hx : R ρ x y) {c : Opd} (hc : c.ev frc = y) {lo hi mx : Option Opd} {outs : Outs} {o o' : Orc} (e : sliceS s x lo hi mx fr ss o = .ok outs o') :
    ∃ z, evOp P (·.ev frc) st (.slice s c lo hi mx) = some (z, st) ∧ Some1 P ρ ss.nv st z outs := by
  replace e := bind_ok e; obtain ⟨l1, o1, e1, e⟩ := e
  replace e := bind_ok e; obtain ⟨l2, o2, e2, e⟩ := e
  replace e := bind_ok e; obtain ⟨l3, o3, e3, e⟩ := e
  cases x <;> simp only [sliceT] at e <;> first | exact (bad_ok e).elim | skip
  · rename_i w L
    simp only [R] at hx; subst hx
    simp only [SV.bl, Bool.and_eq_true] at hb
    have hL := Nat.blt_eq.mp hb.2
    cases hl : lstOf ss.ks L with
    | none => rw [hl] at e; exact (bad_ok e).elim
    | some q =>
      obtain ⟨sz, len⟩ := q
      rw [hl] at e; simp only at e
      split at e
      · rename_i hs; subst hs
        replace e := bind_ok e; obtain ⟨r, o4, e4, e⟩ := e
        have kk := h.ks _ (lstOf_mem hl)
        simp only [KI.bl, Bool.and_eq_true, KI.ok] at kk
        obtain ⟨⟨_, kb⟩, k1, k2, k3⟩ := kk
        obtain ⟨q0, q1, q2, q3, q4, q5, q6, q7, q8⟩ := bounds_ok h hF hf k1 k1 (Nat.le_refl _) kb kb e1 e2 e3 e4
        simp only [evOp, hc]
        rw [if_pos k2, q0]
        simp only
        split at e
        · rename_i hn
          simp only [Bool.and_eq_true] at hn
          have e := ret_ok e; subst e
          have lo0 : lo = none := by cases lo with | none => rfl | some _ => cases hn.1.1
          have hi0 : hi = none := by cases hi with | none => rfl | some _ => cases hn.1.2
          have mx0 : mx = none := by cases mx with | none => rfl | some _ => cases hn.2
          subst lo0 hi0 mx0
          have hb0 : boundsOf (·.ev frc) (ρ.n L) (ρ.n L) none none none = some (0, ρ.n L, ρ.n L) := rfl
          rw [hb0] at q0
          simp only [Option.some.injEq, Prod.mk.injEq] at q0
          obtain ⟨z1, z2, z3⟩ := q0
          refine ⟨_, rfl, one1 (.same h (s := .list w L) (by simp only [SV.bl, Bool.and_eq_true]; exact hb) ?_)⟩
          simp only [R, ← z1, ← z2, ← z3]
          simp only [Option.isSome, Bool.false_eq_true, false_and, if_false, Nat.zero_mul, Nat.sub_zero, List.drop_zero, Option.isNone, true_and, and_self, if_true]
          rw [List.take_of_length_le (by omega)]
        · rename_i hn1
          split at e
          · rename_i hn
            simp only [Bool.and_eq_true, Bool.not_eq_true', decide_eq_true_eq] at hn
            obtain ⟨⟨⟨n1, n2⟩, n3⟩, n4⟩ := hn
            have e := ret_ok e; subst e
            have hz : (r.2.1.ev ρ.i).toNat = 0 := by rw [n3, Lin.ev_k]; rfl
            have hz2 : (r.1.ev ρ.i).toNat = 0 := by rw [n4, Lin.ev_k]; rfl
            refine ⟨_, rfl, one1 (.same h (s := .listc .exact [] 0) rfl ?_)⟩
            simp only [R, Rs, SOwn.den, n2, hz, hz2, isNil_some, n1]
            exact ⟨[], by simp, rfl⟩
          · have e := ret_ok e; subst e
            refine ⟨_, rfl, one1 ?_⟩
            refine newList_ok h _ _ _ ?_ ?_ ?_ (sub_below q6 q5) ?_ ?_
            · rw [List.length_take, List.length_drop, k2]
              have := Nat.mul_le_mul_right sz (show (r.2.1.ev ρ.i).toNat ≤ ρ.n L by omega)
              rw [Nat.sub_mul]; omega
            · omega
            · rw [Lin.ev_sub]; omega
            · cases hm : (!isNil mx && decide (r.2.2 = r.2.1)) with
              | false => exact .inr rfl
              | true =>
                simp only [Bool.and_eq_true, decide_eq_true_eq] at hm
                refine .inl ⟨.exact, rfl, rfl, ?_⟩
                rw [if_pos ⟨by rw [isNil_some]; exact hm.1, by rw [hm.2]⟩]; rfl
            · intro ρ1 ag el en
              have key : ∀ j, j < (r.2.1.ev ρ.i).toNat - (r.1.ev ρ.i).toNat → elemAt (((ρ.l L).drop ((r.1.ev ρ.i).toNat * sz)).take (((r.2.1.ev ρ.i).toNat - (r.1.ev ρ.i).toNat) * sz)) sz j = elemAt (ρ.l L) sz ((r.1.ev ρ.i).toNat + j) := fun j hj => part_elem hj
              refine List.forall_mem_cons.2 ⟨⟨by simp only [KI.bl, belowN, belowE, Bool.and_eq_true]; exact ⟨blt_succ _, ⟨blt_mono (Nat.le_succ _) hb.2, trivial⟩, trivial⟩, ?_⟩, ?_⟩
              · simp only [KI.ok, el, en]
                intro j hj
                exact .inl ⟨L, List.mem_singleton.2 rfl, (r.1.ev ρ.i).toNat + j, by rw [ag.ln _ hL]; omega, by rw [ag.l _ hL]; exact key j hj⟩
              · intro k hk
                obtain ⟨ell, hel, rfl⟩ := List.mem_map.1 hk
                obtain ⟨m1, m2⟩ := List.mem_filter.1 hel
                have hlen := Nat.eq_of_beq_eq_true m2
                have ka := h.ks _ (allsOf_mem m1)
                simp only [KI.bl, Bool.and_eq_true, KI.ok] at ka
                refine ⟨by simp only [KI.bl, Bool.and_eq_true]; exact ⟨blt_succ _, belowS_mono (Nat.le_succ _) _ ka.1.2⟩, ?_⟩
                simp only [KI.ok, el, en, hlen]
                intro j hj
                rw [key j hj]
                have := ka.2 ((r.1.ev ρ.i).toNat + j) (by omega)
                rw [hlen] at this
                exact Rs_agree ag ka.1.2 this
      · exact (bad_ok e).elim
  · rename_i w cs n
    simp only [R] at hx
    obtain ⟨ys, rfl, h1⟩ := hx
    simp only [SV.bl, Bool.and_eq_true] at hb
    split at e
    · rename_i hlen
      replace e := bind_ok e; obtain ⟨r, o4, e4, e⟩ := e
      obtain ⟨q0, q1, q2, q3, q4, q5, q6, q7, q8⟩ := bounds_ok h hF hf (N := n) (C := n) (Lin.ev_k _ _) (Lin.ev_k _ _) (Nat.le_refl _) rfl rfl e1 e2 e3 e4
      have k2 : ys.length = n * s := by rw [Rs_length h1, hlen]
      simp only [evOp, hc]
      rw [if_pos k2, q0]
      simp only
      split at e
      · rename_i hn
        simp only [Bool.and_eq_true] at hn
        have e := ret_ok e; subst e
        have lo0 : lo = none := by cases lo with | none => rfl | some _ => cases hn.1.1
        have hi0 : hi = none := by cases hi with | none => rfl | some _ => cases hn.1.2
        have mx0 : mx = none := by cases mx with | none => rfl | some _ => cases hn.2
        subst lo0 hi0 mx0
        have hb0 : boundsOf (·.ev frc) n n none none none = some (0, n, n) := rfl
        rw [hb0] at q0
        simp only [Option.some.injEq, Prod.mk.injEq] at q0
        obtain ⟨z1, z2, z3⟩ := q0
        refine ⟨_, rfl, one1 (.same h (s := .listc w cs n) (by simp only [SV.bl, Bool.and_eq_true]; exact hb) ?_)⟩
        simp only [R, ← z1, ← z2, ← z3]
        simp only [Option.isSome, Bool.false_eq_true, false_and, if_false, Nat.zero_mul, Nat.sub_zero, List.drop_zero, Option.isNone, true_and, and_self, if_true]
        rw [List.take_of_length_le (by omega)]
        exact ⟨ys, rfl, h1⟩
      · rename_i hn1
        split at e
        · rename_i hk
          simp only [Bool.and_eq_true] at hk
          obtain ⟨⟨k3, k4⟩, k5⟩ := hk
          have c1 := isK_ev k3 ρ.i; have c2 := isK_ev k4 ρ.i
          have e := ret_ok e; subst e
          refine ⟨_, rfl, one1 (.same h (s := .listc _ _ _) ?_ ?_)⟩
          · simp only [SV.bl, Bool.and_eq_true]
            refine ⟨?_, belowS_take (belowS_drop hb.2 _) _⟩
            cases isNil mx with
            | false => rfl
            | true => simp only [cond_true]; cases (decide (r.1.c.toNat = 0) && decide (r.2.1.c.toNat = n)); rfl; exact hb.1
          · simp only [R, c1, c2]
            refine ⟨_, ?_, Rs_take (Rs_drop h1 _) _⟩
            congr 1
            cases hm : isNil mx with
            | false =>
              rw [hm] at k5
              simp only [Bool.false_or, decide_eq_true_eq] at k5
              rw [if_pos ⟨by rw [isNil_some, hm]; rfl, by rw [k5, c2]⟩]; rfl
            | true =>
              have ns : ¬ mx.isSome = true := by rw [isNil_some, hm]; simp
              rw [if_neg (fun hh => ns hh.1)]
              have nn : mx.isNone = true := by cases mx with | none => rfl | some _ => cases hm
              simp only [cond_true, nn, true_and]
              by_cases hz : r.1.c.toNat = 0 ∧ r.2.1.c.toNat = n
              · rw [if_pos hz, decide_eq_true hz.1, decide_eq_true hz.2]; rfl
              · rw [if_neg hz]
                have : (decide (r.1.c.toNat = 0) && decide (r.2.1.c.toNat = n)) = false := by
                  rw [Bool.and_eq_false_iff]
                  rcases Classical.not_and_iff_not_or_not.1 hz with q | q
                  · exact .inl (decide_eq_false q)
                  · exact .inr (decide_eq_false q)
                rw [this]; rfl
        · exact (bad_ok e).elim
    · exact (bad_ok e).elim
  · rename_i a b sz i len cap
    simp only [R] at hx
    obtain ⟨rfl, g0, g1, g2⟩ := hx
    simp only [SV.bl, Bool.and_eq_true] at hb
    split at e
    · rename_i hs; subst hs
      replace e := bind_ok e; obtain ⟨r, o4, e4, e⟩ := e
      replace e := bind_ok e; obtain ⟨bb, o5, e5, e⟩ := e
      cases bb with
      | false => exact (bad_ok (by simpa using e)).elim
      | true =>
        have e := ret_ok (by simpa using e); subst e
        obtain ⟨q0, q1, q2, q3, q4, q5, q6, q7, q8⟩ := bounds_ok h hF hf (N := (len.ev ρ.i).toNat) (C := (cap.ev ρ.i).toNat) (by omega) (by omega) (by omega) hb.2.2.1 hb.2.2.2 e1 e2 e3 e4
        have ho := offOK_ok h.kn e5
        simp only [evOp, hc, q0]
        refine ⟨_, rfl, one1 (.same h (s := .ms a b sz (i.add r.1) (r.2.1.sub r.1) (r.2.2.sub r.1)) (by simp only [SV.bl, Bool.and_eq_true]; exact ⟨hb.1, add_below hb.2.1 q5, sub_below q6 q5, sub_below q7 q5⟩) ?_)⟩
        simp only [R, Lin.ev_sub, Lin.ev_add]
        refine ⟨?_, by omega, by omega, by omega⟩
        have e3 : (i.ev ρ.i + r.1.ev ρ.i).toNat = (i.ev ρ.i).toNat + (r.1.ev ρ.i).toNat := by omega
        have : (if (r.2.2.ev ρ.i).toNat = (r.1.ev ρ.i).toNat then b + (i.ev ρ.i).toNat * sz else b + (i.ev ρ.i).toNat * sz + (r.1.ev ρ.i).toNat * sz) = b + ((i.ev ρ.i).toNat + (r.1.ev ρ.i).toNat) * sz := by
          rw [Nat.add_mul]
          split
          · rename_i hn; rcases ho with ho | ho
            · rw [ho]; simp
            · omega
          · omega
        rw [this, e3]; congr 1 <;> omega
    · exact (bad_ok e).elim

def slicestrS (x : SV) (lo hi : Option Opd) (fr : Fr) (ss : SS) : M Outs := do
  let l1 ← optL fr lo
  let l2 ← optL fr hi
  let n ← opt 192 (strLen ss.ks x)
  let r ← boundsS ss.fs n n l1 l2 none
  fin (.ustr [r.2.1.sub r.1] [r.2.1.sub r.1]) ss
theorem slicestr_ok (h : Sat P ρ ss st) (hF : FR ρ fr frc) (hf : fr.bl ss.nv = true) {x : SV} {y : AV} (hx : R ρ x y) {c : Opd} (hc : c.ev frc = y) {lo hi : Option Opd} {outs : Outs} {o o' : Orc} (e : slicestrS x lo hi fr ss o = .ok outs o') :
    ∃ z, evOp P (·.ev frc) st (.slicestr c lo hi) = some (z, st) ∧ Some1 P ρ ss.nv st z outs := by
  replace e := bind_ok e; obtain ⟨l1, o1, e1, e⟩ := e
  replace e := bind_ok e; obtain ⟨l2, o2, e2, e⟩ := e
  replace e := bind_ok e; obtain ⟨n, o3, e3, e⟩ := e
  replace e := bind_ok e; obtain ⟨r, o4, e4, e⟩ := e
  obtain ⟨bs, rfl, q1, q2, q3⟩ := strLen_ok h (opt_ok e3) hx
  have e5 : optL fr none o1 = .ok none o1 := rfl
  obtain ⟨z0, z1, z2, z3, z4, z5, z6, z7, z8⟩ := bounds_ok h hF hf q1 q1 (Nat.le_refl _) q2 q2 e1 e2 e5 e4
  have hm := z8 rfl
  rw [hm, q1] at z3
  have hsz : ((bs.extract (r.1.ev ρ.i).toNat (r.2.1.ev ρ.i).toNat).size : Int) = r.2.1.ev ρ.i - r.1.ev ρ.i := by
    rw [ByteArray.size_extract]; omega
  refine ⟨_, by simp only [evOp, hc, z0]; rfl, fin_here h (s := .ustr [r.2.1.sub r.1] [r.2.1.sub r.1]) ?_ (by simp only [SV.bl, belowL, sub_below z6 z5, Bool.and_true]) e⟩
  simp only [R]
  refine ⟨_, rfl, by omega, fun l hl => ?_, fun l hl => ?_⟩
  · rw [List.mem_singleton.1 hl, Lin.ev_sub, hsz]; exact Int.le_refl _
  · rw [List.mem_singleton.1 hl, Lin.ev_sub, hsz]; exact Int.le_refl _

def mksliceS (z : List AV) (bytes : Nat) (l c : SV) (ss : SS) : M Outs := match l, c with
  | .int _ l, .int _ c => do
    let a ← prv ss.fs l
    let b ← prv ss.fs (c.sub l)
    let d ← prv ss.fs ((c.mul (-(bytes : Int))).addk 140737488355328)
    if a && b && d then pure [(.ms ss.nv 0 z.length (.k 0) l c, newS (.vec false c (ofAVs z)) ss)] else bad 193
  | _, _ => bad 194
theorem mkslice_ok (h : Sat P ρ ss st) {z : List AV} {sz bytes : Nat} {l c : SV} (bl : l.bl ss.nv = true) (bc : c.bl ss.nv = true) {yl yc : AV} (rl : R ρ l yl) (rc : R ρ c yc) {ol oc : Opd} (hl : ol.ev frc = yl) (hc : oc.ev frc = yc) {outs : Outs} {o o' : Orc} (e : mksliceS z bytes l c ss o = .ok outs o') :
    ∃ y st', evOp P (·.ev frc) st (.mkslice z sz bytes ol oc) = some (y, st') ∧ Some1 P ρ ss.nv st' y outs := by
  unfold mksliceS at e
  split at e
  · rename_i k1 l k2 c
    simp only [R] at rl rc
    replace e := bind_ok e; obtain ⟨a, o1, e1, e⟩ := e
    replace e := bind_ok e; obtain ⟨b, o2, e2, e⟩ := e
    replace e := bind_ok e; obtain ⟨d, o3, e3, e⟩ := e
    split at e
    · rename_i hk
      simp only [Bool.and_eq_true] at hk
      obtain ⟨⟨rfl, rfl⟩, rfl⟩ := hk
      have e := ret_ok e; subst e
      have p1 := prv_ok h.kn e1; have p2 := prv_ok h.kn e2; have p3 := prv_ok h.kn e3
      rw [Lin.ev_sub] at p2; rw [Lin.ev_addk, Lin.ev_mul] at p3
      have cond : 0 ≤ l.ev ρ.i ∧ l.ev ρ.i ≤ c.ev ρ.i ∧ (bytes : Int) * c.ev ρ.i ≤ 2 ^ 47 := ⟨p1, by omega, by rw [Int.neg_mul] at p3; omega⟩
      refine ⟨.ms st.next 0 (l.ev ρ.i).toNat (c.ev ρ.i).toNat, st.alloc (.cells (rep z (c.ev ρ.i).toNat)), by simp only [evOp, hl, hc, rl.1, rc.1, intOf?]; rw [if_pos cond], one1 (new_named h (o := .vec false c (ofAVs z)) ?_ ?_ (s := .ms ss.nv 0 z.length (.k 0) l c) ?_ ?_)⟩
      · simp only [SObj.bl, Bool.and_eq_true]; exact ⟨Lin.below_mono (Nat.le_succ _) bc, ofAVs_bl _ _⟩
      · intro ρ1 ag _
        have ec : c.ev ρ1.i = c.ev ρ.i := lin_agree ag bc
        have ln : (ofAVs z).length = z.length := (Rs_length (ofAVs_ok ρ z)).symm
        simp only [SObj.ok, ec, ln]
        exact ⟨_, St.get_alloc_new _ _, by omega, rep_length _ _, fun j hj => by have := rep_seg z (c.ev ρ.i).toNat j hj; unfold seg at this; unfold elemAt; rw [this]; exact ofAVs_ok _ _⟩
      · simp only [SV.bl, Bool.and_eq_true]; exact ⟨blt_succ _, rfl, Lin.below_mono (Nat.le_succ _) bl, Lin.below_mono (Nat.le_succ _) bc⟩
      · intro ρ1 ag ea
        simp only [R, lin_agree ag bc, lin_agree ag bl, ea, Lin.ev_k]
        exact ⟨by simp, by omega, by omega, by omega⟩
    · exact (bad_ok e).elim
  · exact (bad_ok e).elim
end
end
end Go.EF.Rk
end

section
namespace Go.EF.Rk
noncomputable section
open Go Go.EF

inductive Src where
  | cells (cs : List SV) (k : Nat)
  | list (M : Nat) (len : Lin)
  | elems (el : List SV) (len : Lin)
def Src.len : Src → Lin
  | .cells _ k => .k k
  | .list _ l => l
  | .elems _ l => l
def srcOK (ρ : V) (sz : Nat) (s : Src) (ys : List AV) (n : Nat) : Prop := s.len.ev ρ.i = n ∧ ys.length = n * sz ∧ match s with
  | .cells cs _ => Rs ρ cs ys
  | .list M _ => ys = ρ.l M ∧ n = ρ.n M
  | .elems el _ => el.length = sz ∧ ∀ j, j < n → Rs ρ el (elemAt ys sz j)
def Src.bl (n : Nat) : Src → Bool
  | .cells cs _ => belowS n cs
  | .list M l => Nat.blt M n && l.below n
  | .elems el l => belowS n el && l.below n
def srcS (sz : Nat) (y : SV) (ss : SS) : M Src := match y with
  | .list _ L => match lstOf ss.ks L with
    | some (sz', len) => if sz' = sz then pure (.list L len) else bad 200
    | none => bad 201
  | .listc _ cs k => if cs.length = k * sz then pure (.cells cs k) else bad 202
  | .ms a b sz' i len _ => if sz' = sz then match hget ss.hp a with
      | some (.vec false n el) => if b = 0 ∧ el.length = sz then do
          let ok ← prv ss.fs ((n.sub i).sub len)
          if ok then pure (.elems el len) else bad 203
        else bad 204
      | some (.cells cs) => if isK i && isK len && decide (b + i.c.toNat * sz + len.c.toNat * sz ≤ cs.length) then pure (.cells ((cs.drop (b + i.c.toNat * sz)).take (len.c.toNat * sz)) len.c.toNat) else bad 205
      | _ => bad 206
    else bad 207
  | _ => bad 208

section
variable {P : Program} {ρ ρ' : V} {ss : SS} {st : St} {fr : List SV} {frc : Nat → AV}

theorem srcS_ok (h : Sat P ρ ss st) {sz : Nat} {y : SV} (hb : y.bl ss.nv = true) {z : AV} (hy : R ρ y z) {s : Src} {o o' : Orc} (e : srcS sz y ss o = .ok s o') : ∃ ys n, srcCells st sz z = some (ys, n) ∧ srcOK ρ sz s ys n ∧ s.bl ss.nv = true := by
  cases y <;> simp only [srcS] at e <;> first | exact (bad_ok e).elim | skip
  · rename_i w L
    simp only [R] at hy; subst hy
    cases hl : lstOf ss.ks L with
    | none => rw [hl] at e; exact (bad_ok e).elim
    | some q =>
      obtain ⟨sz', len⟩ := q
      rw [hl] at e; simp only at e
      split at e
      · rename_i hs; subst hs
        have e := ret_ok e; subst e
        have kk := h.ks _ (lstOf_mem hl)
        simp only [KI.bl, Bool.and_eq_true, KI.ok] at kk
        exact ⟨ρ.l L, ρ.n L, by simp only [srcCells]; rw [if_pos kk.2.2.1], ⟨kk.2.1, kk.2.2.1, rfl, rfl⟩, by simp only [Src.bl, Bool.and_eq_true]; exact kk.1⟩
      · exact (bad_ok e).elim
  · rename_i w cs k
    simp only [R] at hy
    obtain ⟨ys, rfl, h1⟩ := hy
    simp only [SV.bl, Bool.and_eq_true] at hb
    split at e
    · rename_i hc
      have e := ret_ok e; subst e
      have : ys.length = k * sz := by rw [Rs_length h1, hc]
      exact ⟨ys, k, by simp only [srcCells]; rw [if_pos this], ⟨Lin.ev_k _ _, this, h1⟩, hb.2⟩
    · exact (bad_ok e).elim
  · rename_i a b sz' i len cap
    simp only [R] at hy
    obtain ⟨rfl, g0, g1, g2⟩ := hy
    simp only [SV.bl, Bool.and_eq_true] at hb
    split at e
    · rename_i hs; subst hs
      cases hg : hget ss.hp a with
      | none => rw [hg] at e; exact (bad_ok e).elim
      | some ob =>
        rw [hg] at e
        have hbl := (hpBl_mem h.hb _ (hget_mem hg)).2
        cases ob <;> (try simp only at e) <;> first | exact (bad_ok e).elim | skip
        · rename_i cs
          obtain ⟨ys, q1, q2⟩ := h.hp.get hg
          split at e
          · rename_i hk
            simp only [Bool.and_eq_true, decide_eq_true_eq] at hk
            obtain ⟨⟨k1, k2⟩, k3⟩ := hk
            have e := ret_ok e; subst e
            have c1 := isK_ev k1 ρ.i; have c2 := isK_ev k2 ρ.i
            have hl : b + (i.ev ρ.i).toNat * sz' + (len.ev ρ.i).toNat * sz' ≤ ys.length := by rw [c1, c2, Rs_length q2]; exact k3
            refine ⟨_, _, by simp only [srcCells, q1]; rw [if_pos hl], ⟨?_, ?_, ?_⟩, belowS_take (belowS_drop hbl _) _⟩
            · simp only [Src.len, Lin.ev_k, c2]
            · rw [List.length_take, List.length_drop]; omega
            · simp only [c1, c2]; exact Rs_take (Rs_drop q2 _) _
          · exact (bad_ok e).elim
        · rename_i xf n el
          cases xf with
          | true => exact (bad_ok e).elim
          | false =>
            simp only [SObj.bl, Bool.and_eq_true] at hbl
            replace e : (if b = 0 ∧ el.length = sz' then do
              let ok ← prv ss.fs ((n.sub i).sub len)
              if ok then pure (.elems el len) else bad 203 else bad 204 : M Src) o = .ok s o' := e
            split at e
            · rename_i hk
              obtain ⟨rfl, rfl⟩ := hk
              obtain ⟨ok, o1, e1, e2⟩ := bind_ok e
              cases ok with
              | false => exact (bad_ok (by simpa using e2)).elim
              | true =>
                have e2 := ret_ok (by simpa using e2); subst e2
                have pr := prv_ok h.kn e1
                rw [Lin.ev_sub, Lin.ev_sub] at pr
                obtain ⟨ys, q1, q2, q3, q4⟩ := h.hp.get hg
                have q1 : st.get (ρ.a a) = some (.cells ys) := q1
                have hle : 0 + (i.ev ρ.i).toNat * el.length + (len.ev ρ.i).toNat * el.length ≤ ys.length := by
                  rw [q3, Nat.zero_add, ← Nat.add_mul]; exact Nat.mul_le_mul_right _ (by omega)
                refine ⟨_, _, by simp only [srcCells, q1]; rw [if_pos hle], ⟨?_, ?_, rfl, fun j hj => ?_⟩, by simp only [Src.bl, Bool.and_eq_true]; exact ⟨hbl.2, hb.2.2.1⟩⟩
                · show len.ev ρ.i = _; omega
                · rw [List.length_take, List.length_drop]; omega
                · rw [Nat.zero_add, part_elem hj]; exact q4 _ (by omega)
            · exact (bad_ok e).elim
    · exact (bad_ok e).elim

/-- All elements of a source are so. -/
def srcLe (fs : List Lin) (ks : List KI) (el : List SV) : Src → M Bool
  | .cells cs k => leCh (le fs ks 8) el k cs
  | .list M len => hasAll fs ks 8 M len el
  | .elems el' _ => leL (le fs ks 8) el' el
theorem srcLe_ok (K : Kn P ρ ss.fs ss.ks) {sz : Nat} {el : List SV} (hel : el.length = sz) {s : Src} {ys : List AV} {n : Nat} (hs : srcOK ρ sz s ys n) {o o' : Orc} (e : srcLe ss.fs ss.ks el s o = .ok true o') : ∀ j, j < n → Rs ρ el (elemAt ys sz j) := by
  subst hel
  obtain ⟨h1, h2, h3⟩ := hs
  cases s with
  | cells cs k =>
    simp only [Src.len, Lin.ev_k] at h1
    have : n = k := by omega
    subst this
    exact leCh_ok (le_both K 8).1 e _ h3
  | list M len =>
    obtain ⟨rfl, rfl⟩ := h3
    exact hasAll_ok K e h1
  | elems el' len => exact fun j hj => leL_ok (le_both K 8).1 e _ (h3.2 j hj)

def srcOnes (ks : List KI) (sz : Nat) : Src → Bool
  | .cells cs _ => cs.all sOne
  | .list M _ => (allsOf ks M).any fun el => el.all sOne && decide (el.length = sz)
  | .elems el _ => el.all sOne
theorem ones_of_elems {ys : List AV} {sz n : Nat} (hl : ys.length = n * sz) (h : ∀ j, j < n → (elemAt ys sz j).all AV.one = true) : ys.all AV.one = true := by
  rw [List.all_eq_true]
  intro x hx
  obtain ⟨q, hq, rfl⟩ := List.mem_iff_getElem.1 hx
  have hsz : 0 < sz := by
    rcases Nat.eq_zero_or_pos sz with h0 | h0
    · subst h0; rw [Nat.mul_zero] at hl; omega
    · exact h0
  have hd : q / sz < n := by rw [Nat.div_lt_iff_lt_mul hsz]; omega
  have := h (q / sz) hd
  rw [List.all_eq_true] at this
  apply this
  rw [List.mem_iff_getElem?]
  refine ⟨q % sz, ?_⟩
  unfold elemAt
  rw [List.getElem?_take, if_pos (Nat.mod_lt _ hsz), List.getElem?_drop]
  have : q / sz * sz + q % sz = q := by rw [Nat.mul_comm]; exact Nat.div_add_mod q sz
  rw [this, List.getElem?_eq_getElem hq]
theorem srcOnes_ok (h : Sat P ρ ss st) {sz : Nat} {s : Src} {ys : List AV} {n : Nat} (hs : srcOK ρ sz s ys n) (e : srcOnes ss.ks sz s = true) : ys.all AV.one = true := by
  obtain ⟨h1, h2, h3⟩ := hs
  cases s with
  | cells cs k => exact sOnes_ok e h3
  | list M len =>
    obtain ⟨rfl, rfl⟩ := h3
    simp only [srcOnes, List.any_eq_true, Bool.and_eq_true, decide_eq_true_eq] at e
    obtain ⟨el, m1, m2, m3⟩ := e
    have kk := h.ks _ (allsOf_mem m1)
    simp only [KI.ok] at kk
    exact ones_of_elems h2 fun j hj => by have := kk.2 j hj; rw [m3] at this; exact sOnes_ok m2 this
  | elems el len => exact ones_of_elems h2 fun j hj => sOnes_ok e (h3.2 j hj)

/-! ### rooms -/
def hdel : Hp → Nat → Hp
  | [], _ => []
  | (a, o) :: r, i => bif Nat.beq a i then r else (a, o) :: hdel r i
theorem hdel_sub : ∀ {hp : Hp} {i : Nat} (x : Nat × SObj), x ∈ hdel hp i → x ∈ hp
  | (a, o) :: r, i, x, h => by
    simp only [hdel] at h
    cases hb : Nat.beq a i with
    | true => rw [hb] at h; exact List.mem_cons_of_mem _ h
    | false =>
      rw [hb] at h
      rcases List.mem_cons.1 h with rfl | h
      · exact List.mem_cons_self ..
      · exact List.mem_cons_of_mem _ (hdel_sub x h)
theorem hdel_ok {hp : Hp} (H : HP ρ hp st) {i : Nat} {o : SObj} (hg : hget hp i = some o) (hl : lv ρ (i, o)) : HP ρ (hdel hp i) st ∧ ∀ e ∈ hdel hp i, lv ρ e → ρ.a e.1 ≠ ρ.a i := by
  induction hp with
  | nil => cases hg
  | cons e r ih =>
    simp only [hget_cons] at hg
    simp only [hdel]
    have pw := List.pairwise_cons.1 H.ne
    cases hb : Nat.beq e.1 i with
    | true =>
      rw [hb] at hg; cases hg
      have hi := Nat.eq_of_beq_eq_true hb
      have hl' : lv ρ e := by rw [show e = (i, e.2) from by rw [← hi]]; exact hl
      exact ⟨H.tail, fun x hx hxl => by rw [← hi]; exact (pw.1 x hx hl' hxl).symm⟩
    | false =>
      rw [hb] at hg
      simp only [cond_false]
      obtain ⟨H1, H2⟩ := ih H.tail hg
      refine ⟨⟨fun x hx => ?_, List.pairwise_cons.2 ⟨fun x hx => pw.1 x (hdel_sub x hx), H1.ne⟩, H.rest, fun x hx hxl => ?_⟩, fun x hx hxl => ?_⟩
      · rcases List.mem_cons.1 hx with rfl | hx
        · exact H.ok _ (List.mem_cons_self ..)
        · exact H1.ok x hx
      · rcases List.mem_cons.1 hx with rfl | hx
        · exact H.sep _ (List.mem_cons_self ..) hxl
        · exact H1.sep x hx hxl
      · rcases List.mem_cons.1 hx with rfl | hx
        · exact pw.1 _ (hget_mem hg) hxl hl
        · exact H2 x hx hxl
theorem hdel_bl {n : Nat} : ∀ {hp : Hp} {i : Nat}, hpBl n hp = true → hpBl n (hdel hp i) = true
  | [], _, _ => rfl
  | (a, o) :: r, i, h => by
    simp only [hpBl, Bool.and_eq_true] at h
    simp only [hdel]
    cases Nat.beq a i with
    | true => exact h.2
    | false => simp only [cond_false, hpBl, Bool.and_eq_true]; exact ⟨h.1, hdel_bl h.2⟩
/-- The room of a list that grows: its entry is given up. -/
def hown : Hp → Nat → Option (Nat × Nat)
  | [], _ => none
  | (a, .own k sz _) :: r, i => bif Nat.beq k i then some (a, sz) else hown r i
  | _ :: r, i => hown r i
def takeRoom (hp : Hp) (sz : Nat) : SOwn → Option Hp
  | .exact => some hp
  | .tok a => match hget hp a with
    | some (.arr true s) => if s = sz then some (hdel hp a) else none
    | _ => none
  | .var k => match hown hp k with
    | some (a, s) => match hget hp a with
      | some (.own k' s' _) => if k' = k ∧ s' = sz ∧ s = sz then some (hdel hp a) else none
      | _ => none
    | none => none
  | .any => none
/-- What comes of a row that grows. -/
def grown (st : St) (sz : Nat) : Own → St
  | .tok a => st.set a (.arr false sz)
  | _ => st
theorem takeRoom_ok (h : Sat P ρ ss st) {sz : Nat} {w : SOwn} {hp' : Hp} (e : takeRoom ss.hp sz w = some hp') :
    (w.den ρ = .exact ∨ ∃ a, w.den ρ = .tok a ∧ st.get a = some (.arr true sz)) ∧ Sat P ρ { ss with hp := hp' } (grown st sz (w.den ρ)) ∧ (grown st sz (w.den ρ)).next = st.next := by
  have nx : (grown st sz (w.den ρ)).next = st.next := by unfold grown; split; exact St.next_set _ _ _; rfl
  refine ⟨?_, ?_, nx⟩
  · cases w with
    | any => cases e
    | exact => exact .inl rfl
    | tok a =>
      simp only [takeRoom] at e
      split at e
      · rename_i s hg
        split at e
        · rename_i hs; subst hs; exact .inr ⟨_, rfl, h.hp.get hg⟩
        · cases e
      · cases e
    | var k =>
      simp only [takeRoom] at e
      split at e
      · split at e
        · rename_i hg
          split at e
          · rename_i hk; obtain ⟨rfl, rfl, _⟩ := hk
            have := h.hp.get hg
            simp only [SObj.ok] at this
            rcases this with q | q
            · exact .inl q.1
            · exact .inr ⟨_, q.1, q.2⟩
          · cases e
        · cases e
      · cases e
  · cases w with
    | any => cases e
    | exact => simp only [takeRoom, Option.some.injEq] at e; subst e; exact h
    | tok a =>
      simp only [takeRoom] at e
      split at e
      · rename_i s hg
        split at e
        · rename_i hs; subst hs
          cases e
          obtain ⟨H1, H2⟩ := hdel_ok h.hp hg (lv_real rfl)
          exact ⟨h.ok, h.fs, h.ks, hdel_bl h.hb, H1.off (h.hp.sep _ (hget_mem hg) (lv_real rfl)) H2 fun b hb => St.get_set_ne _ _ (Ne.symm hb)⟩
        · cases e
      · cases e
    | var k =>
      simp only [takeRoom] at e
      split at e
      · rename_i a s _
        split at e
        · rename_i k' s' em hg
          split at e
          · rename_i hk; obtain ⟨rfl, rfl, _⟩ := hk
            cases e
            have ok := h.hp.get hg
            simp only [SObj.ok] at ok
            by_cases hx : ρ.o k' = .exact
            · -- no object stands for it
              have hgr : grown st s' (SOwn.den ρ (.var k')) = st := by simp only [SOwn.den, hx, grown]
              rw [hgr]
              refine ⟨h.ok, h.fs, h.ks, hdel_bl h.hb, ⟨fun x hm => h.hp.ok x (hdel_sub x hm), ?_, h.hp.rest, fun x hm => h.hp.sep x (hdel_sub x hm)⟩⟩
              have : ∀ {hp : Hp}, hp.Pairwise (fun e e' => lv ρ e → lv ρ e' → ρ.a e.1 ≠ ρ.a e'.1) → (hdel hp a).Pairwise fun e e' => lv ρ e → lv ρ e' → ρ.a e.1 ≠ ρ.a e'.1 := by
                intro hp
                induction hp with
                | nil => intro h; exact h
                | cons x r ih =>
                  intro h
                  have pw := List.pairwise_cons.1 h
                  simp only [hdel]
                  cases Nat.beq x.1 a with
                  | true => exact pw.2
                  | false => exact List.pairwise_cons.2 ⟨fun y hy => pw.1 y (hdel_sub y hy), ih pw.2⟩
              exact this h.hp.ne
            · obtain ⟨H1, H2⟩ := hdel_ok h.hp hg (by unfold lv; exact hx)
              rcases ok with q | q
              · exact absurd q.1 hx
              · have hgr : grown st s' (SOwn.den ρ (.var k')) = st.set (ρ.a a) (.arr false s') := by simp only [SOwn.den, q.1, grown]
                rw [hgr]
                exact ⟨h.ok, h.fs, h.ks, hdel_bl h.hb, H1.off (h.hp.sep _ (hget_mem hg) (by unfold lv; exact hx)) H2 fun b hb => St.get_set_ne _ _ (Ne.symm hb)⟩
          · cases e
        · cases e
      · cases e

/-! ### appending -/
mutual
def wk (ks : List KI) : SV → SV
  | .int k _ => someInt k
  | .uint k _ _ => someInt k
  | .bool _ => .ubool
  | .str _ => .ustr [] []
  | .ustr _ _ => .ustr [] []
  | .val (.string _) => .ustr [] []
  | .list _ L => .ulist ((allsOf ks L).headD []) [] []
  | .agg cs => .agg (wkS ks cs)
  | s => s
def wkS (ks : List KI) : List SV → List SV
  | [] => []
  | s :: r => wk ks s :: wkS ks r
end
def cands (ks : List KI) (sz : Nat) : Src → List (List SV)
  | .cells cs k => bif Nat.blt 0 k then [wkS ks (cs.take sz)] else []
  | .list M _ => allsOf ks M
  | .elems el _ => [el]
def goodAlls (sz nv : Nat) (fs : List Lin) (ks : List KI) (x y : Src) : List (List SV) → M (List (List SV))
  | [] => pure []
  | el :: r => do
    let l ← goodAlls sz nv fs ks x y r
    if el.length = sz ∧ belowS nv el = true then do
      let a ← srcLe fs ks el x
      if a then do
        let b ← srcLe fs ks el y
        pure (bif b then el :: l else l)
      else pure l
    else pure l
theorem goodAlls_ok (K : Kn P ρ ss.fs ss.ks) {sz nv : Nat} {x y : Src} {xs ys : List AV} {n m : Nat} (hx : srcOK ρ sz x xs n) (hy : srcOK ρ sz y ys m) : ∀ {c r : List (List SV)} {o o' : Orc}, goodAlls sz nv ss.fs ss.ks x y c o = .ok r o' → ∀ el ∈ r, el.length = sz ∧ belowS nv el = true ∧ (∀ j, j < n → Rs ρ el (elemAt xs sz j)) ∧ ∀ j, j < m → Rs ρ el (elemAt ys sz j)
  | [], r, o, o', e, el, he => by have e := ret_ok e; subst e; cases he
  | c :: cs, r, o, o', e, el, he => by
    obtain ⟨l, o1, e1, e⟩ := bind_ok e
    have ih := goodAlls_ok K hx hy e1
    split at e
    · rename_i hk
      obtain ⟨a, o2, e2, e⟩ := bind_ok e
      cases a with
      | false => have e := ret_ok (by simpa using e); subst e; exact ih el he
      | true =>
        simp only [if_true] at e
        obtain ⟨b, o3, e3, e⟩ := bind_ok e
        have e := ret_ok e; subst e
        cases b with
        | false => exact ih el he
        | true =>
          rcases List.mem_cons.1 he with rfl | he
          · exact ⟨hk.1, hk.2, srcLe_ok K hk.1 hx e2, srcLe_ok K hk.1 hy e3⟩
          · exact ih el he
    · have e := ret_ok e; subst e; exact ih el he
def chunksS (sz : Nat) : Nat → List SV → List (List SV)
  | 0, _ => []
  | n + 1, cs => cs.take sz :: chunksS sz n (cs.drop sz)
/-- Among which elements those of a source are. -/
def srcKI (sz : Nat) : Src → Option (List Nat × List (List SV))
  | .cells cs k => some ([], chunksS sz k cs)
  | .list M _ => some ([M], [])
  | .elems _ _ => none
theorem chunksS_ok {sz : Nat} : ∀ {n : Nat} {cs : List SV} {ys : List AV}, Rs ρ cs ys → ys.length = n * sz → ∀ j, j < n → ∃ e ∈ chunksS sz n cs, e.length = sz ∧ Rs ρ e (elemAt ys sz j)
  | 0, _, _, _, _, j, hj => absurd hj (Nat.not_lt_zero _)
  | n + 1, cs, ys, h, hl, j, hj => by
    have hl' : ys.length = n * sz + sz := by rw [hl, Nat.add_mul, Nat.one_mul]
    cases j with
    | zero =>
      refine ⟨_, List.mem_cons_self .., ?_, by rw [elemAt_zero]; exact Rs_take h _⟩
      rw [List.length_take, ← Rs_length h]; omega
    | succ j =>
      have hl2 : (ys.drop sz).length = n * sz := by rw [List.length_drop]; omega
      obtain ⟨e, m1, m2, m3⟩ := chunksS_ok (Rs_drop h sz) hl2 j (by omega)
      exact ⟨e, List.mem_cons_of_mem _ m1, m2, by rw [elemAt_succ]; exact m3⟩
theorem chunksS_bl {nv sz : Nat} : ∀ {n : Nat} {cs : List SV}, belowS nv cs = true → belowE nv (chunksS sz n cs) = true
  | 0, _, _ => rfl
  | n + 1, cs, h => by simp only [chunksS, belowE, Bool.and_eq_true]; exact ⟨belowS_take h _, chunksS_bl (belowS_drop h _)⟩
theorem belowN_append {n : Nat} : ∀ {a b : List Nat}, belowN n a = true → belowN n b = true → belowN n (a ++ b) = true
  | [], _, _, h => h
  | _ :: r, b, h, h' => by simp only [belowN, Bool.and_eq_true] at h; simp only [List.cons_append, belowN, Bool.and_eq_true]; exact ⟨h.1, belowN_append h.2 h'⟩
theorem belowE_append {n : Nat} : ∀ {a b : List (List SV)}, belowE n a = true → belowE n b = true → belowE n (a ++ b) = true
  | [], _, _, h => h
  | _ :: r, b, h, h' => by simp only [belowE, Bool.and_eq_true] at h; simp only [List.cons_append, belowE, Bool.and_eq_true]; exact ⟨h.1, belowE_append h.2 h'⟩
theorem srcKI_ok {sz : Nat} {s : Src} {ys : List AV} {n : Nat} (hs : srcOK ρ sz s ys n) {Ms : List Nat} {els : List (List SV)} (e : srcKI sz s = some (Ms, els)) : ∀ j, j < n → (∃ M ∈ Ms, ∃ j', j' < ρ.n M ∧ elemAt ys sz j = elemAt (ρ.l M) sz j') ∨ ∃ e ∈ els, e.length = sz ∧ Rs ρ e (elemAt ys sz j) := by
  obtain ⟨h1, h2, h3⟩ := hs
  intro j hj
  cases s with
  | cells cs k =>
    cases e
    simp only [Src.len, Lin.ev_k] at h1
    have : n = k := by omega
    subst this
    exact .inr (chunksS_ok h3 h2 j hj)
  | list M len =>
    cases e
    obtain ⟨rfl, rfl⟩ := h3
    exact .inl ⟨M, List.mem_singleton.2 rfl, j, hj, rfl⟩
  | elems el len => cases e
theorem srcKI_bl {nv sz : Nat} {s : Src} (hb : s.bl nv = true) {Ms : List Nat} {els : List (List SV)} (e : srcKI sz s = some (Ms, els)) : belowN nv Ms = true ∧ belowE nv els = true := by
  cases s with
  | cells cs k => cases e; exact ⟨rfl, chunksS_bl hb⟩
  | list M len => cases e; simp only [Src.bl, Bool.and_eq_true] at hb; exact ⟨by simp only [belowN, hb.1, Bool.and_true], rfl⟩
  | elems el len => cases e

def bothKI (sz nv : Nat) (x y : Src) : List KI := match srcKI sz x, srcKI sz y with
  | some (Ms, els), some (Ms', els') => [.src nv sz (Ms ++ Ms') (els ++ els')]
  | _, _ => []
def xSrc (sz : Nat) (x : SV) (ss : SS) : M (SOwn × Src) := match x with
  | .list w L => match lstOf ss.ks L with
    | some (sz', len) => if sz' = sz then pure (w, .list L len) else bad 210
    | none => bad 211
  | .listc w cs k => if cs.length = k * sz then pure (w, .cells cs k) else bad 212
  | _ => bad 213
def growN (sz : Nat) (hp : Hp) (n : Lin) (x y : Src) (ss : SS) : M Outs := do
  let al ← goodAlls sz ss.nv ss.fs ss.ks x y (cands ss.ks sz x ++ cands ss.ks sz y)
  pure [newList (newS (.arr true sz) { ss with hp := hp }) (.tok ss.nv) sz n (bothKI sz (ss.nv + 1) x y ++ copyAlls (ss.nv + 1) al)]
def growT (sz : Nat) (hp : Hp) (n : Lin) (x y : Src) (ss : SS) : M Outs := match x, y with
  | .cells cs j, .cells ds k => if cs.length + ds.length ≤ 12 then pure [(.listc (.tok ss.nv) (cs ++ ds) (j + k), newS (.arr true sz) { ss with hp := hp })]
    else growN sz hp n (.cells cs j) (.cells ds k) ss
  | x, y => growN sz hp n x y ss
def growS (sz bytes : Nat) (z : List AV) (w : SOwn) (x y : Src) (ss : SS) : M Outs := do
  let hp ← opt 214 (takeRoom ss.hp sz w)
  let a ← prv ss.fs (((x.len.add y.len).mul (-(bytes : Int))).addk LBIG)
  let b ← prv ss.fs (((x.len.add y.len).mul (-1)).addk LBIG)
  if a && b && decide (z.length = sz) then growT sz hp (x.len.add y.len) x y ss else bad 215
def appendS (sz bytes : Nat) (z : List AV) (x y : SV) (ss : SS) : M Outs := do
  let sy ← srcS sz y ss
  let sx ← xSrc sz x ss
  if srcOnes ss.ks sz sy then do
    let pos ← prv ss.fs (sy.len.addk (-1))
    if pos then growS sz bytes z sx.1 sx.2 sy ss
    else do
      let nil ← prv ss.fs (sy.len.mul (-1))
      if nil then pure [(x, ss)]
      else do
        let s0 ← asm (.eq sy.len) ss
        let s1 ← asm (.ge (sy.len.addk (-1))) ss
        let g ← growS sz bytes z sx.1 sx.2 sy s1
        pure ((x, s0) :: g)
  else bad 216

theorem elem_app {cs ds : List AV} {sz n j : Nat} (hl : cs.length = n * sz) : elemAt (cs ++ ds) sz j = if j < n then elemAt cs sz j else elemAt ds sz (j - n) := by
  unfold elemAt
  split
  · rename_i hj
    have : j * sz + sz ≤ cs.length := by
      rw [hl]; have := Nat.mul_le_mul_right sz (show j + 1 ≤ n by omega); rw [Nat.add_mul, Nat.one_mul] at this; exact this
    rw [List.drop_append_of_le_length (by omega), List.take_append_of_le_length (by rw [List.length_drop]; omega)]
  · rename_i hj
    have : j * sz = cs.length + (j - n) * sz := by rw [hl, ← Nat.add_mul]; congr 1; omega
    rw [this, ← List.drop_drop, List.drop_left]

theorem xSrc_ok (h : Sat P ρ ss st) {sz : Nat} {x : SV} (hb : x.bl ss.nv = true) {y : AV} (hx : R ρ x y) {r : SOwn × Src} {o o' : Orc} (e : xSrc sz x ss o = .ok r o') : ∃ cs n, y = .list (r.1.den ρ) cs n ∧ srcOK ρ sz r.2 cs n ∧ r.2.bl ss.nv = true ∧ r.1.bl ss.nv = true := by
  cases x <;> simp only [xSrc] at e <;> first | exact (bad_ok e).elim | skip
  · rename_i w L
    simp only [R] at hx; subst hx
    simp only [SV.bl, Bool.and_eq_true] at hb
    cases hl : lstOf ss.ks L with
    | none => rw [hl] at e; exact (bad_ok e).elim
    | some q =>
      obtain ⟨sz', len⟩ := q
      rw [hl] at e; simp only at e
      split at e
      · rename_i hs; subst hs
        have e := ret_ok e; subst e
        have kk := h.ks _ (lstOf_mem hl)
        simp only [KI.bl, Bool.and_eq_true, KI.ok] at kk
        exact ⟨_, _, rfl, ⟨kk.2.1, kk.2.2.1, rfl, rfl⟩, by simp only [Src.bl, Bool.and_eq_true]; exact kk.1, hb.1⟩
      · exact (bad_ok e).elim
  · rename_i w cs k
    simp only [R] at hx
    obtain ⟨ys, rfl, h1⟩ := hx
    simp only [SV.bl, Bool.and_eq_true] at hb
    split at e
    · rename_i hc
      have e := ret_ok e; subst e
      exact ⟨_, _, rfl, ⟨Lin.ev_k _ _, by rw [Rs_length h1, hc], h1⟩, hb.2, hb.1⟩
    · exact (bad_ok e).elim

theorem grow_ok (h : Sat P ρ ss st) {sz bytes : Nat} {z : List AV} {w : SOwn} {x y : Src} (bx : x.bl ss.nv = true) (by_ : y.bl ss.nv = true) {cs ys : List AV} {n k : Nat} (hx : srcOK ρ sz x cs n) (hy : srcOK ρ sz y ys k) (hk : k ≠ 0) {outs : Outs} {o o' : Orc} (e : growS sz bytes z w x y ss o = .ok outs o') :
    (n + k) * bytes ≤ 2 ^ 44 ∧ z.length = sz ∧ (w.den ρ = .exact ∨ ∃ a, w.den ρ = .tok a ∧ st.get a = some (.arr true sz)) ∧ Some1 P ρ ss.nv ((grown st sz (w.den ρ)).alloc (.arr true sz)) (.list (.tok st.next) (cs ++ ys) (n + k)) outs := by
  replace e := bind_ok e; obtain ⟨hp, o1, e1, e⟩ := e
  replace e := bind_ok e; obtain ⟨a, o2, e2, e⟩ := e
  replace e := bind_ok e; obtain ⟨b, o3, e3, e⟩ := e
  obtain ⟨t1, t2, t3⟩ := takeRoom_ok h (opt_ok e1)
  split at e
  · rename_i hc
    simp only [Bool.and_eq_true, decide_eq_true_eq] at hc
    obtain ⟨⟨rfl, rfl⟩, hz⟩ := hc
    have p1 := prv_ok h.kn e2; have p2 := prv_ok h.kn e3
    rw [Lin.ev_addk, Lin.ev_mul, Lin.ev_add, hx.1, hy.1] at p1 p2
    have hsum : (n + k) * bytes ≤ 2 ^ 44 := by
      have h1 : ((bytes : Int) * ((n : Int) + k)) ≤ LBIG := by rw [Int.neg_mul] at p1; omega
      have h2 : (((n + k) * bytes : Nat) : Int) ≤ (LBIG : Int) := by
        push_cast; rw [Int.mul_comm]; exact h1
      have : (LBIG : Nat) = 2 ^ 44 := rfl
      omega
    have hlb : n + k ≤ LBIG := by omega
    refine ⟨hsum, hz, t1, ?_⟩
    obtain ⟨ρ1, a1, a2, a3⟩ := t2.new (o := .arr true sz) (x := .arr true sz) rfl (fun ρ' _ _ => by show St.get _ _ = _; exact St.get_alloc_new _ _)
    rw [t3] at a2
    have hlen : (cs ++ ys).length = (n + k) * sz := by rw [List.length_append, hx.2.1, hy.2.1, Nat.add_mul]
    have hnl : (x.len.add y.len).ev ρ.i = ((n + k : Nat) : Int) := by rw [Lin.ev_add, hx.1, hy.1]; push_cast; rfl
    have bn : (x.len.add y.len).below ss.nv = true := by
      have : ∀ {s : Src}, s.bl ss.nv = true → s.len.below ss.nv = true := by
        intro s hs
        cases s <;> simp only [Src.bl, Bool.and_eq_true] at hs <;> first | rfl | exact hs.2
      exact add_below (this bx) (this by_)
    -- a list with a name
    have gen : ∀ (al : List (List SV)), (∀ el ∈ al, el.length = sz ∧ belowS ss.nv el = true ∧ (∀ j, j < n → Rs ρ el (elemAt cs sz j)) ∧ ∀ j, j < k → Rs ρ el (elemAt ys sz j)) →
        Some1 P ρ ss.nv ((grown st sz (w.den ρ)).alloc (.arr true sz)) (.list (.tok st.next) (cs ++ ys) (n + k)) [newList (newS (.arr true sz) { ss with hp := hp }) (.tok ss.nv) sz (x.len.add y.len) (bothKI sz (ss.nv + 1) x y ++ copyAlls (ss.nv + 1) al)] := by
      intro al hal
      have elems : ∀ j, j < n + k → elemAt (cs ++ ys) sz j = if j < n then elemAt cs sz j else elemAt ys sz (j - n) := fun j _ => elem_app hx.2.1
      refine one1 (Named.less a1 (Nat.le_succ _) (newList_ok a3 _ _ _ hlen hlb ?_ (Lin.below_mono (Nat.le_succ _) bn) (.inl ⟨_, rfl, blt_succ _, by simp only [SOwn.den, a2]⟩) ?_))
      · rw [lin_agree a1 bn]; exact hnl
      · intro ρ2 ag el en
        have ag2 : Agree ss.nv ρ ρ2 := a1.trans ag (Nat.le_succ _)
        intro q hq
        rcases List.mem_append.1 hq with hq | hq
        · unfold bothKI at hq
          split at hq
          · rename_i Ms els Ms' els' q1 q2
            simp only [List.mem_singleton] at hq; subst hq
            obtain ⟨m1, m2⟩ := srcKI_bl bx q1
            obtain ⟨m3, m4⟩ := srcKI_bl by_ q2
            have bN := belowN_append m1 m3; have bE := belowE_append m2 m4
            refine ⟨by simp only [KI.bl, Bool.and_eq_true]; exact ⟨blt_succ _, belowN_mono (by show ss.nv ≤ ss.nv + 1 + 1; omega) _ bN, belowE_mono (by show ss.nv ≤ ss.nv + 1 + 1; omega) _ bE⟩, ?_⟩
            have el' : ρ2.l (ss.nv + 1) = cs ++ ys := el
            have en' : ρ2.n (ss.nv + 1) = n + k := en
            simp only [KI.ok, el', en']
            intro j hj
            rw [elems j hj]
            have lift : ∀ {v : List AV}, ((∃ M ∈ Ms, ∃ j', j' < ρ.n M ∧ v = elemAt (ρ.l M) sz j') ∨ ∃ e ∈ els, e.length = sz ∧ Rs ρ e v) ∨ ((∃ M ∈ Ms', ∃ j', j' < ρ.n M ∧ v = elemAt (ρ.l M) sz j') ∨ ∃ e ∈ els', e.length = sz ∧ Rs ρ e v) →
                (∃ M ∈ Ms ++ Ms', ∃ j', j' < ρ2.n M ∧ v = elemAt (ρ2.l M) sz j') ∨ ∃ e ∈ els ++ els', e.length = sz ∧ Rs ρ2 e v := by
              intro v hv
              have tr1 : ∀ M ∈ Ms ++ Ms', M < ss.nv := belowN_mem bN
              have tr2 : ∀ e ∈ els ++ els', belowS ss.nv e = true := belowE_mem bE
              rcases hv with (⟨M, hM, j', w1, w2⟩ | ⟨e, he, w1, w2⟩) | (⟨M, hM, j', w1, w2⟩ | ⟨e, he, w1, w2⟩)
              · have hM := List.mem_append.2 (.inl hM : M ∈ Ms ∨ M ∈ Ms'); exact .inl ⟨M, hM, j', by rw [ag2.ln _ (tr1 M hM)]; exact w1, by rw [ag2.l _ (tr1 M hM)]; exact w2⟩
              · have he := List.mem_append.2 (.inl he : e ∈ els ∨ e ∈ els'); exact .inr ⟨e, he, w1, Rs_agree ag2 (tr2 e he) w2⟩
              · have hM := List.mem_append.2 (.inr hM : M ∈ Ms ∨ M ∈ Ms'); exact .inl ⟨M, hM, j', by rw [ag2.ln _ (tr1 M hM)]; exact w1, by rw [ag2.l _ (tr1 M hM)]; exact w2⟩
              · have he := List.mem_append.2 (.inr he : e ∈ els ∨ e ∈ els'); exact .inr ⟨e, he, w1, Rs_agree ag2 (tr2 e he) w2⟩
            split
            · rename_i hjn; exact lift (.inl (srcKI_ok hx q1 j hjn))
            · exact lift (.inr (srcKI_ok hy q2 (j - n) (by omega)))
          · cases hq
        · obtain ⟨ell, hel, rfl⟩ := List.mem_map.1 hq
          obtain ⟨m1, m2, m3, m4⟩ := hal ell hel
          refine ⟨by simp only [KI.bl, Bool.and_eq_true]; exact ⟨blt_succ _, belowS_mono (by show ss.nv ≤ ss.nv + 1 + 1; omega) _ m2⟩, ?_⟩
          have el' : ρ2.l (ss.nv + 1) = cs ++ ys := el
          have en' : ρ2.n (ss.nv + 1) = n + k := en
          simp only [KI.ok, el', en', m1]
          intro j hj
          rw [elems j hj]
          split
          · rename_i hjn; exact Rs_agree ag2 m2 (m3 j hjn)
          · exact Rs_agree ag2 m2 (m4 _ (by omega))
    have named : ∀ (_ : growN sz hp (x.len.add y.len) x y ss o3 = .ok outs o'), Some1 P ρ ss.nv ((grown st sz (w.den ρ)).alloc (.arr true sz)) (.list (.tok st.next) (cs ++ ys) (n + k)) outs := by
      intro e
      obtain ⟨al, o4, e4, e5⟩ := bind_ok e
      have e5 := ret_ok e5; subst e5
      exact gen al (goodAlls_ok h.kn hx hy e4)
    cases x with
    | cells c1 j1 =>
      cases y with
      | cells d1 k1 =>
        simp only [growT] at e
        split at e
        · have e := ret_ok e; subst e
          have q1 := hx.1; have q2 := hy.1
          simp only [Src.len, Lin.ev_k] at q1 q2
          have e1' : n = j1 := by omega
          have e2' : k = k1 := by omega
          subst e1' e2'
          refine one1 ⟨ρ1, a1, Nat.le_succ _, a3, ?_, ?_⟩
          · simp only [R, SOwn.den, a2]
            exact ⟨_, rfl, Rs_append (Rs_agree a1 bx hx.2.2) (Rs_agree a1 by_ hy.2.2)⟩
          · simp only [SV.bl, SOwn.bl, Bool.and_eq_true]
            exact ⟨blt_succ _, belowS_append (belowS_mono (Nat.le_succ _) _ bx) (belowS_mono (Nat.le_succ _) _ by_)⟩
        · exact named e
      | _ => exact named e
    | _ => exact named e
  · exact (bad_ok e).elim

theorem append_ok (h : Sat P ρ ss st) {sz bytes : Nat} {z : List AV} {x y : SV} (bx : x.bl ss.nv = true) (by_ : y.bl ss.nv = true) {yx yy : AV} (rx : R ρ x yx) (ry : R ρ y yy) {c d : Opd} (hc : c.ev frc = yx) (hd : d.ev frc = yy) {outs : Outs} {o o' : Orc} (e : appendS sz bytes z x y ss o = .ok outs o') :
    ∃ v st', evOp P (·.ev frc) st (.append sz bytes z c d) = some (v, st') ∧ Some1 P ρ ss.nv st' v outs := by
  replace e := bind_ok e; obtain ⟨sy, o1, e1, e⟩ := e
  replace e := bind_ok e; obtain ⟨sx, o2, e2, e⟩ := e
  obtain ⟨ys, k, q1, q2, q3⟩ := srcS_ok h by_ ry e1
  obtain ⟨cs, n, rfl, q4, q5, q6⟩ := xSrc_ok h bx rx e2
  split at e
  · rename_i hone
    have hones := srcOnes_ok h q2 hone
    have zero : k = 0 → evOp P (·.ev frc) st (.append sz bytes z c d) = some (.list (sx.1.den ρ) cs n, st) := by
      intro hk
      simp only [evOp, hc, hd, q1, hones, if_true]; rw [if_pos hk]
    have grow : ∀ {s1 : SS}, Sat P ρ s1 st → s1.nv = ss.nv → k ≠ 0 → ∀ {outs : Outs} {o o' : Orc}, growS sz bytes z sx.1 sx.2 sy s1 o = .ok outs o' → ∃ v st', evOp P (·.ev frc) st (.append sz bytes z c d) = some (v, st') ∧ Some1 P ρ ss.nv st' v outs := by
      intro s1 S1 hn hk outs o o' eg
      obtain ⟨g1, g2, g3, g4⟩ := grow_ok S1 (by rw [hn]; exact q5) (by rw [hn]; exact q3) q4 q2 hk eg
      rw [hn] at g4
      refine ⟨_, _, ?_, g4⟩
      simp only [evOp, hc, hd, q1, hones, if_true]
      rw [if_neg hk, if_pos ⟨q4.2.1, g1, g2⟩]
      rcases g3 with g3 | ⟨a, g3, g5⟩
      · rw [g3]; rfl
      · rw [g3]; simp only [g5, if_true]; rfl
    replace e := bind_ok e; obtain ⟨pos, o3, e3, e⟩ := e
    cases pos with
    | true =>
      have := prv_ok h.kn e3; rw [Lin.ev_addk, q2.1] at this
      exact grow h rfl (by omega) (by simpa using e)
    | false =>
      simp only [Bool.false_eq_true, if_false] at e
      replace e := bind_ok e; obtain ⟨nil, o4, e4, e⟩ := e
      cases nil with
      | true =>
        have e := ret_ok (by simpa using e); subst e
        have := prv_ok h.kn e4; rw [Lin.ev_mul, q2.1] at this
        exact ⟨_, _, zero (by omega), one1 (.same h bx rx)⟩
      | false =>
        simp only [Bool.false_eq_true, if_false] at e
        replace e := bind_ok e; obtain ⟨s0, o5, e5, e⟩ := e
        replace e := bind_ok e; obtain ⟨s1, o6, e6, e⟩ := e
        replace e := bind_ok e; obtain ⟨g, o7, e7, e⟩ := e
        have e := ret_ok e; subst e
        have bl : sy.len.below ss.nv = true := by
          cases sy <;> simp only [Src.bl, Bool.and_eq_true] at q3 <;> first | rfl | exact q3.2
        by_cases hk : k = 0
        · obtain ⟨S, hn⟩ := asm_ok h (c := .eq sy.len) bl (decide_eq_true (by rw [q2.1, hk]; rfl)) e5
          exact ⟨_, _, zero hk, _, List.mem_cons_self .., ρ, Agree.refl _ _, by rw [hn]; exact Nat.le_refl _, S, rx, by simp only [hn]; exact bx⟩
        · obtain ⟨S, hn⟩ := asm_ok h (c := .ge (sy.len.addk (-1))) (addk_below _ bl) (decide_eq_true (by rw [Lin.ev_addk, q2.1]; omega)) e6
          obtain ⟨v, st', w1, r, w2, w3⟩ := grow S hn hk e7
          exact ⟨v, st', w1, r, List.mem_cons_of_mem _ w2, w3⟩
  · exact (bad_ok e).elim
end
end
end Go.EF.Rk
end

section
namespace Go.EF.Rk
noncomputable section
open Go Go.EF

section
variable {P : Program} {ρ ρ' : V} {ss : SS} {st : St} {fr : List SV} {frc : Nat → AV}

def pickCand (sz : Nat) (fs : List Lin) (ks : List KI) (s : Src) : List (List SV) → M (List SV)
  | [] => bad 220
  | el :: r => if el.length = sz then do
      let b ← srcLe fs ks el s
      if b then pure el else pickCand sz fs ks s r
    else pickCand sz fs ks s r
theorem pickCand_ok (K : Kn P ρ ss.fs ss.ks) {sz : Nat} {s : Src} {ys : List AV} {n : Nat} (hs : srcOK ρ sz s ys n) : ∀ {c : List (List SV)} {el : List SV} {o o' : Orc}, pickCand sz ss.fs ss.ks s c o = .ok el o' → el.length = sz ∧ ∀ j, j < n → Rs ρ el (elemAt ys sz j)
  | [], _, _, _, e => (bad_ok e).elim
  | c :: r, el, o, o', e => by
    simp only [pickCand] at e
    split at e
    · rename_i hl
      obtain ⟨b, o1, e1, e2⟩ := bind_ok e
      cases b with
      | true => have e2 := ret_ok (by simpa using e2); subst e2; exact ⟨hl, srcLe_ok K hl hs e1⟩
      | false => exact pickCand_ok K hs (by simpa using e2)
    · exact pickCand_ok K hs e
def minS (k len : Lin) (ss : SS) : M Outs := do
  let a ← prv ss.fs (len.sub k)
  if a then fin (.int .i64 k) ss else do
    let b ← prv ss.fs (k.sub len)
    if b then fin (.int .i64 len) ss else fin (.uint .i64 [.k 0] [k, len]) ss
theorem min_ok (h : Sat P ρ ss st) {k len : Lin} (bk : k.below ss.nv = true) (bl : len.below ss.nv = true) {K N : Nat} (hk : k.ev ρ.i = K) (hn : len.ev ρ.i = N) (hK : K ≤ LBIG) {outs : Outs} {o o' : Orc} (e : minS k len ss o = .ok outs o') : Some1 P ρ ss.nv st (.int (Nat.min K N : Nat)) outs := by
  have hr : inR .i64 ((Nat.min K N : Nat) : Int) := by
    have : Nat.min K N ≤ K := Nat.min_le_left _ _
    simp only [LBIG] at hK; simp only [inR, ikLo, ikHi]; omega
  replace e := bind_ok e; obtain ⟨a, o1, e1, e⟩ := e
  cases a with
  | true =>
    have := prv_ok h.kn e1; rw [Lin.ev_sub] at this
    have hm : Nat.min K N = K := Nat.min_eq_left (by omega)
    exact fin_here h (s := .int .i64 k) (by simp only [R, hk]; rw [hm] at hr ⊢; exact ⟨rfl, hr⟩) bk (by simpa using e)
  | false =>
    simp only [Bool.false_eq_true, if_false] at e
    replace e := bind_ok e; obtain ⟨b, o2, e2, e⟩ := e
    cases b with
    | true =>
      have := prv_ok h.kn e2; rw [Lin.ev_sub] at this
      have hm : Nat.min K N = N := Nat.min_eq_right (by omega)
      exact fin_here h (s := .int .i64 len) (by simp only [R, hn]; rw [hm] at hr ⊢; exact ⟨rfl, hr⟩) bl (by simpa using e)
    | false =>
      refine fin_here h (s := .uint .i64 [.k 0] [k, len]) ?_ (by simp only [SV.bl, belowL, k_below, bk, bl, Bool.and_true]) (by simpa using e)
      simp only [R]
      refine ⟨_, rfl, hr, fun l hl => ?_, fun l hl => ?_⟩
      · rw [List.mem_singleton.1 hl, Lin.ev_k]; exact Int.natCast_nonneg _
      · rcases List.mem_cons.1 hl with rfl | hl
        · rw [hk]; exact_mod_cast Nat.min_le_left K N
        · rw [List.mem_singleton.1 hl, hn]; exact_mod_cast Nat.min_le_right K N

def copyT (sz : Nat) (a b : Nat) (i len : Lin) (sy : Src) (ss : SS) : M Outs := match hget ss.hp a with
  | some (.vec xf n el) => if b = 0 ∧ el.length = sz ∧ xf = false then do
      let ok ← prv ss.fs ((n.sub i).sub len)
      if ok then do
        let c ← pickCand sz ss.fs ss.ks sy (cands ss.ks sz sy ++ [el])
        let w ← wjoinL ss.fs ss.ks el c
        minS sy.len len { ss with hp := hput ss.hp a (.vec false n w) }
      else bad 221
    else bad 222
  | some (.cells cs) => do
      let k := (cs.length - b) / (sz + (1 - sz))
      let ok ← prv ss.fs (((Lin.k k).sub i).sub len)
      if ok && (isK i && decide (b + i.c.toNat * sz ≤ cs.length)) then do
        let c ← pickCand sz ss.fs ss.ks sy (cands ss.ks sz sy)
        let w ← weakAll ss.fs ss.ks c sz k b cs
        minS sy.len len { ss with hp := hput ss.hp a (.cells w) }
      else bad 223
  | _ => bad 224
def copyS (sz : Nat) (x y : SV) (ss : SS) : M Outs := match x with
  | .ms a b sz' i len _ => if sz' = sz then do
      let sy ← srcS sz y ss
      let ok ← prv ss.fs ((sy.len.mul (-1)).addk LBIG)
      if ok && srcOnes ss.ks sz sy then copyT sz a b i len sy ss else bad 225
    else bad 226
  | _ => bad 227

theorem elem_putn {ys zs : List AV} {sz i n j : Nat} (hz : zs.length = n * sz) (hl : (i + n) * sz ≤ ys.length) : elemAt (splice ys (i * sz) zs) sz j = if i ≤ j ∧ j < i + n then elemAt zs sz (j - i) else elemAt ys sz j := by
  have hi : (i + n) * sz = i * sz + n * sz := Nat.add_mul ..
  have hsp : i * sz + zs.length ≤ ys.length := by omega
  apply List.ext_getElem?
  intro q
  have el : ∀ (l : List AV) (k : Nat), (elemAt l sz k)[q]? = if q < sz then l[k * sz + q]? else none := by
    intro l k; unfold elemAt; rw [List.getElem?_take]; split
    · rw [List.getElem?_drop]
    · rfl
  rw [el]
  by_cases hq : q < sz
  · rw [if_pos hq, splice_get hsp]
    by_cases h1 : j < i
    · have := Nat.mul_le_mul_right sz (show j + 1 ≤ i by omega); rw [Nat.add_mul, Nat.one_mul] at this
      rw [if_pos (by omega), if_neg (by omega), el, if_pos hq]
    · have m1 := Nat.mul_le_mul_right sz (show i ≤ j by omega)
      rw [if_neg (by omega)]
      by_cases h2 : j < i + n
      · have := Nat.mul_le_mul_right sz (show j + 1 ≤ i + n by omega); rw [Nat.add_mul, Nat.one_mul] at this
        rw [if_pos (by omega), if_pos ⟨by omega, h2⟩, el, if_pos hq]; congr 1; rw [Nat.sub_mul]; omega
      · have := Nat.mul_le_mul_right sz (show i + n ≤ j by omega)
        rw [if_neg (by omega), if_neg (by omega), el, if_pos hq]
  · rw [if_neg hq]; split <;> rw [el, if_neg hq]
theorem elem_take {ys : List AV} {sz n j : Nat} (hj : j < n) : elemAt (ys.take (n * sz)) sz j = elemAt ys sz j := by
  have := part_elem (cs := ys) (s := sz) (l := 0) (n := n) hj
  simpa using this
theorem Rs_chunks {sz : Nat} : ∀ {n : Nat} {cs : List SV} {zs : List AV}, zs.length = n * sz → (∀ q, q < n → Rs ρ ((cs.drop (q * sz)).take sz) (elemAt zs sz q)) → Rs ρ (cs.take (n * sz)) zs
  | 0, cs, zs, h, _ => by
    rw [Nat.zero_mul] at h
    have : zs = [] := List.length_eq_zero_iff.1 h
    subst this; simp [Rs]
  | n + 1, cs, zs, h, hq => by
    have e1 : (n + 1) * sz = sz + n * sz := by rw [Nat.add_mul]; omega
    have h0 := hq 0 (by omega)
    rw [elemAt_zero] at h0
    simp only [Nat.zero_mul, List.drop_zero] at h0
    have hl2 : (zs.drop sz).length = n * sz := by rw [List.length_drop]; omega
    have hr := Rs_chunks (n := n) (cs := cs.drop sz) (zs := zs.drop sz) hl2 (fun q hqn => by
      have := hq (q + 1) (by omega)
      rw [elemAt_succ] at this
      rw [List.drop_drop]
      have e2 : (q + 1) * sz = sz + q * sz := by rw [Nat.add_mul]; omega
      rw [e2] at this; exact this)
    have := Rs_append h0 hr
    rw [List.take_append_drop] at this
    rw [e1, List.take_add]; exact this

theorem copy_ok (h : Sat P ρ ss st) {sz : Nat} {x y : SV} (bx : x.bl ss.nv = true) (by_ : y.bl ss.nv = true) {yx yy : AV} (rx : R ρ x yx) (ry : R ρ y yy) {c d : Opd} (hc : c.ev frc = yx) (hd : d.ev frc = yy) {outs : Outs} {o o' : Orc} (e : copyS sz x y ss o = .ok outs o') :
    ∃ v st', evOp P (·.ev frc) st (.copy sz c d) = some (v, st') ∧ Some1 P ρ ss.nv st' v outs := by
  cases x <;> simp only [copyS] at e <;> first | exact (bad_ok e).elim | skip
  rename_i a b sz' i len cap
  simp only [R] at rx
  obtain ⟨rfl, g0, g1, g2⟩ := rx
  simp only [SV.bl, Bool.and_eq_true] at bx
  split at e
  · rename_i hs; subst hs
    replace e := bind_ok e; obtain ⟨sy, o1, e1, e⟩ := e
    replace e := bind_ok e; obtain ⟨ok, o2, e2, e⟩ := e
    obtain ⟨ys, k, q1, q2, q3⟩ := srcS_ok h by_ ry e1
    split at e
    · rename_i hk
      simp only [Bool.and_eq_true] at hk
      obtain ⟨rfl, hone⟩ := hk
      have hones := srcOnes_ok h q2 hone
      have hbig := prv_ok h.kn e2; rw [Lin.ev_addk, Lin.ev_mul, q2.1] at hbig
      have bsl : sy.len.below ss.nv = true := by
        cases sy <;> simp only [Src.bl, Bool.and_eq_true] at q3 <;> first | rfl | exact q3.2
      have hlenN : len.ev ρ.i = ((len.ev ρ.i).toNat : Nat) := by omega
      cases hg : hget ss.hp a with
      | none => simp only [copyT, hg] at e; exact (bad_ok e).elim
      | some ob =>
        have hbl := (hpBl_mem h.hb _ (hget_mem hg)).2
        simp only [copyT, hg] at e
        cases ob <;> simp only at e <;> first | exact (bad_ok e).elim | skip
        · rename_i cs
          replace e := bind_ok e; obtain ⟨ok, o3, e3, e⟩ := e
          split at e
          · rename_i hok
            simp only [Bool.and_eq_true, decide_eq_true_eq] at hok
            obtain ⟨rfl, hi1, hi2⟩ := hok
            replace e := bind_ok e; obtain ⟨cd, o4, e4, e⟩ := e
            replace e := bind_ok e; obtain ⟨w, o5, e5, e⟩ := e
            have pr := prv_ok h.kn e3
            rw [Lin.ev_sub, Lin.ev_sub, Lin.ev_k] at pr
            obtain ⟨ob, w1, w2⟩ := h.hp.get hg
            obtain ⟨c1, c2⟩ := pickCand_ok h.kn q2 e4
            obtain ⟨w3, w4⟩ := weakAll_ok h.kn e5
            have hlt := St.lt_of_get w1
            have mn : Nat.min k (len.ev ρ.i).toNat ≤ (len.ev ρ.i).toNat := Nat.min_le_right _ _
            have mk : Nat.min k (len.ev ρ.i).toNat ≤ k := Nat.min_le_left _ _
            -- the last element lies within
            have within : ∀ m : Nat, (i.ev ρ.i).toNat + m ≤ (cs.length - b) / (sz' + (1 - sz')) → b + (i.ev ρ.i).toNat * sz' + m * sz' ≤ ob.length ∨ m = 0 := by
              intro m hm
              rcases Nat.eq_zero_or_pos m with h0 | h0
              · exact .inr h0
              · have := (w4 ((i.ev ρ.i).toNat + m - 1) (by omega)).2
                rw [c1, ← Rs_length w2] at this
                have e1 : ((i.ev ρ.i).toNat + m - 1) * sz' + sz' = (i.ev ρ.i).toNat * sz' + m * sz' := by
                  rw [← Nat.add_mul]
                  have : (i.ev ρ.i).toNat + m - 1 + 1 = (i.ev ρ.i).toNat + m := by omega
                  calc ((i.ev ρ.i).toNat + m - 1) * sz' + sz' = ((i.ev ρ.i).toNat + m - 1 + 1) * sz' := by rw [Nat.add_mul, Nat.one_mul]
                    _ = _ := by rw [this]
                exact .inl (by omega)
            have hfit : b + (i.ev ρ.i).toNat * sz' + (len.ev ρ.i).toNat * sz' ≤ ob.length := by
              rcases within (len.ev ρ.i).toNat (by omega) with q | q
              · exact q
              · rw [q, isK_ev hi1 ρ.i, Nat.zero_mul, Nat.add_zero, Rs_length w2]; exact hi2
            have hzl : (ys.take (Nat.min k (len.ev ρ.i).toNat * sz')).length = Nat.min k (len.ev ρ.i).toNat * sz' := by
              rw [List.length_take, q2.2.1]; exact Nat.min_eq_left (Nat.mul_le_mul_right _ mk)
            have hin : b + (i.ev ρ.i).toNat * sz' + Nat.min k (len.ev ρ.i).toNat * sz' ≤ ob.length := by
              have := Nat.mul_le_mul_right sz' mn; omega
            have S := h.put (o' := .cells w) (ao := .cells (splice ob (b + (i.ev ρ.i).toNat * sz') (ys.take (Nat.min k (len.ev ρ.i).toNat * sz')))) hg rfl rfl (weakAll_bl hbl e5) (by
              refine ⟨_, St.get_set_same _ _ hlt, Rs_put (w3.rs w2) ?_ (by rw [hzl]; exact hin)⟩
              rw [hzl]
              refine Rs_chunks hzl fun q hq => ?_
              rw [elem_take hq, List.drop_drop]
              have hj : (i.ev ρ.i).toNat + q < (cs.length - b) / (sz' + (1 - sz')) := by omega
              have := (w4 _ hj).1 _ (c2 q (by omega))
              rw [c1] at this
              have e3 : b + ((i.ev ρ.i).toNat + q) * sz' = b + (i.ev ρ.i).toNat * sz' + q * sz' := by rw [Nat.add_mul]; omega
              rw [e3] at this; exact this)
            refine ⟨.int (Nat.min k (len.ev ρ.i).toNat : Nat), _, ?_, min_ok S bsl bx.2.2.1 q2.1 hlenN (by omega) e⟩
            simp only [evOp, hd, q1, hc, w1]
            rw [if_pos ⟨hones, hfit, q2.2.1⟩]
          · exact (bad_ok e).elim
        · rename_i xf n el
          split at e
          · rename_i hk
            obtain ⟨rfl, rfl, rfl⟩ := hk
            replace e := bind_ok e; obtain ⟨ok, o3, e3, e⟩ := e
            cases ok with
            | false => exact (bad_ok (by simpa using e)).elim
            | true =>
              simp only [if_true] at e
              replace e := bind_ok e; obtain ⟨cd, o4, e4, e⟩ := e
              replace e := bind_ok e; obtain ⟨w, o5, e5, e⟩ := e
              have pr := prv_ok h.kn e3
              rw [Lin.ev_sub, Lin.ev_sub] at pr
              simp only [SObj.bl, Bool.and_eq_true] at hbl
              obtain ⟨ob, w1, w2, w3, w4⟩ := h.hp.get hg
              have w1 : st.get (ρ.a a) = some (.cells ob) := w1
              obtain ⟨c1, c2⟩ := pickCand_ok h.kn q2 e4
              obtain ⟨j1, j2, j3⟩ := wjoinL_ok h.kn e5
              have hlt := St.lt_of_get w1
              have hfit : 0 + (i.ev ρ.i).toNat * el.length + (len.ev ρ.i).toNat * el.length ≤ ob.length := by
                rw [w3, Nat.zero_add, ← Nat.add_mul]; exact Nat.mul_le_mul_right _ (by omega)
              have mn : Nat.min k (len.ev ρ.i).toNat ≤ (len.ev ρ.i).toNat := Nat.min_le_right _ _
              have mk : Nat.min k (len.ev ρ.i).toNat ≤ k := Nat.min_le_left _ _
              have hzl : (ys.take (Nat.min k (len.ev ρ.i).toNat * el.length)).length = Nat.min k (len.ev ρ.i).toNat * el.length := by
                rw [List.length_take, q2.2.1]; exact Nat.min_eq_left (Nat.mul_le_mul_right _ mk)
              have hin : ((i.ev ρ.i).toNat + Nat.min k (len.ev ρ.i).toNat) * el.length ≤ ob.length := by
                rw [w3]; exact Nat.mul_le_mul_right _ (by omega)
              have S := h.put (o' := .vec false n w) (ao := .cells (splice ob (0 + (i.ev ρ.i).toNat * el.length) (ys.take (Nat.min k (len.ev ρ.i).toNat * el.length)))) hg rfl rfl (by simp only [SObj.bl, Bool.and_eq_true]; exact ⟨hbl.1, wjoinL_bl hbl.2 e5⟩) (by
                refine ⟨_, St.get_set_same _ _ hlt, w2, ?_, fun j hj => ?_⟩
                · rw [splice_length (by rw [hzl, Nat.zero_add, ← Nat.add_mul]; exact hin), w3, j1.length]
                · rw [j1.length, Nat.zero_add, elem_putn hzl hin]
                  split
                  · rename_i hjj
                    rw [elem_take (by omega)]
                    exact j2 _ (c2 _ (by omega))
                  · exact j1.rs (w4 j hj))
              refine ⟨.int (Nat.min k (len.ev ρ.i).toNat : Nat), _, ?_, min_ok S bsl bx.2.2.1 q2.1 hlenN (by omega) e⟩
              simp only [evOp, hd, q1, hc, w1]
              rw [if_pos ⟨hones, hfit, q2.2.1⟩]
          · exact (bad_ok e).elim
    · exact (bad_ok e).elim
  · exact (bad_ok e).elim
end
end
end Go.EF.Rk
end

section
namespace Go.EF.Rk
noncomputable section
open Go Go.EF

def joinW : List SV → List SV → List SV
  | a :: r, b :: s => (joinSV a b).getD .any :: joinW r s
  | _, _ => []
def joinAll : List (List SV) → List SV
  | [] => []
  | [e] => e
  | e :: r => joinW e (joinAll r)
theorem joinW_ok {ρ : V} : ∀ {a b : List SV} {xs : List AV}, a.length = b.length → Rs ρ a xs ∨ Rs ρ b xs → Rs ρ (joinW a b) xs
  | [], [], xs, _, h => by simpa [joinW] using h
  | a :: r, b :: s, xs, hl, h => by
    have hl : r.length = s.length := by simpa using hl
    have one : ∀ {y : AV}, R ρ a y ∨ R ρ b y → R ρ ((joinSV a b).getD .any) y := by
      intro y hy
      cases hj : joinSV a b with
      | none => trivial
      | some v => exact joinSV_ok hj hy
    rcases h with ⟨y, ys, rfl, h1, h2⟩ | ⟨y, ys, rfl, h1, h2⟩
    · exact ⟨y, ys, rfl, one (.inl h1), joinW_ok hl (.inl h2)⟩
    · exact ⟨y, ys, rfl, one (.inr h1), joinW_ok hl (.inr h2)⟩
theorem joinW_len : ∀ {a b : List SV}, a.length = b.length → (joinW a b).length = a.length
  | [], [], _ => rfl
  | a :: r, b :: s, hl => by simp only [joinW, List.length_cons, joinW_len (by simpa using hl : r.length = s.length)]
theorem joinW_bl {n : Nat} : ∀ {a b : List SV}, belowS n a = true → belowS n (joinW a b) = true
  | [], _, _ => by simp only [joinW]; rfl
  | _ :: _, [], _ => by simp only [joinW]; rfl
  | a :: r, b :: s, h => by
    simp only [belowS, Bool.and_eq_true] at h
    simp only [joinW, belowS, Bool.and_eq_true]
    refine ⟨?_, joinW_bl h.2⟩
    cases hj : joinSV a b with
    | none => rfl
    | some v => exact joinSV_bl hj h.1
theorem joinAll_len {sz : Nat} : ∀ {l : List (List SV)}, l ≠ [] → (∀ e ∈ l, e.length = sz) → (joinAll l).length = sz
  | [e], _, h => h e (List.mem_cons_self ..)
  | e :: f :: r, _, h => by
    have ih := joinAll_len (sz := sz) (l := f :: r) (by simp) (fun x hx => h x (List.mem_cons_of_mem _ hx))
    have he := h e (List.mem_cons_self ..)
    simp only [joinAll]
    rw [joinW_len (by rw [he, ih])]; exact he
theorem joinAll_ok {ρ : V} {sz : Nat} : ∀ {l : List (List SV)} {xs : List AV} {e : List SV}, (∀ e ∈ l, e.length = sz) → e ∈ l → Rs ρ e xs → Rs ρ (joinAll l) xs
  | [e], xs, e', h, hm, hr => by rw [List.mem_singleton.1 hm] at hr; exact hr
  | e :: f :: r, xs, e', h, hm, hr => by
    have hl := joinAll_len (sz := sz) (l := f :: r) (by simp) (fun x hx => h x (List.mem_cons_of_mem _ hx))
    have he := h e (List.mem_cons_self ..)
    simp only [joinAll]
    refine joinW_ok (by rw [he, hl]) ?_
    rcases List.mem_cons.1 hm with rfl | hm
    · exact .inl hr
    · exact .inr (joinAll_ok (fun x hx => h x (List.mem_cons_of_mem _ hx)) hm hr)
theorem joinAll_bl {n : Nat} : ∀ {l : List (List SV)}, belowE n l = true → belowS n (joinAll l) = true
  | [], _ => rfl
  | [e], h => by simp only [belowE, Bool.and_eq_true] at h; exact h.1
  | e :: f :: r, h => by
    have h := h
    unfold belowE at h
    simp only [Bool.and_eq_true] at h
    simp only [joinAll]; exact joinW_bl h.1
def allLen (sz : Nat) : List (List SV) → Bool
  | [] => true
  | e :: r => Nat.beq e.length sz && allLen sz r
theorem allLen_ok {sz : Nat} : ∀ {l : List (List SV)}, allLen sz l = true → ∀ e ∈ l, e.length = sz
  | e :: r, h, x, hx => by
    simp only [allLen, Bool.and_eq_true] at h
    rcases List.mem_cons.1 hx with rfl | hx
    · exact Nat.eq_of_beq_eq_true h.1
    · exact allLen_ok h.2 x hx

/-- A list whose elements are written out, made one with a name. -/
def namL (sz : Nat) (v : SV) (ss : SS) : SV × SS := match v with
  | .listc w cs n => bif decide (cs.length = n * sz) && decide (n ≤ LBIG) then
      newList ss w sz (.k n) (.src ss.nv sz [] (chunksS sz n cs) :: bif !Nat.beq n 0 && allLen sz (chunksS sz n cs) then [.all ss.nv (joinAll (chunksS sz n cs))] else [])
    else (v, ss)
  | _ => (v, ss)
theorem namL_ok {P : Program} {ρ : V} {ss : SS} {st : St} (h : Sat P ρ ss st) (sz : Nat) {v : SV} (hb : v.bl ss.nv = true) {x : AV} (hx : R ρ v x) : Named P ρ ss.nv st x (namL sz v ss) := by
  unfold namL
  split
  · rename_i w cs n
    cases hc : (decide (cs.length = n * sz) && decide (n ≤ LBIG)) with
    | false => exact .same h hb hx
    | true =>
      simp only [Bool.and_eq_true, decide_eq_true_eq] at hc
      simp only [cond_true]
      simp only [R] at hx
      obtain ⟨ys, rfl, h1⟩ := hx
      simp only [SV.bl, Bool.and_eq_true] at hb
      have hl : ys.length = n * sz := by rw [Rs_length h1]; exact hc.1
      refine newList_ok h _ _ _ hl hc.2 (Lin.ev_k _ _) rfl (.inl ⟨w, rfl, hb.1, rfl⟩) ?_
      intro ρ1 ag el en k hk
      have hE := chunksS_bl (sz := sz) (n := n) hb.2
      rcases List.mem_cons.1 hk with rfl | hk
      · refine ⟨by simp only [KI.bl, belowN, Bool.and_eq_true]; exact ⟨blt_succ _, trivial, belowE_mono (Nat.le_succ _) _ hE⟩, ?_⟩
        simp only [KI.ok, el, en]
        intro j hj
        obtain ⟨e, m1, m2, m3⟩ := chunksS_ok h1 hl j hj
        exact .inr ⟨e, m1, m2, Rs_agree ag (belowE_mem hE e m1) m3⟩
      · cases hq : (!Nat.beq n 0 && allLen sz (chunksS sz n cs)) with
        | false => rw [hq] at hk; cases hk
        | true =>
          rw [hq] at hk
          simp only [cond_true, List.mem_singleton] at hk
          subst hk
          simp only [Bool.and_eq_true] at hq
          have hA := allLen_ok hq.2
          have hne : chunksS sz n cs ≠ [] := by
            cases n with
            | zero => exact absurd hq.1 (by decide)
            | succ n => simp only [chunksS]; exact List.cons_ne_nil _ _
          have hlen := joinAll_len hne hA
          refine ⟨by simp only [KI.bl, Bool.and_eq_true]; exact ⟨blt_succ _, belowS_mono (Nat.le_succ _) _ (joinAll_bl hE)⟩, ?_⟩
          simp only [KI.ok, el, en, hlen]
          intro j hj
          obtain ⟨e, m1, m2, m3⟩ := chunksS_ok h1 hl j hj
          exact joinAll_ok hA m1 (Rs_agree ag (belowE_mem hE e m1) m3)
  · exact .same h hb hx

def evS (P : Program) (fr : Fr) (ss : SS) (c : COp) : M Outs := match c with
  | .mov x => pure [(opS fr x, ss)]
  | .pick c a b => match opS fr c with
    | .bool .tt => pure [(opS fr a, ss)]
    | .bool .ff => pure [(opS fr b, ss)]
    | _ => bad 240
  | .alloc z => allocS z ss
  | .box x => boxS (opS fr x) ss
  | .build z parts => do
    let cs ← fillS fr (ofAVs z) parts
    pure [(.agg cs, ss)]
  | .lit z n parts => do
    let cs ← fillS fr (ofAVs z) parts
    pure [(.listc .exact cs n, ss)]
  | .load g s a => loadS' g s (opS fr a) ss
  | .store s a x => do
    let s' ← storeX s (opS fr a) (opS fr x) ss
    pure [(.any, s')]
  | .nilchk x => do
    let r ← nilS (opS fr x)
    pure [(r, ss)]
  | .bin op t x y => do
    let r ← binS P op t (opS fr x) (opS fr y) ss
    pure [nm r.1 r.2]
  | .un op x => do
    let r ← unS op (opS fr x) ss
    pure [nm r.1 r.2]
  | .conv k x => do
    let r ← convS k (opS fr x) ss
    pure [nm r.1 r.2]
  | .mkfn f a b => pure [(.fn f (opsS fr a) (opsS fr b), ss)]
  | .mkmap => pure (mkmapS ss)
  | .mkslice z _ bytes l c => mksliceS z bytes (opS fr l) (opS fr c) ss
  | .slicearr n s x lo hi => slicearrS n s (opS fr x) lo hi fr ss
  | .slice s x lo hi mx => sliceS s (opS fr x) lo hi mx fr ss
  | .slicestr x lo hi => slicestrS (opS fr x) lo hi fr ss
  | .faddr off x => do
    let r ← faddrS off (opS fr x)
    pure [(r, ss)]
  | .field g off s x => fieldS g off s (opS fr x) ss
  | .iaddr s x i => match opS fr i with
    | .int _ l => bif isK l then (do
        let r ← iaddrS s (opS fr x) l ss
        pure [(r, ss)])
      else (do
        let q := namL s (opS fr x) ss
        let r ← iaddrS s q.1 l q.2
        pure [(r, q.2)])
    | _ => bad 241
  | .iaddrarr n s x i => match opS fr i with
    | .int _ l => do
      let r ← iaddrarrS n s (opS fr x) l ss
      pure [(r, ss)]
    | _ => bad 242
  | .index g n s x i => match opS fr i with
    | .int _ l => indexS g n s (opS fr x) l ss
    | _ => bad 243
  | .indexstr x i => match opS fr i with
    | .int _ l => indexstrS (opS fr x) l ss
    | _ => bad 244
  | .lookup kt z ok m k => lookupS P kt z ok (opS fr m) (opS fr k) ss
  | .mapset kt m k x => mapsetS P kt (opS fr m) (opS fr k) (opS fr x) ss
  | .mapentry kt z m k => mapentryS P kt z (opS fr m) (opS fr k) ss
  | .entrystore m s x => entrystoreS (opS fr m) (opS fr s) (opS fr x) ss
  | .extract x i => extractS (opS fr x) i ss
  | .len k x => lenS k (opS fr x) ss
  | .append sz bytes z x y => appendS sz bytes z (opS fr x) (opS fr y) ss
  | .copy sz x y => copyS sz (opS fr x) (opS fr y) ss
  | .mnmx m xs => mnmxS m (opsS fr xs) ss
  | .srange x => srangeS (opS fr x) ss
  | .snext x => snextS (opS fr x) ss
  | .call _ _ => bad 245
  | .callv _ _ => bad 246

section
variable {P : Program} {ρ ρ' : V} {ss : SS} {st : St} {fr : Fr} {frc : Nat → AV}

theorem Named.nm {x : AV} {r : SV × SS} (h : Named P ρ ss.nv st x r) : Named P ρ ss.nv st x (nm r.1 r.2) := by
  obtain ⟨ρ1, a1, a2, a3, a4, a5⟩ := h
  exact (nm_ok r.1 a3 a5 a4).less a1 a2

theorem evS_ok (h : Sat P ρ ss st) (hF : FR ρ fr frc) (hf : fr.bl ss.nv = true) {c : COp} {outs : Outs} {o o' : Orc} (e : evS P fr ss c o = .ok outs o') :
    ∃ x st', evOp P (·.ev frc) st c = some (x, st') ∧ Some1 P ρ ss.nv st' x outs := by
  have R1 := fun q : Opd => opS_ok hF q
  have B1 := fun q : Opd => opS_bl hf q
  -- places that look at no state
  cases c <;> simp only [evS] at e <;> first | exact (bad_ok e).elim | skip
  case mov x => have e := ret_ok e; subst e; exact ⟨_, _, rfl, one1 (.same h (B1 x) (R1 x))⟩
  case pick c a b =>
    have rc := R1 c
    cases hc : opS fr c <;> rw [hc] at e rc <;> (try simp only at e) <;> first | exact (bad_ok e).elim | skip
    rename_i cc
    cases cc <;> (try simp only at e) <;> first | exact (bad_ok e).elim | skip
    · simp only [R, Cond.ev] at rc
      have e := ret_ok e; subst e; exact ⟨_, _, by simp only [evOp, rc], one1 (.same h (B1 a) (R1 a))⟩
    · simp only [R, Cond.ev] at rc
      have e := ret_ok e; subst e; exact ⟨_, _, by simp only [evOp, rc], one1 (.same h (B1 b) (R1 b))⟩
  case alloc z => have e := ret_ok e; subst e; exact ⟨_, _, rfl, alloc_ok h z⟩
  case box x =>
    obtain ⟨h1, h2⟩ := box_ok h (B1 x) (R1 x) e
    exact ⟨_, _, by simp only [evOp]; rw [if_pos h1], h2⟩
  case build z parts =>
    obtain ⟨cs, o1, e1, e2⟩ := bind_ok e
    have e2 := ret_ok e2; subst e2
    obtain ⟨zs, h1, h2⟩ := fill_ok hF (ofAVs_ok ρ z) e1
    exact ⟨.agg zs, _, by simp only [evOp, h1], one1 (.same h (s := .agg cs) (fill_bl hf (ofAVs_bl _ _) e1) (by simp only [R]; exact ⟨_, rfl, h2⟩))⟩
  case lit z n parts =>
    obtain ⟨cs, o1, e1, e2⟩ := bind_ok e
    have e2 := ret_ok e2; subst e2
    obtain ⟨zs, h1, h2⟩ := fill_ok hF (ofAVs_ok ρ z) e1
    exact ⟨.list .exact zs n, _, by simp only [evOp, h1], one1 (.same h (s := .listc .exact cs n) (by simp only [SV.bl, SOwn.bl, Bool.true_and]; exact fill_bl hf (ofAVs_bl _ _) e1) (by simp only [R, SOwn.den]; exact ⟨_, rfl, h2⟩))⟩
  case load g s a =>
    obtain ⟨x, h1, h2⟩ := load_ok h (B1 a) (R1 a) e
    exact ⟨_, _, by simp only [evOp, h1], h2⟩
  case store s a x =>
    obtain ⟨s', o1, e1, e2⟩ := bind_ok e
    have e2 := ret_ok e2; subst e2
    obtain ⟨st', h1, h2, h3⟩ := store_ok h (B1 a) (B1 x) (R1 a) (R1 x) e1
    exact ⟨.junk, _, by simp only [evOp, h1], one1 ⟨ρ, Agree.refl _ _, by rw [h3]; exact Nat.le_refl _, h2, trivial, rfl⟩⟩
  case nilchk x =>
    obtain ⟨r, o1, e1, e2⟩ := bind_ok e
    have e2 := ret_ok e2; subst e2
    obtain ⟨h1, rfl⟩ := nil_ok (st := st) (P := P) (R1 x) rfl e1
    exact ⟨_, _, h1, one1 (.same h (B1 x) (R1 x))⟩
  case bin op t x y =>
    obtain ⟨r, o1, e1, e2⟩ := bind_ok e
    have e2 := ret_ok e2; subst e2
    obtain ⟨z, h1, h2⟩ := binS_ok h (B1 x) (B1 y) (R1 x) (R1 y) e1
    exact ⟨_, _, by simp only [evOp, h1], one1 h2.nm⟩
  case un op x =>
    obtain ⟨r, o1, e1, e2⟩ := bind_ok e
    have e2 := ret_ok e2; subst e2
    obtain ⟨v, w, h1, h2, h3⟩ := unS_ok h (B1 x) (R1 x) e1
    exact ⟨_, _, by simp only [evOp, h1, h2], one1 h3.nm⟩
  case conv k x =>
    obtain ⟨r, o1, e1, e2⟩ := bind_ok e
    have e2 := ret_ok e2; subst e2
    obtain ⟨j, n, h1, h2⟩ := convS_ok h (B1 x) (R1 x) e1
    exact ⟨.v (.int k (k.wrap n)), _, by simp only [evOp, h1], one1 h2.nm⟩
  case mkfn f a b =>
    have e := ret_ok e; subst e
    exact ⟨_, _, rfl, one1 (.same h (s := .fn f (opsS fr a) (opsS fr b)) (by simp only [SV.bl, Bool.and_eq_true]; exact ⟨opsS_bl hf a, opsS_bl hf b⟩) (by simp only [R]; exact ⟨_, _, rfl, opsS_ok hF a, opsS_ok hF b⟩))⟩
  case mkmap => have e := ret_ok e; subst e; exact ⟨_, _, rfl, mkmap_ok h⟩
  case mkslice z sz bytes l c => exact mkslice_ok h (B1 l) (B1 c) (R1 l) (R1 c) rfl rfl e
  case slicearr n s x lo hi =>
    obtain ⟨z, h1, h2⟩ := slicearr_ok h hF hf (B1 x) (R1 x) rfl e
    exact ⟨_, _, h1, h2⟩
  case slice s x lo hi mx =>
    obtain ⟨z, h1, h2⟩ := slice_ok h hF hf (B1 x) (R1 x) rfl e
    exact ⟨_, _, h1, h2⟩
  case slicestr x lo hi =>
    obtain ⟨z, h1, h2⟩ := slicestr_ok h hF hf (R1 x) rfl e
    exact ⟨_, _, h1, h2⟩
  case faddr off x =>
    obtain ⟨r, o1, e1, e2⟩ := bind_ok e
    have e2 := ret_ok e2; subst e2
    obtain ⟨z, h1, h2, h3⟩ := faddr_ok (st := st) (P := P) (B1 x) (R1 x) rfl e1
    exact ⟨_, _, h1, one1 (.same h h3 h2)⟩
  case field g off s x =>
    obtain ⟨z, h1, h2⟩ := field_ok h (B1 x) (R1 x) rfl e
    exact ⟨_, _, h1, h2⟩
  case iaddr s x i =>
    have ri := R1 i; have bi := B1 i
    cases hi : opS fr i <;> rw [hi] at e ri bi <;> (try simp only at e) <;> first | exact (bad_ok e).elim | skip
    rename_i k l
    simp only [R] at ri
    cases hk : isK l with
    | true =>
      rw [hk] at e
      obtain ⟨r, o1, e1, e2⟩ := bind_ok e
      have e2 := ret_ok e2; subst e2
      obtain ⟨z, h1, h2, h3⟩ := iaddr_ok h (B1 x) (R1 x) bi rfl ri.1 e1
      exact ⟨_, _, h1, one1 (.same h h3 h2)⟩
    | false =>
      rw [hk] at e
      obtain ⟨r, o1, e1, e2⟩ := bind_ok e
      have e2 := ret_ok e2; subst e2
      obtain ⟨ρ1, a1, n1, S1, hx1, b1⟩ := namL_ok h s (B1 x) (R1 x)
      obtain ⟨z, h1, h2, h3⟩ := iaddr_ok S1 b1 hx1 (Lin.below_mono n1 bi) rfl (by rw [ri.1, lin_agree a1 bi]) e1
      exact ⟨_, _, h1, one1 ((Named.same S1 h3 h2).less a1 n1)⟩
  case iaddrarr n s x i =>
    have ri := R1 i; have bi := B1 i
    cases hi : opS fr i <;> rw [hi] at e ri bi <;> (try simp only at e) <;> first | exact (bad_ok e).elim | skip
    rename_i k l
    simp only [R] at ri
    obtain ⟨r, o1, e1, e2⟩ := bind_ok e
    have e2 := ret_ok e2; subst e2
    obtain ⟨z, h1, h2, h3⟩ := iaddrarr_ok h (B1 x) (R1 x) bi rfl ri.1 e1
    exact ⟨_, _, h1, one1 (.same h h3 h2)⟩
  case index g n s x i =>
    have ri := R1 i; have bi := B1 i
    cases hi : opS fr i <;> rw [hi] at e ri bi <;> (try simp only at e) <;> first | exact (bad_ok e).elim | skip
    rename_i k l
    simp only [R] at ri
    obtain ⟨z, h1, h2⟩ := index_ok h (B1 x) (R1 x) bi rfl ri.1 e
    exact ⟨_, _, h1, h2⟩
  case indexstr x i =>
    have ri := R1 i; have bi := B1 i
    cases hi : opS fr i <;> rw [hi] at e ri bi <;> (try simp only at e) <;> first | exact (bad_ok e).elim | skip
    rename_i k l
    simp only [R] at ri
    obtain ⟨z, h1, h2⟩ := indexstr_ok h (R1 x) rfl ri.1 e
    exact ⟨_, _, h1, h2⟩
  case lookup kt z ok m k =>
    obtain ⟨z, h1, h2⟩ := lookup_ok h (R1 m) (R1 k) rfl rfl e
    exact ⟨_, _, h1, h2⟩
  case mapset kt m k x => exact mapset_ok h (B1 x) (R1 m) (R1 k) (R1 x) rfl rfl rfl e
  case mapentry kt z m k => exact mapentry_ok h (R1 m) (R1 k) rfl rfl e
  case entrystore m s x => exact entrystore_ok h (R1 m) (R1 s) (R1 x) rfl rfl rfl e
  case extract x i =>
    obtain ⟨z, h1, h2⟩ := extract_ok' h (B1 x) (R1 x) rfl e
    exact ⟨_, _, h1, h2⟩
  case len k x =>
    obtain ⟨z, h1, h2⟩ := len_ok h (B1 x) (R1 x) rfl e
    exact ⟨_, _, h1, h2⟩
  case append sz bytes z x y => exact append_ok h (B1 x) (B1 y) (R1 x) (R1 y) rfl rfl e
  case copy sz x y => exact copy_ok h (B1 x) (B1 y) (R1 x) (R1 y) rfl rfl e
  case mnmx m xs =>
    obtain ⟨z, h1, h2⟩ := mnmx_ok h (opsS_bl hf xs) (opsS_ok hF xs) rfl e
    exact ⟨_, _, h1, h2⟩
  case srange x => exact srange_ok h (B1 x) (R1 x) rfl e
  case snext x => exact snext_ok h (R1 x) rfl e
end
end
end Go.EF.Rk
end

section
namespace Go.EF.Rk
noncomputable section
open Go Go.EF

structure Inst where
  i : List (Nat × Lin) := []
  a : List (Nat × Nat) := []
  l : List (Nat × Nat) := []
  s : List (Nat × Nat) := []
  o : List (Nat × SOwn) := []
  c : List (Nat × Nat) := []
def alook {α : Type} (d : α) : List (Nat × α) → Nat → α
  | [], _ => d
  | (k, x) :: r, v => bif Nat.beq k v then x else alook d r v
def mkSub (base : Nat) (I : Inst) : Sub :=
  ⟨fun v => bif Nat.blt v base then .v v else alook (.k 0) I.i v, fun v => bif Nat.blt v base then v else alook 0 I.a v, fun v => bif Nat.blt v base then v else alook 0 I.l v,
   fun v => bif Nat.blt v base then v else alook 0 I.s v, fun v => bif Nat.blt v base then .var v else alook .any I.o v, fun v => bif Nat.blt v base then v else alook 0 I.c v⟩
def V.comp (ρ : V) (σ : Sub) (F : Nat → Option AObj) : V :=
  ⟨fun v => (σ.i v).ev ρ.i, fun v => ρ.a (σ.a v), fun v => ρ.l (σ.l v), fun v => ρ.n (σ.l v), fun v => ρ.s (σ.s v), fun v => (σ.o v).den ρ, fun v => ρ.c (σ.c v), F⟩
theorem comp_fits (n : Nat) (ρ : V) (σ : Sub) (F : Nat → Option AObj) : Fits n σ ρ (ρ.comp σ F) := ⟨fun _ _ => rfl, fun _ _ => rfl, fun _ _ => rfl, fun _ _ => rfl, fun _ _ => rfl, fun _ _ => rfl, fun _ _ => rfl⟩
/-- As Agree, but for the objects that nothing touches. -/
structure AgreeV (n : Nat) (ρ ρ' : V) : Prop where
  i : ∀ v, v < n → ρ'.i v = ρ.i v
  a : ∀ v, v < n → ρ'.a v = ρ.a v
  l : ∀ v, v < n → ρ'.l v = ρ.l v
  ln : ∀ v, v < n → ρ'.n v = ρ.n v
  s : ∀ v, v < n → ρ'.s v = ρ.s v
  o : ∀ v, v < n → ρ'.o v = ρ.o v
  c : ∀ v, v < n → ρ'.c v = ρ.c v
theorem AgreeV.of {n : Nat} {ρ ρ' : V} (h : Agree n ρ ρ') : AgreeV n ρ ρ' := ⟨h.i, h.a, h.l, h.ln, h.s, h.o, h.c⟩
theorem AgreeV.full {n : Nat} {ρ ρ' : V} (h : AgreeV n ρ ρ') (hF : ρ'.F = ρ.F) : Agree n ρ ρ' := ⟨h.i, h.a, h.l, h.ln, h.s, h.o, h.c, hF⟩
theorem AgreeV.withF {n : Nat} {ρ ρ' : V} (h : AgreeV n ρ ρ') : Agree n { ρ with F := ρ'.F } ρ' := ⟨h.i, h.a, h.l, h.ln, h.s, h.o, h.c, rfl⟩
theorem mkSub_agree (base : Nat) (I : Inst) (ρ : V) (F : Nat → Option AObj) : AgreeV base ρ (ρ.comp (mkSub base I) F) := by
  refine ⟨?_, ?_, ?_, ?_, ?_, ?_, ?_⟩ <;> intro v hv <;> have hb : Nat.blt v base = true := Nat.blt_eq.mpr hv <;> simp only [V.comp, mkSub, hb, cond_true]
  · exact Lin.ev_v _ _
  · rfl
mutual
theorem RF {ρ : V} {F : Nat → Option AObj} : ∀ (s : SV) (x : AV), R { ρ with F := F } s x ↔ R ρ s x
  | .any, _ => Iff.rfl
  | .ubool, _ => Iff.rfl
  | .val _, _ => Iff.rfl
  | .int .., _ => Iff.rfl
  | .uint .., _ => Iff.rfl
  | .ustr .., _ => Iff.rfl
  | .bool _, _ => Iff.rfl
  | .str _, _ => Iff.rfl
  | .ptr .., _ => Iff.rfl
  | .map _, _ => Iff.rfl
  | .yld _, _ => Iff.rfl
  | .born _, _ => Iff.rfl
  | .ptrx .., _ => Iff.rfl
  | .ptrv .., _ => Iff.rfl
  | .lptr .., _ => Iff.rfl
  | .mx .., _ => Iff.rfl
  | .ms .., _ => Iff.rfl
  | .lpc cs o, x => by simp only [R, Rs_F cs]
  | .agg cs, x => by simp only [R, Rs_F cs]
  | .tup cs, x => by simp only [R, Rs_F cs]
  | .list w L, x => by
    have : w.den { ρ with F := F } = w.den ρ := by cases w <;> rfl
    simp only [R, this]
  | .listc w cs m, x => by
    have : w.den { ρ with F := F } = w.den ρ := by cases w <;> rfl
    simp only [R, Rs_F cs, this]
  | .ulist el lo hi, x => by simp only [R, Rs_F el]
  | .fn f a b, x => by simp only [R, Rs_F a, Rs_F b]
theorem Rs_F {ρ : V} {F : Nat → Option AObj} : ∀ (s : List SV) (x : List AV), Rs { ρ with F := F } s x ↔ Rs ρ s x
  | [], _ => Iff.rfl
  | s :: r, x => by simp only [Rs, RF s, Rs_F r]
end

/-! ### what is substituted -/
def KI.sub (σ : Sub) : KI → KI
  | .lst L sz len => .lst (σ.l L) sz (len.sub' σ.i)
  | .all L el => .all (σ.l L) (subS σ el)
  | .pre L i el => .pre (σ.l L) (i.sub' σ.i) (subS σ el)
  | .str s len => .str (σ.s s) (len.sub' σ.i)
  | .imp a b => .imp (a.sub' σ.i) (b.sub' σ.i)
  | k => k
def KI.plain : KI → Bool
  | .lst .. | .all .. | .pre .. | .str .. | .imp .. => true
  | _ => false
section
variable {P : Program} {n : Nat} {σ : Sub} {ρ ρ' : V} {ss : SS} {st : St}
theorem KI_sub (h : Fits n σ ρ ρ') {k : KI} (hp : k.plain = true) (hb : k.bl n = true) : (k.sub σ).ok P ρ ↔ k.ok P ρ' := by
  cases k <;> simp only [KI.plain, Bool.false_eq_true] at hp
  · simp only [KI.bl, Bool.and_eq_true] at hb
    simp only [KI.sub, KI.ok, Lin.ev_fits h hb.2, h.l _ (Nat.blt_eq.mp hb.1), h.ln _ (Nat.blt_eq.mp hb.1)]
  · simp only [KI.bl, Bool.and_eq_true] at hb
    simp only [KI.sub, KI.ok, h.l _ (Nat.blt_eq.mp hb.1), h.ln _ (Nat.blt_eq.mp hb.1), subS_length, Rs_sub h _ hb.2]
  · simp only [KI.bl, Bool.and_eq_true] at hb
    simp only [KI.sub, KI.ok, h.l _ (Nat.blt_eq.mp hb.1), h.ln _ (Nat.blt_eq.mp hb.1), subS_length, Rs_sub h _ hb.2.2, Lin.ev_fits h hb.2.1]
  · simp only [KI.bl, Bool.and_eq_true] at hb
    simp only [KI.sub, KI.ok, h.s _ (Nat.blt_eq.mp hb.1), Lin.ev_fits h hb.2]
  · simp only [KI.bl, Bool.and_eq_true] at hb
    simp only [KI.sub, KI.ok, Lin.ev_fits h hb.1, Lin.ev_fits h hb.2]

/-! ### knowledge that is shown -/
def preOK (fs : List Lin) (ks : List KI) (L : Nat) (i : Lin) (el : List SV) : M Bool := do
  let z ← prv fs (i.mul (-1))
  if z then pure true else
    anyM (fun (p : Lin × List SV) => do
      let b ← prv fs (p.1.sub i)
      if b then leL (le fs ks 10) p.2 el else pure false) (presOf ks L)
def kiOK (fs : List Lin) (ks : List KI) : KI → M Bool
  | .lst L sz len => match lstOf ks L with
    | some (sz', len') => if sz' = sz then prvEq fs len' len else pure false
    | none => pure false
  | .all L el => match lstOf ks L with
    | some (_, len') => hasAll fs ks 10 L len' el
    | none => pure false
  | .pre L i el => do
    let a ← preOK fs ks L i el
    if a then pure true else do
      let c ← (match eltOf ks L (i.addk (-1)) with
        | some cs => leL (le fs ks 10) cs el
        | none => pure false)
      let d ← (if c then preOK fs ks L (i.addk (-1)) el else pure false)
      if d then pure true else (match lstOf ks L with
        | some (_, len') => hasAll fs ks 10 L len' el
        | none => pure false)
  | .str s len => match strOf ks s with
    | some len' => prvEq fs len' len
    | none => pure false
  | .imp a b => do
    let x ← prv fs b
    if x then pure true else do
      let y ← prv fs ((a.mul (-1)).addk (-1))
      if y then pure true else pure (ks.any fun k => match k with | .imp a' b' => decide (a' = a ∧ b' = b) | _ => false)
  | _ => pure false

theorem preOK_ok (K : Kn P ρ ss.fs ss.ks) {L : Nat} {i : Lin} {el : List SV} {o o' : Orc} (e : preOK ss.fs ss.ks L i el o = .ok true o') : (KI.pre L i el).ok P ρ := by
  obtain ⟨z, o1, e1, e⟩ := bind_ok e
  intro j hj hn
  cases z with
  | true => have := prv_ok K e1; rw [Lin.ev_mul] at this; omega
  | false =>
    obtain ⟨⟨i0, el0⟩, hm, o3, o4, e3⟩ := anyM_ok (by simpa using e)
    obtain ⟨⟨o5, e5⟩, o6, e6⟩ := and_ok e3
    have := prv_ok K e5; rw [Lin.ev_sub] at this
    simp only at this
    have kk := K.ks _ (presOf_mem hm); simp only [KI.ok] at kk
    have h1 := kk j (by omega) hn
    have hr := leL_ok (le_both K 10).1 e6
    have hl : el0.length = el.length := by have := hr _ h1; rw [← Rs_length this, Rs_length h1]
    exact hr _ (by rw [← hl]; exact h1)
theorem kiOK_ok (K : Kn P ρ ss.fs ss.ks) {k : KI} {o o' : Orc} (e : kiOK ss.fs ss.ks k o = .ok true o') : k.ok P ρ := by
  cases k with
  | lst L sz len =>
    simp only [kiOK] at e
    cases hl : lstOf ss.ks L with
    | none => rw [hl] at e; exact (false_ok e).elim
    | some q =>
      obtain ⟨sz', len'⟩ := q
      rw [hl] at e
      obtain ⟨h1, e1⟩ := dite_ok e
      subst h1
      have kk := K.ks _ (lstOf_mem hl)
      have := prvEq_ok K e1
      simp only [KI.ok] at kk ⊢
      rw [← this]; exact kk
  | all L el =>
    simp only [kiOK] at e
    cases hl : lstOf ss.ks L with
    | none => rw [hl] at e; exact (false_ok e).elim
    | some q =>
      obtain ⟨sz', len'⟩ := q
      rw [hl] at e
      have kk := K.ks _ (lstOf_mem hl); simp only [KI.ok] at kk
      exact hasAll_ok K e kk.1
  | pre L i el =>
    simp only [kiOK] at e
    obtain ⟨a, o1, e1, e⟩ := bind_ok e
    cases a with
    | true => exact preOK_ok K e1
    | false =>
      simp only [Bool.false_eq_true, if_false] at e
      obtain ⟨c, o2, e2, e⟩ := bind_ok e
      obtain ⟨d, o3, e3, e⟩ := bind_ok e
      cases d with
      | true =>
        obtain ⟨rfl, e3⟩ := iff_ok e3
        have hp := preOK_ok K e3
        cases he : eltOf ss.ks L (i.addk (-1)) with
        | none => rw [he] at e2; exact (false_ok e2).elim
        | some cs =>
          rw [he] at e2
          have kk := K.ks _ (eltOf_mem he)
          simp only [KI.ok, Lin.ev_addk] at kk hp
          intro j hj hn
          by_cases hjj : (j : Int) < i.ev ρ.i + -1
          · exact hp j hjj hn
          · have hr := leL_ok (le_both K 10).1 e2
            have h1 := kk.2.2
            have hl : cs.length = el.length := by have := hr _ h1; rw [← Rs_length this, Rs_length h1]
            have hj2 : (i.ev ρ.i + -1).toNat = j := by omega
            rw [hj2] at h1
            exact hr _ (by rw [← hl]; exact h1)
      | false =>
        simp only [Bool.false_eq_true, if_false] at e
        cases hl : lstOf ss.ks L with
        | none => rw [hl] at e; exact (false_ok e).elim
        | some q =>
          obtain ⟨sz', len'⟩ := q
          rw [hl] at e
          have kk := K.ks _ (lstOf_mem hl); simp only [KI.ok] at kk
          exact fun j _ hn => hasAll_ok K e kk.1 j hn
  | str s len =>
    simp only [kiOK] at e
    cases hl : strOf ss.ks s with
    | none => rw [hl] at e; exact (false_ok e).elim
    | some len' =>
      rw [hl] at e
      have kk := K.ks _ (strOf_mem hl)
      have := prvEq_ok K e
      simp only [KI.ok] at kk ⊢
      rw [← this]; exact kk
  | imp a b =>
    simp only [kiOK] at e
    obtain ⟨x, o1, e1, e⟩ := bind_ok e
    cases x with
    | true => exact fun _ => prv_ok K e1
    | false =>
      simp only [Bool.false_eq_true, if_false] at e
      obtain ⟨y, o2, e2, e⟩ := bind_ok e
      cases y with
      | true => intro ha; have := prv_ok K e2; rw [Lin.ev_addk, Lin.ev_mul] at this; omega
      | false =>
        have e := ret_ok (by simpa using e)
        rw [List.any_eq_true] at e
        obtain ⟨k, hk, hk2⟩ := e
        cases k <;> (try simp only [Bool.false_eq_true] at hk2)
        simp only [Bool.and_eq_true, decide_eq_true_eq] at hk2
        obtain ⟨rfl, rfl⟩ := hk2
        exact K.ks _ hk
  | elt _ _ _ => exact (false_ok (by simpa only [kiOK] using e)).elim
  | src _ _ _ _ => exact (false_ok (by simpa only [kiOK] using e)).elim
  | code _ _ _ _ _ _ => exact (false_ok (by simpa only [kiOK] using e)).elim

/-! ### objects that are among those of others -/
def lsEq : LoopState → LoopState → Bool
  | .ready, .ready | .busy, .busy | .done, .done | .exhausted, .exhausted => true
  | _, _ => false
def jmpEq (a b : Option Jmp) : Bool := decide (a = b)
/-- Where the object of an entry is now. -/
def empOK (σ : Sub) (fs : List Lin) (ks : List KI) (e : Option Nat) : M Bool := match e with
  | none => pure true
  | some L => match lstOf ks (σ.l L) with
    | some (_, len) => prv fs (len.mul (-1))
    | none => pure false
def empIn (σ : Sub) (e e' : Option Nat) : Bool := match e with
  | none => true
  | some L => match e' with
    | some M => Nat.beq M (σ.l L)
    | none => false
def leE (σ : Sub) (fs : List Lin) (ks : List KI) (hp : Hp) (e : Nat × SObj) : M Bool :=
  match e.2 with
  | .own k sz em => match σ.o k with
    | .exact => empOK σ fs ks em
    | .tok a => pure (decide (a = σ.a e.1) && match hget hp a with | some (.arr true s) => decide (s = sz) | _ => false)
    | .var k' => pure (match hget hp (σ.a e.1) with | some (.own k2 s em') => decide (k2 = k' ∧ s = sz) && empIn σ em em' | _ => false)
    | .any => pure false
  | .cells cs => match hget hp (σ.a e.1) with
    | some (.cells ds) => leL (le fs ks 10) ds (subS σ cs)
    | _ => pure false
  | .vec x n el => match hget hp (σ.a e.1) with
    | some (.vec x' n' el') => if x = x' ∧ el'.length = el.length then do
        let b ← prvEq fs n' (n.sub' σ.i)
        if b then leL (le fs ks 10) el' (subS σ el) else pure false
      else pure false
    | _ => pure false
  | .arr live sz => pure (match hget hp (σ.a e.1) with | some (.arr live' sz') => decide (live' = live ∧ sz' = sz) | _ => false)
  | .map one cks v => match hget hp (σ.a e.1) with
    | some (.map one' cks' v') => if one' && cks'.isEmpty then pure true else if one' = one ∧ cks' = cks then le fs ks 10 v' (v.sub σ) else pure false
    | _ => pure false
  | .mape _ _ _ _ => pure false
  | .sit s p => match hget hp (σ.a e.1) with
    | some (.sit s' p') => if s' = σ.s s then prvEq fs p' (p.sub' σ.i) else pure false
    | _ => pure false
  | .loop s pend c => pure (match hget hp (σ.a e.1) with | some (.loop s' pend' c') => lsEq s' s && jmpEq pend' pend && decide (c' = σ.c c) | _ => false)

theorem hget_ne {hp : Hp} (H : HP ρ hp st) {i j : Nat} {o o' : SObj} (hi : hget hp i = some o) (hj : hget hp j = some o') (hne : i ≠ j) (li : lv ρ (i, o)) (lj : lv ρ (j, o')) : ρ.a i ≠ ρ.a j := by
  induction hp with
  | nil => cases hi
  | cons e r ih =>
    have pw := List.pairwise_cons.1 H.ne
    simp only [hget_cons] at hi hj
    cases h1 : Nat.beq e.1 i with
    | true =>
      rw [h1] at hi; cases hi
      have e1 := Nat.eq_of_beq_eq_true h1
      cases h2 : Nat.beq e.1 j with
      | true => exact absurd ((e1.symm.trans (Nat.eq_of_beq_eq_true h2))) hne
      | false =>
        rw [h2] at hj
        have := pw.1 _ (hget_mem hj) (by rw [show e = (i, e.2) from by rw [← e1]]; exact li) lj
        rw [e1] at this; exact this
    | false =>
      rw [h1] at hi
      cases h2 : Nat.beq e.1 j with
      | true =>
        rw [h2] at hj; cases hj
        have e2 := Nat.eq_of_beq_eq_true h2
        have := pw.1 _ (hget_mem hi) (by rw [show e = (j, e.2) from by rw [← e2]]; exact lj) li
        rw [e2] at this; exact this.symm
      | false => rw [h2] at hj; exact ih H.tail hi hj

theorem empOK_ok (K : Kn P ρ ss.fs ss.ks) (hf : Fits n σ ρ ρ') {e : Option Nat} (hb : empBl n e = true) {o o' : Orc} (ee : empOK σ ss.fs ss.ks e o = .ok true o') : emp ρ' e := by
  cases e with
  | none => trivial
  | some L =>
    unfold empOK at ee
    simp only at ee
    cases hl : lstOf ss.ks (σ.l L) with
    | none => rw [hl] at ee; exact (false_ok ee).elim
    | some q =>
      rw [hl] at ee
      have h1 := K.ks _ (lstOf_mem hl)
      have h2 := prv_ok K ee
      rw [Lin.ev_mul] at h2
      simp only [KI.ok] at h1
      have h3 := hf.ln L (Nat.blt_eq.mp hb)
      simp only [emp]
      omega
theorem empIn_ok (hf : Fits n σ ρ ρ') {e e' : Option Nat} (hb : empBl n e = true) (h : empIn σ e e' = true) (he : emp ρ e') : emp ρ' e := by
  cases e with
  | none => trivial
  | some L =>
    unfold empIn at h
    cases e' with
    | none => cases h
    | some M =>
      have := Nat.eq_of_beq_eq_true h
      subst this
      simp only [emp] at he ⊢
      rw [← hf.ln L (Nat.blt_eq.mp hb)]; exact he
theorem leE_ok (h : Sat P ρ ss st) (hf : Fits n σ ρ ρ') {e : Nat × SObj} (h1 : e.1 < n) (hb : e.2.bl n = true) {o o' : Orc} (ee : leE σ ss.fs ss.ks ss.hp e o = .ok true o') :
    e.2.ok ρ' st (ρ'.a e.1) ∧ (lv ρ' e → ∃ q, hget ss.hp (σ.a e.1) = some q ∧ lv ρ (σ.a e.1, q)) := by
  have K := h.kn
  have ea := hf.a _ h1
  obtain ⟨id, ob⟩ := e
  simp only at h1 hb ea ⊢
  rw [← ea]
  cases ob <;> simp only [leE] at ee
  · rename_i cs
    cases hg : hget ss.hp (σ.a id) with
    | none => rw [hg] at ee; exact (false_ok ee).elim
    | some q =>
      rw [hg] at ee
      cases q <;> (try simp only at ee) <;> first | exact (false_ok ee).elim | skip
      obtain ⟨ys, g1, g2⟩ := h.hp.get hg
      exact ⟨⟨ys, g1, (Rs_sub hf cs hb ys).1 (leL_ok (le_both K 10).1 ee _ g2)⟩, fun _ => ⟨_, rfl, lv_real rfl⟩⟩
  · rename_i x l el
    simp only [SObj.bl, Bool.and_eq_true] at hb
    cases hg : hget ss.hp (σ.a id) with
    | none => rw [hg] at ee; exact (false_ok ee).elim
    | some q =>
      rw [hg] at ee
      cases q <;> (try simp only at ee) <;> first | exact (false_ok ee).elim | skip
      obtain ⟨⟨q1, hl⟩, hh⟩ := dite_ok ee
      clear ee
      subst q1
      have ee := hh
      obtain ⟨⟨o1, e1⟩, o2, e2⟩ := and_ok ee
      have en := prvEq_ok K e1
      rw [Lin.ev_fits hf hb.1] at en
      obtain ⟨ys, g1, g2, g3, g4⟩ := h.hp.get hg
      refine ⟨⟨ys, g1, by rw [← en]; exact g2, by rw [← en, g3, hl], fun j hj => ?_⟩, fun _ => ⟨_, rfl, lv_real rfl⟩⟩
      rw [← en] at hj
      exact (Rs_sub hf el hb.2 _).1 (leL_ok (le_both K 10).1 e2 _ (by rw [← hl]; exact g4 j hj))
  · rename_i live sz
    have ee := ret_ok ee
    cases hg : hget ss.hp (σ.a id) with
    | none => rw [hg] at ee; cases ee
    | some q =>
      rw [hg] at ee
      cases q <;> simp only [Bool.false_eq_true] at ee
      obtain ⟨rfl, rfl⟩ := of_decide_eq_true ee
      exact ⟨h.hp.get hg, fun _ => ⟨_, rfl, lv_real rfl⟩⟩
  · rename_i k sz em
    simp only [SObj.bl, Bool.and_eq_true] at hb
    obtain ⟨hb, hem⟩ := hb
    have ek := hf.o k (Nat.blt_eq.mp hb)
    cases ho : σ.o k with
    | any => rw [ho] at ee; exact (false_ok ee).elim
    | exact =>
      rw [ho] at ek ee
      have : ρ'.o k = .exact := ek.symm
      exact ⟨.inl ⟨this, empOK_ok K hf hem ee⟩, fun hl => absurd this hl⟩
    | tok a =>
      rw [ho] at ee ek
      have ee := ret_ok ee
      simp only [Bool.and_eq_true, decide_eq_true_eq] at ee
      obtain ⟨rfl, ee⟩ := ee
      cases hg : hget ss.hp (σ.a id) with
      | none => rw [hg] at ee; cases ee
      | some q =>
        rw [hg] at ee
        cases q <;> (try (cases ee; done)) <;> (try simp only [Bool.false_eq_true] at ee)
        rename_i live s
        cases live with
        | false => cases ee
        | true =>
          have := of_decide_eq_true ee; subst this
          exact ⟨.inr ⟨ek.symm, h.hp.get hg⟩, fun _ => ⟨_, rfl, lv_real rfl⟩⟩
    | var k' =>
      rw [ho] at ee ek
      have ee := ret_ok ee
      cases hg : hget ss.hp (σ.a id) with
      | none => rw [hg] at ee; cases ee
      | some q =>
        rw [hg] at ee
        cases q <;> simp only [Bool.false_eq_true] at ee
        simp only [Bool.and_eq_true, decide_eq_true_eq] at ee
        obtain ⟨⟨q1, q2⟩, q3⟩ := ee
        subst q1 q2
        have G := h.hp.get hg
        simp only [SObj.ok] at G
        have ek : ρ.o _ = ρ'.o k := ek
        exact ⟨by simp only [SObj.ok, ← ek]; exact G.imp (fun g => ⟨g.1, empIn_ok hf hem q3 g.2⟩) (fun g => g), fun hl => ⟨_, rfl, by unfold lv at hl ⊢; simp only at hl ⊢; rw [ek]; exact hl⟩⟩
  · rename_i one cks v
    cases hg : hget ss.hp (σ.a id) with
    | none => rw [hg] at ee; exact (false_ok ee).elim
    | some q =>
      rw [hg] at ee
      cases q <;> (try simp only at ee) <;> first | exact (false_ok ee).elim | skip
      rename_i one' cks' v'
      obtain ⟨es, clk, g1, g2⟩ := map_get h hg
      split at ee
      · rename_i hem
        simp only [Bool.and_eq_true] at hem
        obtain ⟨rfl, hk0⟩ := hem
        have hk0 : cks' = [] := List.isEmpty_iff.1 hk0
        subst hk0
        refine ⟨⟨es, clk, g1, fun e he => absurd (g2 e he).1 empty_key⟩, fun _ => ⟨_, rfl, lv_real rfl⟩⟩
      · obtain ⟨⟨q1, q2⟩, hh⟩ := dite_ok ee
        clear ee
        subst q1 q2
        have ee := hh
        exact ⟨⟨es, clk, g1, fun e he => ⟨(g2 e he).1, (R_sub hf v hb _).1 (le_ok K ee (g2 e he).2)⟩⟩, fun _ => ⟨_, rfl, lv_real rfl⟩⟩
  · exact (false_ok ee).elim
  · rename_i s p
    simp only [SObj.bl, Bool.and_eq_true] at hb
    cases hg : hget ss.hp (σ.a id) with
    | none => rw [hg] at ee; exact (false_ok ee).elim
    | some q =>
      rw [hg] at ee
      cases q <;> (try simp only at ee) <;> first | exact (false_ok ee).elim | skip
      obtain ⟨q1, hh⟩ := dite_ok ee
      clear ee
      subst q1
      have en := prvEq_ok K hh
      rw [Lin.ev_fits hf hb.2] at en
      have G := h.hp.get hg
      simp only [SObj.ok] at G ⊢
      rw [← en, ← hf.s _ (Nat.blt_eq.mp hb.1)]
      exact ⟨G, fun _ => ⟨_, rfl, lv_real rfl⟩⟩
  · rename_i s pend c
    have ee := ret_ok ee
    cases hg : hget ss.hp (σ.a id) with
    | none => rw [hg] at ee; cases ee
    | some q =>
      rw [hg] at ee
      cases q <;> simp only [Bool.false_eq_true] at ee
      rename_i s' pend' c'
      simp only [Bool.and_eq_true, decide_eq_true_eq, jmpEq] at ee
      obtain ⟨⟨e1, rfl⟩, rfl⟩ := ee
      have : s' = s := by cases s' <;> cases s <;> first | rfl | cases e1
      subst this
      have G := h.hp.get hg
      simp only [SObj.ok] at G ⊢
      rw [← hf.c c (Nat.blt_eq.mp hb)]
      exact ⟨G, fun _ => ⟨_, rfl, lv_real rfl⟩⟩
end
end
end Go.EF.Rk
end

section
namespace Go.EF.Rk
noncomputable section
open Go Go.EF

/-- A pattern over what is known at a point: more variables, more facts, objects. -/
structure Pat where
  nv : Nat
  fr : List SV
  fs : List Lin
  ks : List KI
  hp : Hp
  gd : List SV
  gh : Hp
  deriving Inhabited
def Pat.ss (p : Pat) (s0 : SS) : SS := ⟨p.nv, p.fs ++ s0.fs, p.ks ++ s0.ks, p.hp⟩
def Pat.wf (p : Pat) (base : Nat) : Bool := Nat.ble base p.nv && belowS p.nv p.fr && belowL p.nv p.fs && p.ks.all (fun k => k.bl p.nv && k.plain) && hpBl p.nv p.hp

def isDead (σ : Sub) (e : Nat × SObj) : Bool := match e.2 with
  | .own k _ _ => (match σ.o k with | .exact => true | _ => false)
  | _ => false
def liveIds (σ : Sub) : Hp → List Nat
  | [] => []
  | e :: r => bif isDead σ e then liveIds σ r else σ.a e.1 :: liveIds σ r
def nodupB : List Nat → Bool
  | [] => true
  | a :: r => !r.any (Nat.beq a) && nodupB r
/-- All of some are below a number, and fall. -/
def descB : Nat → List Nat → Bool
  | _, [] => true
  | n, a :: r => bif Nat.blt a n then descB a r else false
def nodupF : List Nat → Bool
  | [] => true
  | a :: r => bif descB a r then true else nodupB (a :: r)

def prvAll (fs : List Lin) (σ : Sub) : List Lin → M Bool
  | [] => pure true
  | f :: r => do
    let x ← prv fs (f.sub' σ.i)
    if x then prvAll fs σ r else pure false
def ent (σ : Sub) (I : Inst) (p : Pat) (fr : List SV) (ss : SS) : M Unit := do
  let a ← allM (fun (x : Nat × Lin) => prvIn ss.fs .i64 x.2) I.i
  if !a then bad 300 else do
  let b ← leL (le ss.fs ss.ks 10) fr (subS σ p.fr)
  if !b then bad 301 else do
  let c ← prvAll ss.fs σ p.fs
  if !c then bad 302 else do
  let d ← allM (fun k => kiOK ss.fs ss.ks (KI.sub σ k)) p.ks
  if !d then bad 303 else do
  let e ← allM (leE σ ss.fs ss.ks ss.hp) p.hp
  if !e then bad 304 else
  if nodupF (liveIds σ p.hp) then pure () else bad 305

section
variable {P : Program} {n : Nat} {σ : Sub} {ρ ρ' : V} {ss s0 : SS} {st : St} {frc : Nat → AV}

theorem leL_getD {f : SV → SV → M Bool} (hf : ∀ v p o o', f v p o = .ok true o' → ∀ x, R ρ v x → R ρ p x) : ∀ {l m : List SV} {o o' : Orc}, leL f l m o = .ok true o' → ∀ t x, R ρ (l.getD t .any) x → R ρ (m.getD t .any) x
  | [], [], _, _, _, t, x, h => h
  | [], _ :: _, _, _, h, _, _, _ => (false_ok h).elim
  | _ :: _, [], _, _, h, _, _, _ => (false_ok h).elim
  | a :: r, b :: s, o, o', h, t, x, hx => by
    obtain ⟨⟨o1, h1⟩, o2, h2⟩ := and_ok h
    cases t with
    | zero => exact hf _ _ _ _ h1 _ hx
    | succ t => exact leL_getD hf h2 t x hx
theorem prvAll_ok (K : Kn P ρ ss.fs ss.ks) : ∀ {l : List Lin} {o o' : Orc}, prvAll ss.fs σ l o = .ok true o' → ∀ f ∈ l, 0 ≤ (f.sub' σ.i).ev ρ.i
  | c :: r, o, o', h, f, hf => by
    obtain ⟨⟨o1, h1⟩, o2, h2⟩ := and_ok h
    rcases List.mem_cons.1 hf with rfl | hf
    · exact prv_ok K h1
    · exact prvAll_ok K h2 f hf
theorem notB_ok {α : Type} {b : Bool} {x : M α} {k : Nat} {r : α} {o o' : Orc} (h : (if (!b) = true then bad k else x) o = .ok r o') : b = true ∧ x o = .ok r o' := by
  cases b with
  | true => exact ⟨rfl, by simpa using h⟩
  | false => exact (bad_ok (by simpa using h)).elim
theorem subS_getD (t : Nat) : ∀ l : List SV, (subS σ l).getD t .any = (l.getD t .any).sub σ := by
  intro l
  induction l generalizing t with
  | nil => rfl
  | cons a r ih =>
    cases t with
    | zero => rfl
    | succ t => simpa [subS] using ih t
theorem nodupB_ok {σ : Sub} {ρ1 : V} (hd : ∀ e : Nat × SObj, isDead σ e = true → ¬ lv ρ1 e) : ∀ {hp : Hp}, nodupB (liveIds σ hp) = true → hp.Pairwise fun e e' => lv ρ1 e → lv ρ1 e' → σ.a e.1 ≠ σ.a e'.1
  | [], _ => List.Pairwise.nil
  | e :: r, h => by
    simp only [liveIds] at h
    have mem : ∀ {hp : Hp} {e' : Nat × SObj}, e' ∈ hp → lv ρ1 e' → σ.a e'.1 ∈ liveIds σ hp := by
      intro hp
      induction hp with
      | nil => intro e' h; cases h
      | cons x l ih =>
        intro e' hm hl
        simp only [liveIds]
        rcases List.mem_cons.1 hm with rfl | hm
        · cases hx : isDead σ e' with
          | true => exact absurd hl (hd _ hx)
          | false => exact List.mem_cons_self ..
        · cases isDead σ x with
          | true => exact ih hm hl
          | false => exact List.mem_cons_of_mem _ (ih hm hl)
    cases hx : isDead σ e with
    | true =>
      rw [hx] at h
      exact List.pairwise_cons.2 ⟨fun e' _ hl => absurd hl (hd _ hx), nodupB_ok hd h⟩
    | false =>
      rw [hx] at h
      simp only [cond_false, nodupB, Bool.and_eq_true, Bool.not_eq_true'] at h
      refine List.pairwise_cons.2 ⟨fun e' hm _ hl heq => ?_, nodupB_ok hd h.2⟩
      have := mem hm hl
      rw [List.any_eq_false] at h
      have h2 := h.1 _ this
      rw [heq] at h2
      simp at h2

theorem descB_lt : ∀ {l : List Nat} {n : Nat}, descB n l = true → (∀ x ∈ l, x < n) ∧ nodupB l = true
  | [], _, _ => ⟨(by intro x hx; cases hx), rfl⟩
  | a :: r, n, h => by
    simp only [descB] at h
    cases hb : Nat.blt a n with
    | false => rw [hb] at h; cases h
    | true =>
      rw [hb] at h
      have ha := Nat.blt_eq.mp hb
      obtain ⟨h1, h2⟩ := descB_lt (show descB a r = true from h)
      refine ⟨fun x hx => ?_, ?_⟩
      · rcases List.mem_cons.1 hx with rfl | hx
        · exact ha
        · exact Nat.lt_trans (h1 x hx) ha
      · simp only [nodupB, Bool.and_eq_true, Bool.not_eq_true', h2, and_true]
        rw [List.any_eq_false]
        intro x hx hq
        have := Nat.eq_of_beq_eq_true hq
        have := h1 x hx
        omega
theorem nodupF_ok {l : List Nat} (h : nodupF l = true) : nodupB l = true := by
  cases l with
  | nil => rfl
  | cons a r =>
    simp only [nodupF] at h
    cases hb : descB a r with
    | true =>
      exact (descB_lt (n := a + 1) (l := a :: r) (by simp only [descB, hb]; rw [Nat.blt_eq.mpr (Nat.lt_succ_self a)]; rfl)).2
    | false => rw [hb] at h; exact h
/-- What holds at a point holds of the pattern, under the variables' new meanings. -/
theorem ent_ok {base : Nat} {I : Inst} (hσ : σ = mkSub base I) {p : Pat} (hw : p.wf base = true) (h : Sat P ρ ss st) {fr : List SV} (hF : FL ρ fr frc) {o o' : Orc} (e : ent σ I p fr ss o = .ok () o')
    (b1 : ∀ f ∈ s0.fs, f.below base = true ∧ 0 ≤ f.ev ρ.i) (b2 : ∀ k ∈ s0.ks, k.bl base = true ∧ k.ok P ρ)
    (F : Nat → Option AObj) (hrest : ∀ a ob, F a = some ob → st.get a = some ob) (hsep : ∀ e ∈ p.hp, lv (ρ.comp σ F) e → F (ρ.a (σ.a e.1)) = none) :
    Sat P (ρ.comp σ F) (p.ss s0) st ∧ FL (ρ.comp σ F) p.fr frc ∧ AgreeV base ρ (ρ.comp σ F) := by
  have K := h.kn
  simp only [Pat.wf, Bool.and_eq_true] at hw
  obtain ⟨⟨⟨⟨w1, w2⟩, w3⟩, w4⟩, w5⟩ := hw
  have w1 := Nat.le_of_ble_eq_true w1
  have ft := comp_fits p.nv ρ σ F
  have ag : AgreeV base ρ (ρ.comp σ F) := by rw [hσ]; exact mkSub_agree base I ρ F
  unfold ent at e
  replace e := bind_ok e; obtain ⟨c1, o1, e1, e⟩ := e
  obtain ⟨rfl, e⟩ := notB_ok e
  replace e := bind_ok e; obtain ⟨c2, o2, e2, e⟩ := e
  obtain ⟨rfl, e⟩ := notB_ok e
  replace e := bind_ok e; obtain ⟨c3, o3, e3, e⟩ := e
  obtain ⟨rfl, e⟩ := notB_ok e
  replace e := bind_ok e; obtain ⟨c4, o4, e4, e⟩ := e
  obtain ⟨rfl, e⟩ := notB_ok e
  replace e := bind_ok e; obtain ⟨c5, o5, e5, e⟩ := e
  obtain ⟨rfl, e⟩ := notB_ok e
  have nd : nodupB (liveIds σ p.hp) = true := by
    cases hn : nodupF (liveIds σ p.hp) with
    | true => exact nodupF_ok hn
    | false => rw [hn] at e; exact (bad_ok (by simpa using e)).elim
  have ents : ∀ x ∈ p.hp, x.2.ok (ρ.comp σ F) st ((ρ.comp σ F).a x.1) ∧ (lv (ρ.comp σ F) x → ∃ q, hget ss.hp (σ.a x.1) = some q ∧ lv ρ (σ.a x.1, q)) := by
    intro x hx
    obtain ⟨o6, o7, e6⟩ := allM_ok e5 x hx
    have := hpBl_mem w5 x hx
    exact leE_ok h ft this.1 this.2 e6
  have dead : ∀ x : Nat × SObj, isDead σ x = true → ¬ lv (ρ.comp σ F) x := by
    intro x hx hl
    unfold isDead at hx
    split at hx
    · rename_i k sz em hk
      unfold lv at hl; rw [hk] at hl
      apply hl
      show (σ.o k).den ρ = .exact
      split at hx
      · rename_i ho; rw [ho]; rfl
      · cases hx
    · cases hx
  refine ⟨⟨?_, ?_, ?_, w5, ?_⟩, ?_, ag⟩
  · intro v
    show _ ≤ (σ.i v).ev ρ.i ∧ (σ.i v).ev ρ.i ≤ _
    subst hσ
    simp only [mkSub]
    cases hb : Nat.blt v base with
    | true => simp only [cond_true, Lin.ev_v]; exact h.ok v
    | false =>
      simp only [cond_false]
      have key : ∀ (l : List (Nat × Lin)), (∀ x ∈ l, inR .i64 (x.2.ev ρ.i)) → inR .i64 ((alook (.k 0) l v).ev ρ.i) := by
        intro l
        induction l with
        | nil => intro _; simp only [alook, Lin.ev_k, inR, ikLo, ikHi]; omega
        | cons x r ih =>
          intro hx
          simp only [alook]
          cases Nat.beq x.1 v with
          | true => exact hx x (List.mem_cons_self ..)
          | false => exact ih fun y hy => hx y (List.mem_cons_of_mem _ hy)
      exact key I.i fun x hx => by obtain ⟨o6, o7, e6⟩ := allM_ok e1 x hx; exact prvIn_ok K e6
  · intro f hf
    rcases List.mem_append.1 hf with hf | hf
    · have hb := belowL_mem w3 f hf
      exact ⟨hb, by rw [← Lin.ev_fits ft hb]; exact prvAll_ok K e3 f hf⟩
    · have := b1 f hf
      exact ⟨Lin.below_mono w1 this.1, by rw [Lin.ev_agree ag.i this.1]; exact this.2⟩
  · intro k hk
    rcases List.mem_append.1 hk with hk | hk
    · rw [List.all_eq_true] at w4
      have hb := w4 k hk
      simp only [Bool.and_eq_true] at hb
      obtain ⟨o6, o7, e6⟩ := allM_ok e4 k hk
      exact ⟨hb.1, (KI_sub ft hb.2 hb.1).1 (kiOK_ok K e6)⟩
    · have := b2 k hk
      have k1 : k.ok P { ρ with F := F } := by
        have : Agree base ρ { ρ with F := ρ.F } := Agree.refl _ _
        have hk := (b2 k hk).2
        -- knowledge does not look at the objects
        cases k <;> simp only [KI.ok] at hk ⊢ <;> first | exact hk | skip
        · intro j hj; exact (Rs_F _ _).2 (hk j hj)
        · intro j hj hj'; exact (Rs_F _ _).2 (hk j hj hj')
        · exact ⟨hk.1, hk.2.1, (Rs_F _ _).2 hk.2.2⟩
        · intro j hj
          rcases hk j hj with h | ⟨e, h1, h2, h3⟩
          · exact .inl h
          · exact .inr ⟨e, h1, h2, (Rs_F _ _).2 h3⟩
        · exact ⟨hk.1, hk.2.1, fun t => (RF _ _).2 (hk.2.2.1 t), hk.2.2.2⟩
      exact ⟨KI.bl_mono w1 this.1, KI.agree ag.withF this.1 k1⟩
  · refine ⟨fun x hx => (ents x hx).1, ?_, hrest, fun x hx hl => hsep x hx hl⟩
    refine List.Pairwise.imp_of_mem ?_ (nodupB_ok dead nd)
    intro x y hx hy hxy lx ly
    obtain ⟨q, q1, q2⟩ := (ents x hx).2 lx
    obtain ⟨q', q3, q4⟩ := (ents y hy).2 ly
    exact hget_ne h.hp q1 q3 (hxy lx ly) q2 q4
  · intro t
    have hx := leL_getD (le_both K 10).1 e2 t _ (hF t)
    rw [subS_getD] at hx
    exact (R_sub ft _ (getD_bl w2 t) _).1 hx
end
end
end Go.EF.Rk
end

section
namespace Go.EF.Rk
noncomputable section
open Go Go.EF

/-! ### lists and strings that a pattern wants named -/
def szIn : List KI → Nat → Nat
  | [], _ => 1
  | .lst L sz _ :: r, M => bif Nat.beq L M then sz else szIn r M
  | _ :: r, M => szIn r M
mutual
def prep1 (pk : List KI) (p v : SV) (ss : SS) : SV × SS :=
  match p with
  | .list _ L => namL (szIn pk L) v ss
  | .str _ => match v with
    | .val (.string b) => bif decide (b.size ≤ LBIG) then nm (.ustr [.k b.size] [.k b.size]) ss else (v, ss)
    | _ => (v, ss)
  | .agg ps => match v with
    | .agg vs => let q := prepL pk ps vs ss; (.agg q.1, q.2)
    | _ => (v, ss)
  | .tup ps => match v with
    | .tup vs => let q := prepL pk ps vs ss; (.tup q.1, q.2)
    | _ => (v, ss)
  | .lpc ps _ => match v with
    | .lpc vs o => let q := prepL pk ps vs ss; (.lpc q.1 o, q.2)
    | _ => (v, ss)
  | _ => (v, ss)
def prepL (pk : List KI) (ps vs : List SV) (ss : SS) : List SV × SS := match ps with
  | p :: ps => match vs with
    | v :: vs =>
      let q := prep1 pk p v ss
      let q2 := prepL pk ps vs q.2
      (q.1 :: q2.1, q2.2)
    | [] => ([], ss)
  | [] => (vs, ss)
end
def prepH (pk : List KI) : Hp → SS → SS
  | [], ss => ss
  | (id, .cells ps) :: r, ss => match hget ss.hp id with
    | some (.cells cs) => match prepL pk ps cs ss with
      | (cs', ss1) => prepH pk r (match hget ss1.hp id with | some (.cells _) => { ss1 with hp := hput ss1.hp id (.cells cs') } | _ => ss)
    | _ => prepH pk r ss
  | _ :: r, ss => prepH pk r ss

section
variable {P : Program} {ρ ρ' : V} {ss : SS} {st : St} {frc : Nat → AV}

mutual
theorem prep1_ok (pk : List KI) : ∀ (p : SV) {v : SV} {ρ : V} {ss : SS} (_ : Sat P ρ ss st) (_ : v.bl ss.nv = true) {x : AV} (_ : R ρ v x), Named P ρ ss.nv st x (prep1 pk p v ss)
  | .list w0 L, v, ρ, ss, h, hb, x, hx => by unfold prep1; exact namL_ok h _ hb hx
  | .str s0, v, ρ, ss, h, hb, x, hx => by
    unfold prep1
    split
    · rename_i b
      cases hc : decide (b.size ≤ LBIG) with
      | false => exact .same h hb hx
      | true =>
        simp only [cond_true]
        simp only [R] at hx
        refine nm_ok (.ustr [.k b.size] [.k b.size]) h rfl ?_
        simp only [R]
        exact ⟨b, hx, of_decide_eq_true hc, fun l hl => by rw [List.mem_singleton.1 hl, Lin.ev_k]; exact Int.le_refl _, fun l hl => by rw [List.mem_singleton.1 hl, Lin.ev_k]; exact Int.le_refl _⟩
    · exact .same h hb hx
  | .agg ps, v, ρ, ss, h, hb, x, hx => by
    unfold prep1
    split
    · simp only [R] at hx
      obtain ⟨ys, rfl, hx⟩ := hx
      obtain ⟨ρ1, a1, a2, a3, a4, a5⟩ := prepL_ok pk ps _ h hb hx
      exact ⟨ρ1, a1, a2, a3, ⟨ys, rfl, a4⟩, a5⟩
    · exact .same h hb hx
  | .tup ps, v, ρ, ss, h, hb, x, hx => by
    unfold prep1
    split
    · simp only [R] at hx
      obtain ⟨ys, rfl, hx⟩ := hx
      obtain ⟨ρ1, a1, a2, a3, a4, a5⟩ := prepL_ok pk ps _ h hb hx
      exact ⟨ρ1, a1, a2, a3, ⟨ys, rfl, a4⟩, a5⟩
    · exact .same h hb hx
  | .lpc ps _, v, ρ, ss, h, hb, x, hx => by
    unfold prep1
    split
    · simp only [R] at hx
      obtain ⟨ys, rfl, hx⟩ := hx
      obtain ⟨ρ1, a1, a2, a3, a4, a5⟩ := prepL_ok pk ps _ h hb hx
      exact ⟨ρ1, a1, a2, a3, ⟨ys, rfl, a4⟩, a5⟩
    · exact .same h hb hx
  | .any, v, ρ, ss, h, hb, x, hx => by unfold prep1; exact .same h hb hx
  | .ubool, v, ρ, ss, h, hb, x, hx => by unfold prep1; exact .same h hb hx
  | .val _, v, ρ, ss, h, hb, x, hx => by unfold prep1; exact .same h hb hx
  | .int .., v, ρ, ss, h, hb, x, hx => by unfold prep1; exact .same h hb hx
  | .uint .., v, ρ, ss, h, hb, x, hx => by unfold prep1; exact .same h hb hx
  | .ustr .., v, ρ, ss, h, hb, x, hx => by unfold prep1; exact .same h hb hx
  | .bool _, v, ρ, ss, h, hb, x, hx => by unfold prep1; exact .same h hb hx
  | .ptr .., v, ρ, ss, h, hb, x, hx => by unfold prep1; exact .same h hb hx
  | .map _, v, ρ, ss, h, hb, x, hx => by unfold prep1; exact .same h hb hx
  | .yld _, v, ρ, ss, h, hb, x, hx => by unfold prep1; exact .same h hb hx
  | .born _, v, ρ, ss, h, hb, x, hx => by unfold prep1; exact .same h hb hx
  | .ptrx .., v, ρ, ss, h, hb, x, hx => by unfold prep1; exact .same h hb hx
  | .ptrv .., v, ρ, ss, h, hb, x, hx => by unfold prep1; exact .same h hb hx
  | .lptr .., v, ρ, ss, h, hb, x, hx => by unfold prep1; exact .same h hb hx
  | .mx .., v, ρ, ss, h, hb, x, hx => by unfold prep1; exact .same h hb hx
  | .ms .., v, ρ, ss, h, hb, x, hx => by unfold prep1; exact .same h hb hx
  | .listc .., v, ρ, ss, h, hb, x, hx => by unfold prep1; exact .same h hb hx
  | .ulist .., v, ρ, ss, h, hb, x, hx => by unfold prep1; exact .same h hb hx
  | .fn .., v, ρ, ss, h, hb, x, hx => by unfold prep1; exact .same h hb hx
theorem prepL_ok (pk : List KI) : ∀ (ps vs : List SV) {ρ : V} {ss : SS} (_ : Sat P ρ ss st) (_ : belowS ss.nv vs = true) {xs : List AV} (_ : Rs ρ vs xs), ∃ ρ', Agree ss.nv ρ ρ' ∧ ss.nv ≤ (prepL pk ps vs ss).2.nv ∧ Sat P ρ' (prepL pk ps vs ss).2 st ∧ Rs ρ' (prepL pk ps vs ss).1 xs ∧ belowS (prepL pk ps vs ss).2.nv (prepL pk ps vs ss).1 = true
  | [], vs, ρ, ss, h, hb, xs, hx => by unfold prepL; exact ⟨ρ, Agree.refl _ _, Nat.le_refl _, h, hx, hb⟩
  | _ :: _, [], ρ, ss, h, hb, xs, hx => by unfold prepL; exact ⟨ρ, Agree.refl _ _, Nat.le_refl _, h, hx, hb⟩
  | p :: ps, v :: vs, ρ, ss, h, hb, xs, hx => by
    simp only [belowS, Bool.and_eq_true] at hb
    simp only [Rs] at hx
    obtain ⟨y, ys, rfl, h1, h2⟩ := hx
    obtain ⟨ρ1, a1, a2, a3, a4, a5⟩ := prep1_ok pk p h hb.1 h1
    simp only [prepL]
    generalize prep1 pk p v ss = q at a2 a3 a4 a5 ⊢
    obtain ⟨ρ2, b1, b2, b3, b4, b5⟩ := prepL_ok pk ps vs a3 (belowS_mono a2 _ hb.2) (Rs_agree a1 hb.2 h2)
    generalize prepL pk ps vs q.2 = q2 at b2 b3 b4 b5 ⊢
    refine ⟨ρ2, a1.trans b1 a2, Nat.le_trans a2 b2, b3, ⟨y, ys, rfl, R_agree b1 a5 a4, b4⟩, ?_⟩
    simp only [belowS, Bool.and_eq_true]; exact ⟨SV.bl_mono b2 _ a5, b5⟩
end
/-- A frame as a list of values. -/
theorem FR_rs {fr : List SV} (h : FL ρ fr frc) : Rs ρ fr ((List.range fr.length).map frc) := by
  have key : ∀ (l : List SV) (k : Nat), (∀ t, R ρ (l.getD t .any) (frc (k + t))) → Rs ρ l ((List.range l.length).map fun t => frc (k + t)) := by
    intro l
    induction l with
    | nil => intro k _; simp [Rs]
    | cons s r ih =>
      intro k hk
      have := ih (k + 1) (fun t => by have := hk (t + 1); rw [show k + 1 + t = k + (t + 1) by omega]; exact this)
      refine ⟨frc k, (List.range r.length).map (fun t => frc (k + 1 + t)), ?_, by simpa using hk 0, this⟩
      rw [List.length_cons, List.range_succ_eq_map, List.map_cons, List.map_map]
      simp only [Nat.add_zero]
      congr 1
      apply List.map_congr_left
      intro t _
      simp only [Function.comp]
      congr 1; omega
  have := key fr 0 (fun t => by rw [Nat.zero_add]; exact h t)
  simpa using this
theorem rs_FR {fr : List SV} {n : Nat} (h : Rs ρ fr ((List.range n).map frc)) : FL ρ fr frc := by
  intro t
  by_cases ht : t < fr.length
  · obtain ⟨y, h1, h2⟩ := Rs_get h (i := t) (s := fr[t]) (List.getElem?_eq_getElem ht)
    have hn : t < n := by have := Rs_length h; simp at this; omega
    rw [List.getElem?_map, List.getElem?_range hn] at h1
    simp only [Option.map_some, Option.some.injEq] at h1
    rw [List.getD_eq_getElem?_getD, List.getElem?_eq_getElem ht, h1]; exact h2
  · rw [List.getD_eq_getElem?_getD, List.getElem?_eq_none (by omega)]; trivial
theorem prepF_ok (h : Sat P ρ ss st) (pk : List KI) (ps : List SV) {fr : List SV} (hb : belowS ss.nv fr = true) (hF : FL ρ fr frc) : ∃ ρ', Agree ss.nv ρ ρ' ∧ ss.nv ≤ (prepL pk ps fr ss).2.nv ∧ Sat P ρ' (prepL pk ps fr ss).2 st ∧ FL ρ' (prepL pk ps fr ss).1 frc ∧ belowS (prepL pk ps fr ss).2.nv (prepL pk ps fr ss).1 = true := by
  obtain ⟨ρ1, a1, a2, a3, a4, a5⟩ := prepL_ok pk ps fr h hb (FR_rs hF)
  exact ⟨ρ1, a1, a2, a3, rs_FR a4, a5⟩
theorem prepH_ok (pk : List KI) : ∀ (hp : Hp) {ρ : V} {ss : SS} (_ : Sat P ρ ss st), ∃ ρ', Agree ss.nv ρ ρ' ∧ ss.nv ≤ (prepH pk hp ss).nv ∧ Sat P ρ' (prepH pk hp ss) st
  | [], ρ, ss, h => ⟨ρ, Agree.refl _ _, Nat.le_refl _, h⟩
  | (id, ob) :: r, ρ, ss, h => by
    cases ob <;> (try exact prepH_ok pk r h)
    rename_i ps
    simp only [prepH]
    cases hg : hget ss.hp id with
    | none => exact prepH_ok pk r h
    | some q =>
      cases q <;> (try exact prepH_ok pk r h)
      rename_i cs
      simp only
      obtain ⟨ys, g1, g2⟩ := h.hp.get hg
      have hbl := (hpBl_mem h.hb _ (hget_mem hg)).2
      have hid := (hpBl_mem h.hb _ (hget_mem hg)).1
      obtain ⟨ρ1, a1, a2, a3, a4, a5⟩ := prepL_ok pk ps cs h hbl g2
      rcases hm : prepL pk ps cs ss with ⟨cs', ss1⟩
      rw [hm] at a2 a3 a4 a5
      simp only at a2 a3 a4 a5 ⊢
      cases hg1 : hget ss1.hp id with
      | none => exact prepH_ok pk r h
      | some q1 =>
        cases q1 <;> (try exact prepH_ok pk r h)
        rename_i cs1
        simp only
        have ea : ρ1.a id = ρ.a id := a1.a id hid
        have S : Sat P ρ1 { ss1 with hp := hput ss1.hp id (.cells cs') } st := by
          refine ⟨a3.ok, a3.fs, a3.ks, hpBl_put a3.hb a5, a3.hp.put hg1 (lv_real rfl) (lv_real rfl) (fun _ _ => rfl) ⟨ys, by rw [ea]; exact g1, a4⟩⟩
        obtain ⟨ρ2, b1, b2, b3⟩ := prepH_ok pk r S
        exact ⟨ρ2, a1.trans b1 a2, Nat.le_trans a2 b2, b3⟩
end

/-! ### guessing -/
def asVar (base : Nat) (l : Lin) : Option Nat := match l with
  | ⟨0, [(v, 1)]⟩ => bif Nat.ble base v then some v else none
  | _ => none
def addI (base : Nat) (p v : Lin) (I : Inst) : Inst := match asVar base p with
  | some x => { I with i := (x, v) :: I.i }
  | none => I
def addA (base p v : Nat) (I : Inst) : Inst := bif Nat.ble base p then { I with a := (p, v) :: I.a } else I
def addW (base : Nat) (p v : SOwn) (I : Inst) : Inst := match p with
  | .var k => bif Nat.ble base k then { I with o := (k, v) :: I.o } else I
  | .tok a => match v with | .tok b => addA base a b I | _ => I
  | _ => I
mutual
def mt (base : Nat) (p v : SV) (I : Inst) : Inst := match p with
  | .int _ l => match v with | .int _ l' => addI base l l' I | _ => I
  | .str s => match v with | .str s' => bif Nat.ble base s then { I with s := (s, s') :: I.s } else I | _ => I
  | .ptr a _ => match v with | .ptr b _ => addA base a b I | _ => I
  | .ptrx a _ _ _ _ i => match v with | .ptrx b _ _ _ _ i' => addI base i i' (addA base a b I) | _ => I
  | .ptrv a _ _ i => match v with | .ptrv b _ _ i' => addI base i i' (addA base a b I) | _ => I
  | .lptr L _ _ i => match v with | .lptr L' _ _ i' => addI base i i' (bif Nat.ble base L then { I with l := (L, L') :: I.l } else I) | _ => I
  | .list w L => match v with | .list w' L' => addW base w w' (bif Nat.ble base L then { I with l := (L, L') :: I.l } else I) | _ => I
  | .listc w cs _ => match v with | .listc w' cs' _ => addW base w w' (mtS base cs cs' I) | _ => I
  | .ms a _ _ i l c => match v with | .ms b _ _ i' l' c' => addI base i i' (addI base l l' (addI base c c' (addA base a b I))) | _ => I
  | .mx a n => match v with | .mx b n' => addI base n n' (addA base a b I) | _ => I
  | .map a => match v with | .map b => addA base a b I | _ => I
  | .yld a => match v with | .yld b => addA base a b I | _ => I
  | .lpc cs _ => match v with | .lpc cs' _ => mtS base cs cs' I | _ => I
  | .agg cs => match v with | .agg cs' => mtS base cs cs' I | _ => I
  | .tup cs => match v with | .tup cs' => mtS base cs cs' I | _ => I
  | .fn _ a b => match v with | .fn _ a' b' => mtS base a a' (mtS base b b' I) | _ => I
  | _ => I
def mtS (base : Nat) (ps vs : List SV) (I : Inst) : Inst := match ps with
  | p :: ps => match vs with | v :: vs => mtS base ps vs (mt base p v I) | [] => I
  | [] => I
end
def mtO (base : Nat) (p v : SObj) (I : Inst) : Inst := match p, v with
  | .cells cs, .cells ds => mtS base cs ds I
  | .vec _ n _, .vec _ n' _ => addI base n n' I
  | .sit _ q, .sit _ q' => addI base q q' I
  | _, _ => I
def mtA (base : Nat) (I : Inst) (a : Nat) : Nat := bif Nat.blt a base then a else alook 0 I.a a
def mtH (base : Nat) (hp : Hp) : Hp → Inst → Inst
  | [], I => I
  | (id, .own k _ _) :: r, I =>
    mtH base hp r (bif Nat.ble base id then (match (bif Nat.blt k base then SOwn.var k else alook .any I.o k) with
      | .tok a => { I with a := (id, a) :: I.a }
      | .var k' => (match hown hp k' with | some (a, _) => { I with a := (id, a) :: I.a } | none => I)
      | _ => I) else I)
  | (id, o) :: r, I => mtH base hp r (match hget hp (mtA base I id) with | some v => mtO base o v I | none => I)
def mtK (base : Nat) (ks : List KI) : List KI → Inst → Inst
  | [], I => I
  | .lst L _ len :: r, I => mtK base ks r (match lstOf ks (bif Nat.blt L base then L else alook 0 I.l L) with | some (_, len') => addI base len len' I | none => I)
  | .str s len :: r, I => mtK base ks r (match strOf ks (bif Nat.blt s base then s else alook 0 I.s s) with | some len' => addI base len len' I | none => I)
  | _ :: r, I => mtK base ks r I
def guess (base : Nat) (p : Pat) (fr : List SV) (ss : SS) : Inst :=
  mtK base ss.ks p.ks (mtH base ss.hp p.gh (mtH base ss.hp p.gh (mtS base p.gd fr {})))

/-! ### forks -/
structure Fk where
  b : Bool
  fr : Fr
  ss : SS
/-- Whether a condition cannot be met. -/
def refuted (fs : List Lin) : Cond → M Bool
  | .ge l => prv fs ((l.mul (-1)).addk (-1))
  | .eq l => do
    let a ← prv fs (l.addk (-1))
    if a then pure true else prv fs ((l.mul (-1)).addk (-1))
  | .ne l => do
    let a ← prv fs l
    if a then prv fs (l.mul (-1)) else pure false
  | .tt => pure false
  | .ff => pure true
def setO (fr : Fr) (t : Option Nat) (v : SV) : Fr := match t with
  | some t => fr.set t v
  | none => fr
def forkB (c : Cond) (t : Option Nat) (v : Bool) (fr : Fr) (ss : SS) : M (List Fk) := do
  let r ← refuted ss.fs c
  if r then pure [] else do
    let s ← asm c ss
    pure [⟨v, setO fr t (.bool (bif v then .tt else .ff)), s⟩]
def slotOf : Opd → Option Nat
  | .tmp t => some t
  | .const _ => none
def forkC (v : SV) (t : Option Nat) (fr : Fr) (ss : SS) : M (List Fk) := match v with
  | .bool .tt => pure [⟨true, fr, ss⟩]
  | .bool .ff => pure [⟨false, fr, ss⟩]
  | .bool c => do
    let a ← forkB c t true fr ss
    let b ← forkB c.not t false fr ss
    pure (a ++ b)
  | .ubool => pure [⟨true, setO fr t (.bool .tt), ss⟩, ⟨false, setO fr t (.bool .ff), ss⟩]
  | _ => bad 320
section
variable {P : Program} {ρ ρ' : V} {ss : SS} {st : St} {frc : Nat → AV} {fr : Fr}
theorem refuted_ok (K : Kn P ρ ss.fs ss.ks) {c : Cond} {o o' : Orc} (e : refuted ss.fs c o = .ok true o') : c.ev ρ.i = false := by
  cases c with
  | tt => exact absurd (ret_ok e) (by simp)
  | ff => rfl
  | ge l => have := prv_ok K e; rw [Lin.ev_addk, Lin.ev_mul] at this; exact decide_eq_false (by omega)
  | eq l =>
    obtain ⟨a, o1, e1, e⟩ := bind_ok e
    cases a with
    | true => have := prv_ok K e1; rw [Lin.ev_addk] at this; exact decide_eq_false (by omega)
    | false => have := prv_ok K (by simpa using e); rw [Lin.ev_addk, Lin.ev_mul] at this; exact decide_eq_false (by omega)
  | ne l =>
    obtain ⟨⟨o1, e1⟩, o2, e2⟩ := and_ok e
    have h1 := prv_ok K e1; have h2 := prv_ok K e2; rw [Lin.ev_mul] at h2
    have : l.ev ρ.i = 0 := by omega
    simp only [Cond.ev, this]; rfl
theorem FR_put {t : Nat} {v : SV} (h : FR ρ fr frc) (hv : R ρ v (frc t)) : FR ρ (fr.set t v) frc := h.set hv fun _ _ => rfl
theorem belowS_set {n : Nat} {l : Fr} (h : l.bl n = true) {v : SV} (hv : v.bl n = true) (t : Nat) : (l.set t v).bl n = true := Fr.bl_set h hv t
theorem setO_ok {t : Option Nat} {b : Bool} (h : FR ρ fr frc) (ht : ∀ u, t = some u → frc u = .bool b) : FR ρ (setO fr t (.bool (bif b then .tt else .ff))) frc := by
  cases t with
  | none => exact h
  | some u => exact FR_put h (by rw [ht u rfl]; cases b <;> rfl)
theorem setO_bl {t : Option Nat} {n : Nat} {v : SV} (h : fr.bl n = true) (hv : v.bl n = true) : (setO fr t v).bl n = true := by
  cases t with
  | none => exact h
  | some u => exact belowS_set h hv u
theorem slotOf_ev {o : Opd} {u : Nat} (h : slotOf o = some u) : frc u = o.ev frc := by
  cases o with
  | tmp t => cases h; rfl
  | const _ => cases h
/-- One of the forks is taken. -/
theorem forkC_ok (h : Sat P ρ ss st) (hF : FR ρ fr frc) (hf : fr.bl ss.nv = true) {v : SV} (hb : v.bl ss.nv = true) {t : Option Nat} {x : AV} (hx : R ρ v x) (ht : ∀ u, t = some u → frc u = x) {l : List Fk} {o o' : Orc} (e : forkC v t fr ss o = .ok l o') :
    ∃ k ∈ l, x = .bool k.b ∧ Sat P ρ k.ss st ∧ k.ss.nv = ss.nv ∧ FR ρ k.fr frc ∧ k.fr.bl ss.nv = true := by
  have one : ∀ {c : Cond} {b : Bool} {l : List Fk} {o o' : Orc}, c.bl ss.nv = true → c.ev ρ.i = true → x = .bool b → forkB c t b fr ss o = .ok l o' → ∃ k ∈ l, x = .bool k.b ∧ Sat P ρ k.ss st ∧ k.ss.nv = ss.nv ∧ FR ρ k.fr frc ∧ k.fr.bl ss.nv = true := by
    intro c b l o o' hc hv hxb e
    obtain ⟨r, o1, e1, e⟩ := bind_ok e
    cases r with
    | true => have := refuted_ok h.kn e1; rw [hv] at this; cases this
    | false =>
      obtain ⟨s, o2, e2, e3⟩ := bind_ok (show (asm c ss >>= _) o1 = _ from by simpa using e)
      have e3 := ret_ok e3; subst e3
      obtain ⟨S, hn⟩ := asm_ok h hc hv e2
      exact ⟨_, List.mem_singleton.2 rfl, hxb, S, hn, setO_ok hF (fun u hu => by rw [ht u hu, hxb]), setO_bl hf (by cases b <;> rfl)⟩
  have gen : ∀ {c : Cond} {l : List Fk} {o o' : Orc}, c.bl ss.nv = true → x = .bool (c.ev ρ.i) → (do
      let a ← forkB c t true fr ss
      let b ← forkB c.not t false fr ss
      pure (a ++ b) : M (List Fk)) o = .ok l o' → ∃ k ∈ l, x = .bool k.b ∧ Sat P ρ k.ss st ∧ k.ss.nv = ss.nv ∧ FR ρ k.fr frc ∧ k.fr.bl ss.nv = true := by
    intro c l o o' hc hxc e
    obtain ⟨a, o1, e1, e⟩ := bind_ok e
    obtain ⟨b, o2, e2, e⟩ := bind_ok e
    have e := ret_ok e; subst e
    cases hv : c.ev ρ.i with
    | true =>
      obtain ⟨k, hk, r⟩ := one hc hv (by rw [hxc, hv]) e1
      exact ⟨k, List.mem_append.2 (.inl hk), r⟩
    | false =>
      obtain ⟨k, hk, r⟩ := one (Cond.not_bl hc) (by rw [Cond.not_ev, hv]; rfl) (by rw [hxc, hv]) e2
      exact ⟨k, List.mem_append.2 (.inr hk), r⟩
  cases v <;> simp only [forkC] at e <;> first | exact (bad_ok e).elim | skip
  · rename_i c
    simp only [R] at hx
    cases c with
    | tt => have e := ret_ok e; subst e; exact ⟨_, List.mem_singleton.2 rfl, hx, h, rfl, hF, hf⟩
    | ff => have e := ret_ok e; subst e; exact ⟨_, List.mem_singleton.2 rfl, hx, h, rfl, hF, hf⟩
    | ge l => exact gen (c := .ge l) hb hx e
    | eq l => exact gen (c := .eq l) hb hx e
    | ne l => exact gen (c := .ne l) hb hx e
  · have e := ret_ok e; subst e
    simp only [R] at hx
    obtain ⟨b, rfl⟩ := hx
    cases b with
    | true => exact ⟨_, List.mem_cons_self .., rfl, h, rfl, setO_ok (b := true) hF ht, setO_bl hf rfl⟩
    | false => exact ⟨_, List.mem_cons_of_mem _ (List.mem_singleton.2 rfl), rfl, h, rfl, setO_ok (b := false) hF ht, setO_bl hf rfl⟩
end
end
end Go.EF.Rk
end
