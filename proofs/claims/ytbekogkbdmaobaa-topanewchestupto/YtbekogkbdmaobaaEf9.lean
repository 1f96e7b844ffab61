/- Each operation of the machine does what the resolved operation says (sixth part: copy, maps, min and max; all together). No conditions. -/
import Derived.Test.YtbekogkbdmaobaaEf8
namespace Go.EF
open Go Go.RowKit

section
variable {P : Program} {G : Gh} {st : St} {w : World} {x : AV}

theorem evSem_bind {α β : Type} {P : Program} : ∀ (s : Sem α) (f : α → Sem β) (b : β), evSem P (s >>= f) = some b ↔ ∃ a, evSem P s = some a ∧ evSem P (f a) = some b
  | .pure a, f, b => by
    show evSem P (f a) = some b ↔ _
    simp [evSem]
  | .program k, f, b => by
    show evSem P ((k P).bind f) = some b ↔ _
    simp only [evSem]; exact evSem_bind (k P) f b
  | .mark m k, f, b => by
    show evSem P (k.bind f) = some b ↔ _
    simp only [evSem]; exact evSem_bind k f b
  | .load .., f, b => by show (none : Option β) = _ ↔ _; simp [evSem]
  | .store .., f, b => by show (none : Option β) = _ ↔ _; simp [evSem]
  | .new .., f, b => by show (none : Option β) = _ ↔ _; simp [evSem]
  | .shape .., f, b => by show (none : Option β) = _ ↔ _; simp [evSem]
  | .freeze .., f, b => by show (none : Option β) = _ ↔ _; simp [evSem]
  | .frozen .., f, b => by show (none : Option β) = _ ↔ _; simp [evSem]
  | .getObj .., f, b => by show (none : Option β) = _ ↔ _; simp [evSem]
  | .setObj .., f, b => by show (none : Option β) = _ ↔ _; simp [evSem]
  | .choose .., f, b => by show (none : Option β) = _ ↔ _; simp [evSem]
  | .sys .., f, b => by show (none : Option β) = _ ↔ _; simp [evSem]
  | .halt .., f, b => by show (none : Option β) = _ ↔ _; simp [evSem]

theorem evSem_pure {α : Type} (a b : α) : evSem P (pure a) = some b ↔ a = b := by
  show evSem P (Sem.pure a) = some b ↔ _
  simp [evSem]

theorem findNow_same (kind : TypeDesc) (k : Value) : ∀ (es1 es2 : List MapEntry) (i : Nat), es1.map (·.key) = es2.map (·.key) →
    (Instr.findNow kind k es2 i).map (Option.map (·.1)) = (Instr.findNow kind k es1 i).map (Option.map (·.1)) ∧
    ∀ j v, Instr.findNow kind k es2 i = some (some (j, v)) → ∃ e, es2[j - i]? = some e ∧ v = e.val ∧ i ≤ j
  | [], [], i, _ => by simp [Instr.findNow]
  | [], _ :: _, i, h => by simp at h
  | _ :: _, [], i, h => by simp at h
  | e1 :: es1, e2 :: es2, i, h => by
    simp only [List.map_cons, List.cons.injEq] at h
    obtain ⟨h1, h2⟩ := h
    obtain ⟨ih1, ih2⟩ := findNow_same kind k es1 es2 (i + 1) h2
    simp only [Instr.findNow, h1]
    split
    · refine ⟨rfl, fun j v hj => ?_⟩
      simp only [Option.some.injEq, Prod.mk.injEq] at hj
      obtain ⟨rfl, rfl⟩ := hj
      exact ⟨e2, by simp, rfl, Nat.le_refl _⟩
    · refine ⟨ih1, fun j v hj => ?_⟩
      obtain ⟨e, g1, g2, g3⟩ := ih2 j v hj
      refine ⟨e, ?_, g2, by omega⟩
      obtain ⟨d, hd⟩ : ∃ d, j - i = d + 1 := ⟨j - i - 1, by omega⟩
      rw [hd, List.getElem?_cons_succ]; rw [← g1]; congr 1; omega
    · simp

theorem run_findAsking (kt : TypeId) (k : Value) : ∀ (es1 es2 : List MapEntry) (i : Nat) (r : Option (Nat × Value)), es1.map (·.key) = es2.map (·.key) → evSem P (Instr.findAsking kt k es1 i) = some r →
    ∃ r', (∀ w, (Instr.findAsking kt k es2 i).run P w = .ok r' w) ∧ r'.map (·.1) = r.map (·.1) ∧ ∀ j v, r' = some (j, v) → ∃ e, es2[j - i]? = some e ∧ v = e.val ∧ i ≤ j
  | [], [], i, r, _, h => by
    simp only [Instr.findAsking, evSem_pure] at h; subst h
    exact ⟨none, fun w => rfl, rfl, fun j v e => by cases e⟩
  | [], _ :: _, i, _, h, _ => by simp at h
  | _ :: _, [], i, _, h, _ => by simp at h
  | e1 :: es1, e2 :: es2, i, r, h, hr => by
    simp only [List.map_cons, List.cons.injEq] at h
    obtain ⟨h1, h2⟩ := h
    simp only [Instr.findAsking] at hr ⊢
    rw [evSem_bind] at hr
    obtain ⟨b, hb, hr⟩ := hr
    rw [h1] at hb
    have hrun := evSem_run _ hb
    cases b with
    | true =>
      simp only [if_true, evSem_pure] at hr; subst hr
      refine ⟨some (i, e2.val), fun w => by rw [Sem.run_bind, hrun w]; rfl, rfl, fun j v e => ?_⟩
      simp only [Option.some.injEq, Prod.mk.injEq] at e; obtain ⟨rfl, rfl⟩ := e
      exact ⟨e2, by simp, rfl, Nat.le_refl _⟩
    | false =>
      simp only [Bool.false_eq_true, if_false] at hr
      obtain ⟨r', g1, g2, g3⟩ := run_findAsking kt k es1 es2 (i + 1) r h2 hr
      refine ⟨r', fun w => by rw [Sem.run_bind, hrun w]; exact g1 w, g2, fun j v e => ?_⟩
      obtain ⟨e', q1, q2, q3⟩ := g3 j v e
      refine ⟨e', ?_, q2, by omega⟩
      obtain ⟨d, hd⟩ : ∃ d, j - i = d + 1 := ⟨j - i - 1, by omega⟩
      rw [hd, List.getElem?_cons_succ]; rw [← q1]; congr 1; omega

theorem run_findKey (kt : TypeId) (k : Value) (es1 es2 : List MapEntry) (r : Option (Nat × Value)) (hk : es1.map (·.key) = es2.map (·.key)) (h : evSem P (Instr.findKey kt k es1) = some r) :
    ∃ r', (∀ w, (Instr.findKey kt k es2).run P w = .ok r' w) ∧ r'.map (·.1) = r.map (·.1) ∧ ∀ j v, r' = some (j, v) → ∃ e, es2[j]? = some e ∧ v = e.val := by
  unfold Instr.findKey at h
  rw [evSem_bind] at h
  obtain ⟨d, hd, h⟩ := h
  have hrun := evSem_run _ hd
  obtain ⟨f1, f2⟩ := findNow_same d k es1 es2 0 hk
  cases e1 : Instr.findNow d k es1 0 with
  | some r1 =>
    rw [e1] at h f1
    simp only [evSem_pure] at h; subst h
    cases e2 : Instr.findNow d k es2 0 with
    | none => rw [e2] at f1; simp at f1
    | some r2 =>
      rw [e2] at f1; simp at f1
      refine ⟨r2, fun w => by unfold Instr.findKey; rw [Sem.run_bind, hrun w]; simp [e2], f1, fun j v e => ?_⟩
      subst e
      obtain ⟨e, g1, g2, _⟩ := f2 j v e2
      exact ⟨e, by simpa using g1, g2⟩
  | none =>
    rw [e1] at h f1
    simp only at h
    obtain ⟨r', g1, g2, g3⟩ := run_findAsking kt k es1 es2 0 r hk h
    have e2 : Instr.findNow d k es2 0 = none := by
      cases e2 : Instr.findNow d k es2 0 with
      | none => rfl
      | some r2 => rw [e2] at f1; simp at f1
    refine ⟨r', fun w => by unfold Instr.findKey; rw [Sem.run_bind, hrun w]; simp [e2, g1], g2, fun j v e => ?_⟩
    obtain ⟨e', q1, q2, _⟩ := g3 j v e
    exact ⟨e', by simpa using q1, q2⟩

theorem EntsRel.keys {G : Gh} : ∀ {es : List MEnt} {rs : List MapEntry}, EntsRel G es rs → (dents es).map (·.key) = rs.map (·.key)
  | [], rs, h => by simp only [EntsRel] at h; subst h; rfl
  | e :: es, rs, h => by
    simp only [EntsRel] at h; obtain ⟨r, rs', rfl, h1, _, _, h⟩ := h
    have := EntsRel.keys h
    simp only [dents, List.map_cons, List.map_map] at this ⊢
    rw [h1, this]

theorem findK_rel {emp : Bool} {kt : TypeId} {k : Value} {es : List MEnt} {rs : Array MapEntry} {o : Option Nat} (hE : EntsRel G es rs.toList) (h : findK P emp kt k es = some o) :
    (∀ w, (Instr.checkKey emp 10000 kt k).run P w = .ok () w) ∧
    ∃ r', (∀ w, (Instr.findKey kt k rs.toList).run P w = .ok r' w) ∧ r'.map (·.1) = o ∧ ∀ j v, r' = some (j, v) → ∃ e, rs.toList[j]? = some e ∧ v = e.val := by
  unfold findK at h
  rw [evSem_bind] at h
  obtain ⟨u, h1, h⟩ := h
  rw [evSem_bind] at h
  obtain ⟨r, h2, h3⟩ := h
  rw [evSem_pure] at h3
  obtain ⟨r', g1, g2, g3⟩ := run_findKey kt k (dents es) rs.toList r hE.keys h2
  refine ⟨fun w => evSem_run _ h1 w, r', g1, by rw [g2]; exact h3, g3⟩

theorem run_getMap {b : Nat} {rs : Array MapEntry} {c : Nat} (h : w.heap[b]? = some (.map rs c)) : (getObj b).run P w = .ok (.map rs c) w := by simp [getObj, Sem.run, h]

theorem ok_lookup {t kt e : TypeId} {zv : Value} {m k r : AV} {vm vk kv : Value} {ok : Bool} {a clock : Nat} {es : List MEnt} {o : Option Nat} (hu : P.underlying t = some (.map kt e)) (hz : (P.info? e).bind (·.zero) = some zv)
    (hR : Rel P G st w) (rm : VRel G m vm) (rk : VRel G k vk) (hm : mapOf st m = some (a, es, clock)) (hk : k.toV = some kv) (hf : findK P es.isEmpty kt kv es = some o)
    (hr : (∃ i en, o = some i ∧ es[i]? = some en ∧ r = if ok then .tup [en.val, .bool true] else en.val) ∨ (o = none ∧ r = if ok then .tup [ofV zv, .bool false] else ofV zv)) :
    OpOK P G st r w (do pure (Next.value (← Instr.lookup t vm vk ok))) := by
  obtain ⟨b, rs, e1, rfl, h3, h4, h5, h6⟩ := mapOf_rel hR rm hm
  have := toV_rel hk rk; subst this
  obtain ⟨c1, r', c2, c3, c4⟩ := findK_rel h6 hf
  have he : es.isEmpty = rs.isEmpty := by
    have hl := h6.length
    cases es with
    | nil => have : rs.size = 0 := by simpa using hl.symm
             simp [Array.isEmpty, this]
    | cons e es => simp at hl; simp [Array.isEmpty, ← hl]
  rw [he] at c1
  have hzr : ∀ w, (zeroValue e).run P w = .ok zv w := fun w => by
    rw [Option.bind_eq_some_iff] at hz; obtain ⟨i, g1, g2⟩ := hz
    simp [zeroValue, typeInfo, g1, g2]
  rcases hr with ⟨i, en, rfl, hen, rfl⟩ | ⟨rfl, rfl⟩
  · cases r' with
    | none => simp at c3
    | some jv =>
      obtain ⟨j, v⟩ := jv
      simp at c3; subst c3
      obtain ⟨ent, g1, rfl⟩ := c4 j v rfl
      obtain ⟨r2, g2, _, _, g3⟩ := h6.get j en hen
      rw [g1] at g2; cases g2
      refine OpOK.same (y := if ok then .tuple #[ent.val, .bool true] else ent.val) ?_ hR ?_
      · simp [Instr.lookup, run_underlying_of hu, run_getMap h5, c1, c2]
      · cases ok
        · exact g3
        · simp only [if_true, VRel, VRels]; exact ⟨_, rfl, _, _, rfl, g3, _, _, rfl, rfl, rfl⟩
  · cases r' with
    | some jv => simp at c3
    | none =>
      refine OpOK.same (y := if ok then .tuple #[zv, .bool false] else zv) ?_ hR ?_
      · simp [Instr.lookup, run_underlying_of hu, run_getMap h5, c1, c2, hzr]
      · cases ok
        · exact VRel.ofV G zv
        · simp only [if_true, VRel, VRels]; exact ⟨_, rfl, _, _, rfl, VRel.ofV G zv, _, _, rfl, rfl, rfl⟩

theorem put_map (hR : Rel P G st w) {a b : Nat} {es' : List MEnt} {rs rs' : Array MapEntry} {c c' : Nat} (hmu : G.mu a = some b) (hb : w.heap[b]? = some (.map rs c)) (hE : EntsRel G es' rs'.toList) :
    Rel P G (st.set a (.map es' c')) (w.putObj b (.map rs' c')) :=
  hR.put_obj _ _ hmu (by intro l s e; cases e) ⟨b, rs', hmu, World.putObj_heap_same (Array.getElem?_eq_some_iff.1 hb).1, hE⟩ (fun rec e => by rw [hb] at e; cases e) (fun d e => by rw [hb] at e; cases e)

theorem run_setMap {b : Nat} {rs rs' : Array MapEntry} {c c' : Nat} (h : w.heap[b]? = some (.map rs c)) : (setObj b (.map rs' c')).run P w = .ok () (w.putObj b (.map rs' c')) := by simp [setObj, Sem.run, h, World.putObj]

theorem keyStays {old new : Value} (h : Instr.sameBits 10000 old new = true) (w : World) : (Instr.keyThatStays old new).run P w = .ok new w := by
  unfold Instr.keyThatStays; rw [if_pos h]; rfl

theorem modify_set {α : Type} (rs : Array α) (i : Nat) (r : α) (f : α → α) (h : rs.toList[i]? = some r) : (rs.modify i f).toList = rs.toList.set i (f r) := by
  apply List.ext_getElem?
  intro j
  rw [Array.getElem?_toList, Array.getElem?_modify, List.getElem?_set]
  by_cases hj : i = j
  · subst hj
    have hlt : i < rs.toList.length := (List.getElem?_eq_some_iff.1 h).1
    have h' : rs[i]? = some r := by simpa using h
    rw [if_pos rfl, if_pos rfl, if_pos hlt, h']; rfl
  · rw [if_neg hj, if_neg hj, Array.getElem?_toList]

theorem ok_mapset {t kt e : TypeId} {m k x : AV} {vm vk vx kv : Value} {a clock : Nat} {es : List MEnt} {o : Option Nat} {st' : St} (hu : P.underlying t = some (.map kt e))
    (hR : Rel P G st w) (rm : VRel G m vm) (rk : VRel G k vk) (rx : VRel G x vx) (hm : mapOf st m = some (a, es, clock)) (hk : k.toV = some kv) (hf : findK P false kt kv es = some o)
    (hr : (∃ i en, o = some i ∧ es[i]? = some en ∧ Instr.sameBits 10000 en.key kv = true ∧ st' = st.set a (.map (es.set i { en with key := kv, val := x }) clock)) ∨ (o = none ∧ st' = st.set a (.map (es ++ [⟨kv, x, clock⟩]) (clock + 1)))) :
    OpOK P G st' .junk w (do Instr.mapUpdate t vm vk vx; pure Next.skip) := by
  obtain ⟨b, rs, e1, rfl, h3, h4, h5, h6⟩ := mapOf_rel hR rm hm
  have := toV_rel hk rk; subst this
  obtain ⟨c1', r', c2, c3, c4⟩ := findK_rel h6 hf
  rcases hr with ⟨i, en, rfl, hen, hsb, rfl⟩ | ⟨rfl, rfl⟩
  · cases r' with
    | none => simp at c3
    | some jv =>
      obtain ⟨j, v⟩ := jv
      simp at c3; subst c3
      obtain ⟨ent, g1, rfl⟩ := c4 j v rfl
      obtain ⟨r2, g2, g4, g5, g3⟩ := h6.get j en hen
      rw [g1] at g2; cases g2
      have g1' : rs[j]? = some ent := by simpa using g1
      refine OpOK.unit ?_ (.refl _) (put_map hR (rs' := rs.modify j fun e => { e with key := vk, val := vx }) h3 h5 ?_)
      · simp [Instr.mapUpdate, run_underlying_of hu, run_getMap h5, c1', c2, g1', keyStays (by rw [g4]; exact hsb : Instr.sameBits 10000 ent.key vk = true), run_setMap h5]
      · rw [modify_set rs j ent _ g1]
        exact h6.set j rfl g5 rx
  · cases r' with
    | some jv => simp at c3
    | none =>
      refine OpOK.unit ?_ (.refl _) (put_map hR (rs' := rs.push { key := vk, val := vx, born := clock }) h3 h5 ?_)
      · simp [Instr.mapUpdate, run_underlying_of hu, run_getMap h5, c1', c2, run_setMap h5]
      · rw [Array.toList_push]; exact h6.append rfl rfl rx

theorem ok_mapentry {t kt e : TypeId} {zv : Value} {m k r : AV} {vm vk kv : Value} {a clock : Nat} {es : List MEnt} {o : Option Nat} {st' : St} (hu : P.underlying t = some (.map kt e)) (hz : (P.info? e).bind (·.zero) = some zv)
    (hR : Rel P G st w) (rm : VRel G m vm) (rk : VRel G k vk) (hm : mapOf st m = some (a, es, clock)) (hk : k.toV = some kv) (hf : findK P false kt kv es = some o)
    (hr : (∃ i en, o = some i ∧ es[i]? = some en ∧ Instr.sameBits 10000 en.key kv = true ∧ r = .tup [en.val, .int en.born] ∧ st' = st.set a (.map (es.set i { en with key := kv }) clock)) ∨
      (o = none ∧ r = .tup [ofV zv, .int clock] ∧ st' = st.set a (.map (es ++ [⟨kv, ofV zv, clock⟩]) (clock + 1)))) :
    OpOK P G st' r w (do pure (Next.value (← Instr.mapEntry t vm vk))) := by
  obtain ⟨b, rs, e1, rfl, h3, h4, h5, h6⟩ := mapOf_rel hR rm hm
  have := toV_rel hk rk; subst this
  obtain ⟨c1', r', c2, c3, c4⟩ := findK_rel h6 hf
  have hzr : ∀ w, (zeroValue e).run P w = .ok zv w := fun w => by
    rw [Option.bind_eq_some_iff] at hz; obtain ⟨i, g1, g2⟩ := hz
    simp [zeroValue, typeInfo, g1, g2]
  rcases hr with ⟨i, en, rfl, hen, hsb, rfl, rfl⟩ | ⟨rfl, rfl, rfl⟩
  · cases r' with
    | none => simp at c3
    | some jv =>
      obtain ⟨j, v⟩ := jv
      simp at c3; subst c3
      obtain ⟨ent, g1, rfl⟩ := c4 j v rfl
      obtain ⟨r2, g2, g4, g5, g3⟩ := h6.get j en hen
      rw [g1] at g2; cases g2
      have g1' : rs[j]? = some ent := by simpa using g1
      refine OpOK.val (y := .tuple #[ent.val, goInt ent.born]) ?_ (.refl _) (put_map hR (rs' := rs.modify j fun e => { e with key := vk }) h3 h5 ?_) ?_
      · simp [Instr.mapEntry, run_underlying_of hu, run_getMap h5, c1', c2, g1', keyStays (by rw [g4]; exact hsb : Instr.sameBits 10000 ent.key vk = true), run_setMap h5]
      · rw [modify_set rs j ent _ g1]
        exact h6.set j rfl g5 g3
      · simp only [VRel, VRels]; exact ⟨_, rfl, _, _, rfl, g3, _, _, rfl, by rw [g5]; rfl, rfl⟩
  · cases r' with
    | some jv => simp at c3
    | none =>
      refine OpOK.val (y := .tuple #[zv, goInt clock]) ?_ (.refl _) (put_map hR (rs' := rs.push { key := vk, val := zv, born := clock }) h3 h5 ?_) ?_
      · simp [Instr.mapEntry, run_underlying_of hu, run_getMap h5, c1', c2, hzr, run_setMap h5]
      · rw [Array.toList_push]; exact h6.append rfl rfl (VRel.ofV G zv)
      · simp only [VRel, VRels]; exact ⟨_, rfl, _, _, rfl, VRel.ofV G zv, _, _, rfl, rfl, rfl⟩

theorem ok_entrystore {t : TypeId} {m s x : AV} {vm vs vx : Value} {a clock i : Nat} {es : List MEnt} {en : MEnt} {b : Int}
    (hR : Rel P G st w) (rm : VRel G m vm) (rs : VRel G s vs) (rx : VRel G x vx) (hm : mapOf st m = some (a, es, clock)) (hs : intOf? s = some b) (hf : es.findIdx? (fun e => (e.born : Int) == b) = some i) (hen : es[i]? = some en) :
    OpOK P G (st.set a (.map (es.set i { en with val := x }) clock)) .junk w (do Instr.entryStore t vm vs vx; pure Next.skip) := by
  obtain ⟨bb, rs', e1, rfl, h3, h4, h5, h6⟩ := mapOf_rel hR rm hm
  obtain ⟨k, rfl⟩ := intOf_rel hs rs
  obtain ⟨ent, g1, g4, g5, g3⟩ := h6.get i en hen
  have hfi : rs'.findIdx? (fun e => (e.born : Int) == b) = some i := by
    have := h6.find b
    rw [hf] at this
    rw [← List.findIdx?_toArray] at this
    exact this
  refine OpOK.unit ?_ (.refl _) (put_map hR (rs' := rs'.modify i fun e => { e with val := vx }) h3 h5 ?_)
  · simp [Instr.entryStore, run_getMap h5, asInt, asIntOf, hfi, run_setMap h5]
  · rw [modify_set rs' i ent _ g1]
    exact h6.set i g4 g5 rx

theorem ok_mkmap {t : TypeId} (hR : Rel P G st w) : OpOK P G (st.alloc (.map [] 0)) (.map st.next) w (do pure (Next.value (← Instr.makeMap t none))) := by
  obtain ⟨G', h1, h2, h3, _⟩ := hR.alloc_obj (.map [] 0) (.map #[] 0) (by intro l s e; cases e) (fun G' hle hmu => ⟨_, #[], hmu, World.alloc_heap_new _ _, rfl⟩)
  refine OpOK.val (y := .map (some w.heap.size)) ?_ h1 h2 (by simp [VRel, h3])
  simp [Instr.makeMap]

theorem ok_copy {argTypes : Array TypeId} {ty t e : TypeId} {args : Array Value} {sz : Nat} {y : AV} {vx vy : Value} {a off len cap k : Nat} {ys cs : List AV}
    (h1 : argTypes[0]? = some t) (h3 : args[0]? = some vx) (h4 : args[1]? = some vy) (hu : P.underlying t = some (.slice e)) (hs : tsize P e = some sz) (hR : Rel P G st w) (rx : VRel G (.ms a off len cap) vx) (ry : VRel G y vy)
    (hsrc : srcCells st sz y = some (ys, k)) (hcs : st.get a = some (.cells cs)) (hc : ys.all AV.one = true ∧ off + len * sz ≤ cs.length ∧ ys.length = k * sz) :
    OpOK P G (st.set a (.cells (splice cs off (ys.take (Nat.min k len * sz))))) (.int (Nat.min k len)) w (do pure (Next.value (← Builtin.copy_ argTypes ty args))) := by
  obtain ⟨us, ru, hus⟩ := src_rel hR ry hsrc
  simp only [VRel] at rx; obtain ⟨bb, hm, rfl⟩ := rx
  obtain ⟨b', vs, te, h5, h6, h7⟩ := hR.obj _ _ _ hcs hm
  rw [hm] at h5; cases h5
  have hl7 := h7.length
  have hlu := ru.length
  obtain ⟨c1, c2, c3⟩ := hc
  have hn := (hus w rfl).2 (Nat.min k len) (Nat.min_le_left _ _) c3
  have rt : VRels G (ys.take (Nat.min k len * sz)) (us.extract 0 (Nat.min k len * sz)).toList := by
    have := extract_list us 0 (Nat.min k len * sz)
    rw [Nat.zero_add, List.drop_zero] at this
    rw [this]; exact ru.take _
  have hfit : off + 0 + (us.extract 0 (Nat.min k len * sz)).toList.length ≤ vs.size := by
    rw [← rt.length]
    have h8 : Nat.min k len * sz ≤ len * sz := Nat.mul_le_mul_right _ (Nat.min_le_right _ _)
    simp only [List.length_take]
    simp at hl7
    omega
  have hone : (ys.take (Nat.min k len * sz)).all AV.one = true := by
    rw [List.all_eq_true] at c1 ⊢
    exact fun x hx => c1 x (List.mem_of_mem_take hx)
  refine OpOK.val (y := goInt (Nat.min k len : Nat)) ?_ (.refl _) (put_cells hR off hcs hm h6 h7 rt) (by simp [VRel, goInt])
  have hrun := run_storeCells (P := P) _ 0 w bb off vs te h6 (ones_rel hone rt) hfit
  simp only [Builtin.copy_, h1, h3, h4, Sem.run_bind, run_underlying_of hu, Result.andThen_ok, (hus w rfl).1, run_sizeOf_of hs, hn, hrun, Sem.run_pure]
  rfl

theorem ok_mnmx {argTypes : Array TypeId} {ty : TypeId} {mx : Bool} {xs : List AV} {args : Array Value} {vs : List Value} {r : Value} (hR : Rel P G st w) (hx : VRels G xs args.toList) (hv : toVs xs = some vs)
    (h : evSem P (if mx then Builtin.max_ #[] 0 vs.toArray else Builtin.min_ #[] 0 vs.toArray) = some r) :
    OpOK P G st (.v r) w (do pure (Next.value (← (if mx then Builtin.max_ argTypes ty args else Builtin.min_ argTypes ty args)))) := by
  have := toVs_rel hv hx
  have e : args = vs.toArray := by apply Array.ext'; simpa using this
  subst e
  exact OpOK.same (by cases mx <;> exact evSem_run _ h w) hR (by simp [VRel])
end
end Go.EF
