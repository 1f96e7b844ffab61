/- Definitions of the framework: abstract values, states, resolved code, the relation to the machine. No conditions. -/
import Derived.RangeFuncLeaves
import Derived.RangeFuncRecord
import Derived.Below
import Derived.Laws.Sem
set_option linter.unusedVariables false
set_option linter.unusedSimpArgs false

section
namespace Go.EF
open Go Go.RowKit

/-- What is known of the room behind a list: nothing; none; the room of a live growing row. -/
inductive Own where
  | any
  | exact
  | tok (a : Nat)
  deriving Inhabited

inductive AV where
  | junk
  | v (x : Value)
  | ptr (a off : Nat)
  | lptr (cells : List AV) (off : Nat)
  | list (own : Own) (cells : List AV) (n : Nat)
  | ms (a off len cap : Nat)
  | mx (a len : Nat)
  | map (a : Nat)
  | fn (f : Nat) (first captured : List AV)
  | yld (l : Nat)
  | agg (cells : List AV)
  | tup (vs : List AV)
  deriving Inhabited

abbrev AV.int (n : Int) : AV := .v (.int .i64 n)
abbrev AV.bool (b : Bool) : AV := .v (.bool b)
abbrev AV.str (s : ByteArray) : AV := .v (.string s)

def AV.cells : AV → List AV
  | .agg cs => cs
  | x => [x]

/-- One cell of a memory (no struct, no tuple). -/
def AV.one : AV → Bool
  | .agg _ | .tup _ | .junk => false
  | .v x => x.oneCell'
  | _ => true

/-- The abstract value of a closed value (a constant, a zero value). -/
def ofV : Value → AV
  | .slice none 0 0 => .list .exact [] 0
  | .agg cs => .agg (cs.toList.map fun | .slice none 0 0 => .list .exact [] 0 | x => .v x)
  | x => .v x

inductive Opd where
  | tmp (t : Nat)
  | const (x : AV)

inductive LK where
  | str
  | sl
  | mp

inductive COp where
  | mov (x : Opd)
  | pick (c a b : Opd)
  | alloc (zero : List AV)
  | box (x : Opd)
  | build (zero : List AV) (parts : List (Nat × Nat × Opd))
  | lit (zero : List AV) (n : Nat) (parts : List (Nat × Nat × Opd))
  | load (agg : Bool) (sz : Nat) (a : Opd)
  | store (sz : Nat) (a x : Opd)
  | nilchk (x : Opd)
  | bin (op : BinOp) (t : TypeId) (x y : Opd)
  | un (op : UnOp) (x : Opd)
  | conv (k : IntKind) (x : Opd)
  | mkfn (f : Nat) (first captured : List Opd)
  | mkmap
  | mkslice (zero : List AV) (sz bytes : Nat) (len cap : Opd)
  | slicearr (n sz : Nat) (x : Opd) (lo hi : Option Opd)
  | slice (sz : Nat) (x : Opd) (lo hi mx : Option Opd)
  | slicestr (x : Opd) (lo hi : Option Opd)
  | faddr (off : Nat) (x : Opd)
  | field (agg : Bool) (off sz : Nat) (x : Opd)
  | iaddr (sz : Nat) (x i : Opd)
  | iaddrarr (n sz : Nat) (x i : Opd)
  | index (agg : Bool) (n sz : Nat) (x i : Opd)
  | indexstr (x i : Opd)
  | lookup (keyT : TypeId) (zero : AV) (commaOk : Bool) (m k : Opd)
  | mapset (keyT : TypeId) (m k x : Opd)
  | mapentry (keyT : TypeId) (zero : AV) (m k : Opd)
  | entrystore (m s x : Opd)
  | extract (x : Opd) (i : Nat)
  | len (k : LK) (x : Opd)
  | append (sz bytes : Nat) (zero : List AV) (x y : Opd)
  | copy (sz : Nat) (x y : Opd)
  | mnmx (max : Bool) (xs : List Opd)
  | srange (x : Opd)
  | snext (x : Opd)
  | call (f : Nat) (args : List Opd)
  | callv (f : Opd) (args : List Opd)

structure GOp where
  dst : Option Nat
  guard : Option (Nat × Bool)
  op : COp

inductive CC where
  | skip
  | ops (l : List GOp)
  | draw (l : List GOp) (before : List (List Nat))
  | seq (a b : CC)
  | cond (c : Opd) (a b : CC)
  | block (id : Nat) (c : CC)
  | loop (c : CC)
  | rangef (f : Opd) (ps : List Nat) (assign body : Code)
  | exit (id : Nat)
  | ret

inductive Jmp where
  | normal
  | ret
  | exit (id : Nat)
  deriving DecidableEq

structure MEnt where
  key : Value
  val : AV
  born : Nat

inductive AObj where
  | cells (cs : List AV)
  | vec (cs : List AV)
  | arr (live : Bool) (sz : Nat)
  | map (es : List MEnt) (clock : Nat)
  | sit (s : ByteArray) (pos : Nat)
  | loop (state : LoopState) (pending : Option Jmp) (fr : Nat → AV) (N : Nat) (ps : List Nat) (assign body : Code)

structure St where
  objs : List AObj

namespace St
def next (s : St) : Nat := s.objs.length
def get (s : St) (a : Nat) : Option AObj := s.objs[a]?
def alloc (s : St) (o : AObj) : St := ⟨s.objs ++ [o]⟩
def set (s : St) (a : Nat) (o : AObj) : St := ⟨s.objs.set a o⟩
end St

/-- A world that is looked back at, and which of its blocks stay as they are. -/
structure WB where
  w : World
  kp : Nat → Prop
  lt : ∀ k, kp k → k < w.heap.size

/-- What has come of a world: the outside is as it was, and so are the blocks that stay. -/
structure BelowK (W : WB) (w' : World) : Prop where
  os : w'.os = W.w.os
  tape : w'.tape = W.w.tape
  output : w'.output = W.w.output
  size : W.w.heap.size ≤ w'.heap.size
  block : ∀ k, W.kp k → w'.heap[k]? = W.w.heap[k]?

theorem BelowK.step {W : WB} {a c : World} (h : BelowK W a) (h1 : c.os = a.os) (h2 : c.tape = a.tape) (h3 : c.output = a.output) (h4 : a.heap.size ≤ c.heap.size) (h5 : ∀ k, W.kp k → c.heap[k]? = a.heap[k]?) : BelowK W c :=
  ⟨h1.trans h.os, h2.trans h.tape, h3.trans h.output, Nat.le_trans h.size h4, fun k hk => (h5 k hk).trans (h.block k hk)⟩
theorem BelowK.fresh {W : WB} {a : World} (h : BelowK W a) {b : Nat} (hb : a.heap.size ≤ b) : ¬ W.kp b := fun k => by have := W.lt b k; have := h.size; omega
theorem BelowK.alloc {W : WB} {a : World} (h : BelowK W a) (o : Obj) : BelowK W (a.alloc o) :=
  h.step rfl rfl rfl (by simp) fun k hk => Below.heap_alloc a o k (by have := W.lt k hk; have := h.size; omega)

/-- The ghost: where the objects lie; which cells are frozen, and what they hold; where growing rows lie (block, length, room); the blocks of deferred calls; the blocks of loops. -/
structure Gh where
  w0 : WB
  nx : Nat
  mu : Nat → Option Nat
  fz : Nat → Nat → Option Value
  arr : Nat → Option (Nat × Nat × Nat)
  dfr : List Nat
  lps : List Nat

def FzAt (G : Gh) (b o : Nat) (ys : List Value) : Prop := ∀ i y, ys[i]? = some y → G.fz b (o + i) = some y

def OwnRel (G : Gh) (base : Option Addr) (n cap : Nat) : Own → Prop
  | .any => True
  | .exact => cap = n
  | .tok a => ∃ b, G.arr a = some (b, n, cap) ∧ base = some ⟨b, 0, none⟩

mutual
def VRel (G : Gh) : AV → Value → Prop
  | .junk, _ => True
  | .v x, y => y = x
  | .ptr a off, y => ∃ b, G.mu a = some b ∧ y = .pointer (some ⟨b, off, none⟩)
  | .lptr cs off, y => ∃ b o ys, y = .pointer (some ⟨b, o + off, none⟩) ∧ FzAt G b o ys ∧ VRels G cs ys
  | .list own cs n, y => ∃ base cap, y = .slice base n cap ∧ n ≤ cap ∧ OwnRel G base n cap own ∧
      ∃ ys, VRels G cs ys ∧ (ys ≠ [] → ∃ b o, base = some ⟨b, o, none⟩ ∧ FzAt G b o ys)
  | .ms a off len cap, y => ∃ b, G.mu a = some b ∧ y = .slice (some ⟨b, off, none⟩) len cap
  | .mx a len, y => ∃ b cap, G.mu a = some b ∧ y = .slice (some ⟨b, 0, none⟩) len cap
  | .map a, y => ∃ b, G.mu a = some b ∧ y = .map (some b)
  | .fn f first cap, y => ∃ fa ca, y = .func (.func f) fa ca ∧ VRels G first fa.toList ∧ VRels G cap ca.toList
  | .yld l, y => ∃ b, G.mu l = some b ∧ y = .func (.yield b) #[] #[]
  | .agg cs, y => ∃ ys, y = .agg ys ∧ VRels G cs ys.toList
  | .tup cs, y => ∃ ys, y = .tuple ys ∧ VRels G cs ys.toList
def VRels (G : Gh) : List AV → List Value → Prop
  | [], ys => ys = []
  | x :: xs, ys => ∃ y ys', ys = y :: ys' ∧ VRel G x y ∧ VRels G xs ys'
end

structure Gh.le (G G' : Gh) : Prop where
  w0 : G'.w0 = G.w0
  nx : G.nx ≤ G'.nx
  old : ∀ a, a < G.nx → G'.mu a = G.mu a
  mu : ∀ a b, G.mu a = some b → G'.mu a = some b
  fz : ∀ b o y, G.fz b o = some y → G'.fz b o = some y
  arr : ∀ a x, G.arr a = some x → G'.arr a = some x
  dfr : ∀ r, r ∈ G.dfr → r ∈ G'.dfr
  lps : ∀ r, r ∈ G.lps → r ∈ G'.lps

theorem Gh.le.refl (G : Gh) : G.le G := ⟨rfl, Nat.le_refl _, fun _ _ => rfl, fun _ _ h => h, fun _ _ _ h => h, fun _ _ h => h, fun _ h => h, fun _ h => h⟩
theorem Gh.le.trans {A B C : Gh} (h : A.le B) (k : B.le C) : A.le C :=
  ⟨k.w0.trans h.w0, Nat.le_trans h.nx k.nx, fun a ha => (k.old a (Nat.lt_of_lt_of_le ha h.nx)).trans (h.old a ha), fun a b x => k.mu a b (h.mu a b x), fun a b c x => k.fz a b c (h.fz a b c x), fun a b x => k.arr a b (h.arr a b x), fun a x => k.dfr a (h.dfr a x), fun a x => k.lps a (h.lps a x)⟩

structure Gh.sub (G G' : Gh) : Prop where
  mu : ∀ a b, G.mu a = some b → G'.mu a = some b
  fz : ∀ b o y, G.fz b o = some y → G'.fz b o = some y
  arr : ∀ a x, G.arr a = some x → G'.arr a = some x

theorem Gh.le.sub {G G' : Gh} (h : G.le G') : G.sub G' := ⟨h.mu, h.fz, h.arr⟩

theorem FzAt.mono' {G G' : Gh} (h : G.sub G') {b o : Nat} {ys : List Value} (f : FzAt G b o ys) : FzAt G' b o ys := fun i y e => h.fz _ _ _ (f i y e)

theorem OwnRel.mono' {G G' : Gh} (h : G.sub G') {base : Option Addr} {n cap : Nat} {o : Own} (f : OwnRel G base n cap o) : OwnRel G' base n cap o := by
  cases o with
  | any => trivial
  | exact => exact f
  | tok a => obtain ⟨b, h1, h2⟩ := f; exact ⟨b, h.arr _ _ h1, h2⟩

mutual
theorem VRel.mono' {G G' : Gh} (h : G.sub G') : ∀ (x : AV) (y : Value), VRel G x y → VRel G' x y
  | .junk, _, _ => by simp [VRel]
  | .v x, y, f => by simpa [VRel] using f
  | .ptr a off, y, f => by
    simp only [VRel] at f ⊢; obtain ⟨b, h1, h2⟩ := f; exact ⟨b, h.mu _ _ h1, h2⟩
  | .lptr cs off, y, f => by
    simp only [VRel] at f ⊢; obtain ⟨b, o, ys, h1, h2, h3⟩ := f; exact ⟨b, o, ys, h1, h2.mono' h, VRels.mono' h cs ys h3⟩
  | .list own cs n, y, f => by
    simp only [VRel] at f ⊢; obtain ⟨base, cap, h1, h2, h3, ys, h4, h5⟩ := f
    exact ⟨base, cap, h1, h2, h3.mono' h, ys, VRels.mono' h cs ys h4, fun e => let ⟨b, o, e1, e2⟩ := h5 e; ⟨b, o, e1, e2.mono' h⟩⟩
  | .ms a off len cap, y, f => by
    simp only [VRel] at f ⊢; obtain ⟨b, h1, h2⟩ := f; exact ⟨b, h.mu _ _ h1, h2⟩
  | .mx a len, y, f => by
    simp only [VRel] at f ⊢; obtain ⟨b, c, h1, h2⟩ := f; exact ⟨b, c, h.mu _ _ h1, h2⟩
  | .map a, y, f => by
    simp only [VRel] at f ⊢; obtain ⟨b, h1, h2⟩ := f; exact ⟨b, h.mu _ _ h1, h2⟩
  | .fn f first cap, y, g => by
    simp only [VRel] at g ⊢; obtain ⟨fa, ca, h1, h2, h3⟩ := g
    exact ⟨fa, ca, h1, VRels.mono' h first _ h2, VRels.mono' h cap _ h3⟩
  | .yld l, y, f => by
    simp only [VRel] at f ⊢; obtain ⟨b, h1, h2⟩ := f; exact ⟨b, h.mu _ _ h1, h2⟩
  | .agg cs, y, f => by
    simp only [VRel] at f ⊢; obtain ⟨ys, h1, h2⟩ := f; exact ⟨ys, h1, VRels.mono' h cs _ h2⟩
  | .tup cs, y, f => by
    simp only [VRel] at f ⊢; obtain ⟨ys, h1, h2⟩ := f; exact ⟨ys, h1, VRels.mono' h cs _ h2⟩
theorem VRels.mono' {G G' : Gh} (h : G.sub G') : ∀ (xs : List AV) (ys : List Value), VRels G xs ys → VRels G' xs ys
  | [], ys, f => by simpa [VRels] using f
  | x :: xs, ys, f => by
    simp only [VRels] at f ⊢; obtain ⟨y, ys', h1, h2, h3⟩ := f
    exact ⟨y, ys', h1, VRel.mono' h x y h2, VRels.mono' h xs ys' h3⟩
end

theorem FzAt.mono {G G' : Gh} (h : G.le G') {b o : Nat} {ys : List Value} (f : FzAt G b o ys) : FzAt G' b o ys := f.mono' h.sub
theorem OwnRel.mono {G G' : Gh} (h : G.le G') {base : Option Addr} {n cap : Nat} {o : Own} (f : OwnRel G base n cap o) : OwnRel G' base n cap o := f.mono' h.sub
theorem VRel.mono {G G' : Gh} {x : AV} {y : Value} (f : VRel G x y) (h : G.le G') : VRel G' x y := VRel.mono' h.sub x y f
theorem VRels.mono {G G' : Gh} {xs : List AV} {ys : List Value} (f : VRels G xs ys) (h : G.le G') : VRels G' xs ys := VRels.mono' h.sub xs ys f

end Go.EF
end

section
namespace Go.EF
open Go Go.RowKit

/-- A computation that looks at no world. -/
def evSem {α : Type} (P : Program) : Sem α → Option α
  | .pure a => some a
  | .program k => evSem P (k P)
  | .mark _ k => evSem P k
  | _ => none

theorem evSem_run {α : Type} {P : Program} : ∀ (s : Sem α) {a : α}, evSem P s = some a → ∀ w, s.run P w = .ok a w
  | .pure a, b, h, w => by simp only [evSem, Option.some.injEq] at h; subst h; rfl
  | .program k, b, h, w => by simp only [evSem] at h; exact evSem_run (k P) h w
  | .mark m k, b, h, w => by simp only [evSem] at h; exact evSem_run k h w
  | .load .., _, h, _ => by simp [evSem] at h
  | .store .., _, h, _ => by simp [evSem] at h
  | .new .., _, h, _ => by simp [evSem] at h
  | .shape .., _, h, _ => by simp [evSem] at h
  | .freeze .., _, h, _ => by simp [evSem] at h
  | .frozen .., _, h, _ => by simp [evSem] at h
  | .getObj .., _, h, _ => by simp [evSem] at h
  | .setObj .., _, h, _ => by simp [evSem] at h
  | .choose .., _, h, _ => by simp [evSem] at h
  | .sys .., _, h, _ => by simp [evSem] at h
  | .halt .., _, h, _ => by simp [evSem] at h

def AV.toV1 : AV → Option Value
  | .v x => some x
  | _ => none
def toVs : List AV → Option (List Value)
  | [] => some []
  | x :: xs => match x.toV1, toVs xs with | some y, some ys => some (y :: ys) | _, _ => none
/-- The machine's value where it holds no place. -/
def AV.toV : AV → Option Value
  | .v x => some x
  | .agg cs => (toVs cs).map fun ys => .agg ys.toArray
  | _ => none

def opd : Operand → Option Opd
  | .tmp t => some (.tmp t)
  | .const x => some (.const (ofV x))
  | .func f => some (.const (.fn f [] []))
  | .global _ => none

def opds (xs : Array Operand) : Option (List Opd) := xs.toList.mapM opd

def Opd.ev (fr : Nat → AV) : Opd → AV
  | .tmp t => fr t
  | .const x => x

def upd (fr : Nat → AV) (d : Nat) (x : AV) : Nat → AV := fun i => if i = d then x else fr i
def updo (fr : Nat → AV) (d : Option Nat) (x : AV) : Nat → AV := match d with | some d => upd fr d x | none => fr

/-! ### Resolving -/
def tzero (P : Program) (t : TypeId) : Option (List AV) :=
  match P.info? t with
  | some i => match i.zero with
    | some z => if z.cells.size = i.size then some (ofV z).cells else none
    | none => none
  | none => none
def tsize (P : Program) (t : TypeId) : Option Nat := (P.info? t).map (·.size)
def tagg (P : Program) (t : TypeId) : Option Bool := (P.underlying t).map fun | .struct _ | .array _ _ => true | _ => false

def rep {α : Type} (z : List α) : Nat → List α
  | 0 => []
  | n + 1 => z ++ rep z n

def compParts (pl : Nat → Option (Nat × Nat)) : List (Nat × Operand) → Option (List (Nat × Nat × Opd))
  | [] => some []
  | (i, x) :: r => match pl i, opd x, compParts pl r with
    | some (off, sz), some o, some r => some ((off, sz, o) :: r)
    | _, _, _ => none

def optOpd : Option Operand → Option (Option Opd)
  | none => some none
  | some x => (opd x).map some

def isStrT : Option TypeDesc → Bool
  | some .string => true
  | _ => false
theorem isStrT_spec {t : Option TypeDesc} (h : isStrT t = true) : t = some .string := by
  unfold isStrT at h; split at h
  · rfl
  · cases h

def compOp (P : Program) (o : Oper) : Option COp :=
  match o.op with
  | .move x => (opd x).map .mov
  | .assign x => (opd x).map .mov
  | .pick c a b => match opd c, opd a, opd b with | some c, some a, some b => some (.pick c a b) | _, _, _ => none
  | .alloc t => (tzero P t).map .alloc
  | .box _ x => (opd x).map .box
  | .build t parts => match P.underlying t, tzero P t with
    | some (.struct fields), some z =>
      match fields.toList.mapM (fun f => (tsize P f.type).map fun s => (f.offset, s)) with
      | some places => (compParts (fun i => places[i]?) parts.toList).map (.build z)
      | none => none
    | some (.array _ e), some z => match tsize P e with
      | some s => (compParts (fun i => some (i * s, s)) parts.toList).map (.build z)
      | none => none
    | _, _ => none
  | .buildSlice t n parts => match P.underlying t with
    | some (.slice e) => match tsize P e, tzero P e with
      | some s, some z => if n * s ≤ 2 ^ 24 ∧ 0 < s then (compParts (fun i => some (i * s, s)) parts.toList).map (.lit (rep z n) n) else none
      | _, _ => none
    | _ => none
  | .load t a => match tagg P t, tsize P t, opd a with | some g, some s, some a => some (.load g s a) | _, _, _ => none
  | .store t a x => match tsize P t, opd a, opd x with | some s, some a, some x => some (.store s a x) | _, _, _ => none
  | .nilCheck x => (opd x).map .nilchk
  | .binOp op t x y _ => match opd x, opd y with | some x, some y => some (.bin op t x y) | _, _ => none
  | .unOp op _ x => (opd x).map (.un op)
  | .convert s d x => match P.underlying s, P.underlying d with | some _, some (.int k) => (opd x).map (.conv k) | _, _ => none
  | .makeFunc (.func f) first captured => match opds first, opds captured with | some a, some b => some (.mkfn f a b) | _, _ => none
  | .makeMap _ none => some .mkmap
  | .makeSlice t l c => match P.underlying t with
    | some (.slice e) => match P.info? e, tzero P e, opd l, opd c with
      | some i, some z, some l, some c => if 0 < i.bytes ∧ 0 < i.size then some (.mkslice z i.size i.bytes l c) else none
      | _, _, _, _ => none
    | _ => none
  | .slice t x lo hi mx => match P.underlying t with
    | some (.array n e) => match tsize P e, opd x, optOpd lo, optOpd hi, mx with
      | some s, some x, some lo, some hi, none => some (.slicearr n s x lo hi)
      | _, _, _, _, _ => none
    | some (.slice e) => match tsize P e, opd x, optOpd lo, optOpd hi, optOpd mx with
      | some s, some x, some lo, some hi, some mx => some (.slice s x lo hi mx)
      | _, _, _, _, _ => none
    | some .string => match opd x, optOpd lo, optOpd hi, mx with
      | some x, some lo, some hi, none => some (.slicestr x lo hi)
      | _, _, _, _ => none
    | _ => none
  | .fieldAddr s x f => match P.underlying s with
    | some (.struct fields) => match fields[f]? with
      | some fd => match tsize P fd.type, opd x with
        | some (_ + 1), some x => some (.faddr fd.offset x)
        | _, _ => none
      | none => none
    | _ => none
  | .field s x f => match P.underlying s with
    | some (.struct fields) => match fields[f]? with
      | some fd => match tagg P fd.type, tsize P fd.type, opd x with
        | some g, some n, some x => some (.field g fd.offset n x)
        | _, _, _ => none
      | none => none
    | _ => none
  | .indexAddr t x i => match P.underlying t with
    | some (.slice e) => match tsize P e, opd x, opd i with | some s, some x, some i => if 0 < s then some (.iaddr s x i) else none | _, _, _ => none
    | some (.array n e) => match tsize P e, opd x, opd i with | some s, some x, some i => some (.iaddrarr n s x i) | _, _, _ => none
    | _ => none
  | .index t x i => match P.underlying t with
    | some (.array n e) => match tagg P e, tsize P e, opd x, opd i with | some g, some s, some x, some i => some (.index g n s x i) | _, _, _, _ => none
    | some .string => match opd x, opd i with | some x, some i => some (.indexstr x i) | _, _ => none
    | _ => none
  | .lookup t m k ok => match P.underlying t with
    | some (.map kt e) => match (P.info? e).bind (·.zero), opd m, opd k with | some z, some m, some k => some (.lookup kt (ofV z) ok m k) | _, _, _ => none
    | _ => none
  | .mapUpdate t m k x => match P.underlying t with
    | some (.map kt _) => match opd m, opd k, opd x with | some m, some k, some x => some (.mapset kt m k x) | _, _, _ => none
    | _ => none
  | .mapEntry t m k => match P.underlying t with
    | some (.map kt e) => match (P.info? e).bind (·.zero), opd m, opd k with | some z, some m, some k => some (.mapentry kt (ofV z) m k) | _, _, _ => none
    | _ => none
  | .entryStore _ m s x => match opd m, opd s, opd x with | some m, some s, some x => some (.entrystore m s x) | _, _, _ => none
  | .extract x i => (opd x).map (.extract · i)
  | .range t x => if isStrT (P.underlying t) = true then (opd x).map .srange else none
  | .next x true => (opd x).map .snext
  | .call c => match c.callee with
    | .builtin .len => match c.argTypes[0]?, c.args[0]? with
      | some t, some x => match P.underlying t with
        | some (.array n _) => some (.mov (.const (.int n)))
        | some .string => (opd x).map (.len .str)
        | some (.slice _) => (opd x).map (.len .sl)
        | some (.map _ _) => (opd x).map (.len .mp)
        | _ => none
      | _, _ => none
    | .builtin .append => match c.argTypes[0]?, c.argTypes[1]?, c.args[0]?, c.args[1]? with
      | some t, some t', some x, some y => match P.underlying t, P.underlying t' with
        | some (.slice e), some (.slice _) | some (.slice e), some .string => match P.info? e, tzero P e, opd x, opd y with
          | some i, some z, some x, some y => if 0 < i.bytes ∧ 0 < i.size then some (.append i.size i.bytes z x y) else none
          | _, _, _, _ => none
        | _, _ => none
      | _, _, _, _ => none
    | .builtin .copy => match c.argTypes[0]?, c.args[0]?, c.args[1]? with
      | some t, some x, some y => match P.underlying t with
        | some (.slice e) => match tsize P e, opd x, opd y with
          | some s, some x, some y => some (.copy s x y)
          | _, _, _ => none
        | _ => none
      | _, _, _ => none
    | .builtin .max => (opds c.args).map (.mnmx true)
    | .builtin .min => (opds c.args).map (.mnmx false)
    | .value (.func f) => (opds c.args).map (.call f)
    | .value x => match opd x, opds c.args with | some x, some as => some (.callv x as) | _, _ => none
    | _ => none
  | _ => none

def dstOK (N : Nat) : Option Nat → Bool
  | some d => decide (d < N)
  | none => true

def compOper (P : Program) (N : Nat) (ops : Array Oper) (o : Oper) : Option GOp :=
  if dstOK N o.dst = true then
    match compOp P o with
    | some c => match o.guard with
      | none => some ⟨o.dst, none, c⟩
      | some (j, want) => match (ops[j]?).bind (·.dst) with
        | some d => some ⟨o.dst, some (d, want), c⟩
        | none => none
    | none => none
  else none

/-! ### Regions that draw their order -/
def Opd.slots : Opd → List Nat
  | .tmp t => [t]
  | .const _ => []
def oslots : Option Opd → List Nat
  | some o => o.slots
  | none => []
def COp.slots : COp → List Nat
  | .mov x | .srange x | .snext x | .box x | .nilchk x | .un _ x | .conv _ x | .faddr _ x | .field _ _ _ x | .extract x _ | .len _ x | .load _ _ x => x.slots
  | .pick c a b => c.slots ++ a.slots ++ b.slots
  | .alloc _ | .mkmap => []
  | .build _ ps | .lit _ _ ps => ps.flatMap fun p => p.2.2.slots
  | .store _ a x | .bin _ _ a x | .iaddr _ a x | .iaddrarr _ _ a x | .index _ _ _ a x | .indexstr a x | .lookup _ _ _ a x | .mapentry _ _ a x | .append _ _ _ a x | .copy _ a x | .mkslice _ _ _ a x => a.slots ++ x.slots
  | .mkfn _ a b => a.flatMap Opd.slots ++ b.flatMap Opd.slots
  | .slicearr _ _ x lo hi | .slicestr x lo hi => x.slots ++ oslots lo ++ oslots hi
  | .slice _ x lo hi mx => x.slots ++ oslots lo ++ oslots hi ++ oslots mx
  | .mapset _ a b c | .entrystore a b c => a.slots ++ b.slots ++ c.slots
  | .mnmx _ xs => xs.flatMap Opd.slots
  | .call _ xs => xs.flatMap Opd.slots
  | .callv f xs => f.slots ++ xs.flatMap Opd.slots

inductive Kd where
  | alloc
  | pure
  | read
  | eff
  deriving DecidableEq

def COp.kd : COp → Kd
  | .alloc _ => .alloc
  | .load .. | .lookup .. | .len .mp _ => .read
  | .srange _ | .snext _ | .box _ | .store .. | .mkmap | .mkslice .. | .mapset .. | .mapentry .. | .entrystore .. | .append .. | .copy .. | .call .. | .callv .. => .eff
  | _ => .pure

def GOp.slots (g : GOp) : List Nat := g.op.slots ++ (match g.guard with | some (d, _) => [d] | none => [])

def directs (o : Oper) : List Nat := (o.after.toList.filter (Region.binds .any)).map (·.on)
def ins (x : Nat) (l : List Nat) : List Nat := if l.contains x then l else x :: l
def befores (e : List (List Nat)) : List (List Nat) → List (List Nat)
  | [] => e
  | d :: r => befores (e ++ [(d ++ d.flatMap fun k => e.getD k []).foldr ins []]) r

def conflict (a b : GOp) : Bool :=
  (match a.dst with | some d => b.slots.contains d || b.dst == some d | none => false) ||
  (match b.dst with | some d => a.slots.contains d | none => false) ||
  (decide (a.op.kd = .eff) && decide (b.op.kd = .eff))

def drawOK (es : List (List Nat)) (l : List GOp) (bs : List (List Nat)) : Bool :=
  (List.range l.length).all fun i =>
    ((es.getD i []).all fun j => decide (j < i)) &&
    ((bs.getD i []).all fun j => (es.getD i []).contains j || (es.getD i []).any fun k => (bs.getD k []).contains j) &&
    (match l[i]? with
      | some g => (decide (g.op.kd ≠ .alloc) || (g.guard.isNone && g.dst.isSome)) && (List.range i).all fun j => match l[j]? with
        | some h => !conflict g h || (bs.getD i []).contains j
        | none => false
      | none => false)

def comp (P : Program) (N : Nat) : Code → Option CC
  | .skip => some .skip
  | .label _ => some .skip
  | .region _ ops draw => match ops.toList.mapM (compOper P N ops) with
    | some l =>
      if draw then
        let es := ops.toList.map directs
        let bs := befores [] es
        if P.follows .mixedOrders && drawOK es l bs then some (.draw l bs) else none
      else some (.ops l)
    | none => none
  | .seq a b => match comp P N a, comp P N b with | some a, some b => some (.seq a b) | _, _ => none
  | .cond c a b => match opd c, comp P N a, comp P N b with | some c, some a, some b => some (.cond c a b) | _, _, _ => none
  | .block id c => (comp P N c).map (.block id)
  | .loop c => (comp P N c).map .loop
  | .rangeFunc f ps a b => match opd f, comp P N a, comp P N b with
    | some f, some _, some _ => if ps.toList.all (· < N) then some (.rangef f ps.toList a b) else none
    | _, _, _ => none
  | .exit id => some (.exit id)
  | .scope c => comp P N c
  | .ret => some .ret
  | .goto _ => none
  | .refuse _ => none

/-! ### Operations -/
def splice {α : Type} (cs : List α) (off : Nat) (xs : List α) : List α := cs.take off ++ xs ++ cs.drop (off + xs.length)

def getCells (cs : List AV) (agg : Bool) (sz off : Nat) : Option AV :=
  if agg then (if 0 < sz ∧ off + sz ≤ cs.length then some (.agg ((cs.drop off).take sz)) else none) else cs[off]?

def AV.boxable (x : AV) : Bool := match x with | .agg _ => true | x => x.one

def fillA (ρ : Opd → AV) : List AV → List (Nat × Nat × Opd) → Option (List AV)
  | cs, [] => some cs
  | cs, (off, sz, o) :: r => if (ρ o).boxable ∧ (ρ o).cells.length = sz ∧ off + sz ≤ cs.length then fillA ρ (splice cs off (ρ o).cells) r else none

def loadS (st : St) (agg : Bool) (sz : Nat) : AV → Option AV
  | .ptr a off => match st.get a with | some (.cells cs) => getCells cs agg sz off | some (.vec cs) => getCells cs agg sz off | _ => none
  | .lptr cs off => getCells cs agg sz off
  | _ => none

def storeS (st : St) (sz : Nat) (p x : AV) : Option St :=
  match p with
  | .ptr a off => match st.get a with
    | some (.cells cs) => if x.boxable ∧ x.cells.all AV.one ∧ x.cells.length = sz ∧ off + sz ≤ cs.length then some (st.set a (.cells (splice cs off x.cells))) else none
    | some (.vec cs) => if x.boxable ∧ x.cells.all AV.one ∧ x.cells.length = sz ∧ off + sz ≤ cs.length then some (st.set a (.vec (splice cs off x.cells))) else none
    | _ => none
  | _ => none

def binV (P : Program) (op : BinOp) (t : TypeId) (x y : AV) : Option AV :=
  match x.toV, y.toV with
  | some .nilIface, _ => none
  | some a, some b => (evSem P (do eqGuard op t (.const (.nilIface)) (.const (.nilIface)) a b; binOp op t a b)).map .v
  | _, _ => none

def dents (es : List MEnt) : List MapEntry := es.map fun e => { key := e.key, val := undef, born := e.born }

/-- Where a key stands among a map's entries (none: the keys cannot be compared without a look at memory). -/
def findK (P : Program) (emp : Bool) (kt : TypeId) (k : Value) (es : List MEnt) : Option (Option Nat) :=
  evSem P (do Instr.checkKey emp 10000 kt k; let r ← Instr.findKey kt k (dents es); pure (r.map (·.1)))

def mapOf (st : St) (m : AV) : Option (Nat × List MEnt × Nat) :=
  match m with
  | .map a => match st.get a with | some (.map es clock) => some (a, es, clock) | _ => none
  | _ => none

def intOf? : AV → Option Int
  | .v (.int _ n) => some n
  | _ => none

/-- The cells of what is appended or copied, and how many elements. -/
def srcCells (st : St) (sz : Nat) : AV → Option (List AV × Nat)
  | .list _ cs n => if cs.length = n * sz then some (cs, n) else none
  | .ms a off len _ => match st.get a with
    | some (.cells cs) => if off + len * sz ≤ cs.length then some ((cs.drop off).take (len * sz), len) else none
    | _ => none
  | _ => none

def boundsOf (ρ : Opd → AV) (n cap : Nat) (lo hi mx : Option Opd) : Option (Nat × Nat × Nat) :=
  let m? : Option Nat := match mx with | none => some cap | some o => (match intOf? (ρ o) with | some i => if 0 ≤ i ∧ i ≤ cap then some i.toNat else none | none => none)
  match m? with
  | none => none
  | some m =>
    let h? : Option Nat := match hi, mx with
      | none, none => some n
      | none, some _ => none
      | some o, _ => match intOf? (ρ o) with | some i => if 0 ≤ i ∧ i ≤ m then some i.toNat else none | none => none
    match h? with
    | none => none
    | some h =>
      match lo with
      | none => some (0, h, m)
      | some o => match intOf? (ρ o) with | some i => if 0 ≤ i ∧ i ≤ h then some (i.toNat, h, m) else none | none => none

def evOp (P : Program) (ρ : Opd → AV) (st : St) : COp → Option (AV × St)
  | .mov x => some (ρ x, st)
  | .pick c a b => match ρ c with | .v (.bool true) => some (ρ a, st) | .v (.bool false) => some (ρ b, st) | _ => none
  | .alloc z => some (.ptr st.next 0, st.alloc (.cells z))
  | .box x => if (ρ x).boxable then some (.ptr st.next 0, st.alloc (.cells (ρ x).cells)) else none
  | .build z parts => match fillA ρ z parts with | some cs => some (.agg cs, st) | none => none
  | .lit z n parts => match fillA ρ z parts with | some cs => some (.list .exact cs n, st) | none => none
  | .load g s a => match loadS st g s (ρ a) with | some x => some (x, st) | none => none
  | .store s a x => match storeS st s (ρ a) (ρ x) with | some st' => some (.junk, st') | none => none
  | .nilchk x => match ρ x with | .ptr a o => some (.ptr a o, st) | .lptr cs o => some (.lptr cs o, st) | .fn f a b => some (.fn f a b, st) | .yld l => some (.yld l, st) | _ => none
  | .bin op t x y => match binV P op t (ρ x) (ρ y) with | some r => some (r, st) | none => none
  | .un op x => match (ρ x).toV with | some a => (match evSem P (Op.unary op a) with | some r => some (.v r, st) | none => none) | none => none
  | .conv k x => match ρ x with | .v (.int _ n) => some (.v (.int k (k.wrap n)), st) | _ => none
  | .mkfn f a b => some (.fn f (a.map ρ) (b.map ρ), st)
  | .mkmap => some (.map st.next, st.alloc (.map [] 0))
  | .mkslice z _ bytes l c => match intOf? (ρ l), intOf? (ρ c) with
    | some l, some c => if 0 ≤ l ∧ l ≤ c ∧ bytes * c ≤ 2 ^ 47 then some (.ms st.next 0 l.toNat c.toNat, st.alloc (.cells (rep z c.toNat))) else none
    | _, _ => none
  | .slicearr n s x lo hi => match boundsOf ρ n n lo hi none with
    | some (l, h, m) => match ρ x with
      | .ptr a off => some (.ms a (if m = l then off else off + l * s) (h - l) (m - l), st)
      | .lptr cs off => if off + n * s ≤ cs.length then some (.list .any ((cs.drop (off + l * s)).take ((h - l) * s)) (h - l), st) else none
      | _ => none
    | none => none
  | .slice s x lo hi mx => match ρ x with
    | .list own cs n => if cs.length = n * s then match boundsOf ρ n n lo hi mx with
      | some (l, h, m) => some (.list (if mx.isSome ∧ m = h then .exact else if mx.isNone ∧ l = 0 ∧ h = n then own else .any) ((cs.drop (l * s)).take ((h - l) * s)) (h - l), st)
      | none => none
      else none
    | .ms a off len cap => match boundsOf ρ len cap lo hi mx with
      | some (l, h, m) => some (.ms a (if m = l then off else off + l * s) (h - l) (m - l), st)
      | none => none
    | _ => none
  | .slicestr x lo hi => match ρ x with
    | .v (.string s) => match boundsOf ρ s.size s.size lo hi none with | some (l, h, _) => some (.v (.string (s.extract l h)), st) | none => none
    | _ => none
  | .faddr off x => match ρ x with | .ptr a o => some (.ptr a (o + off), st) | .lptr cs o => some (.lptr cs (o + off), st) | _ => none
  | .field g off s x => match ρ x with | .agg cs => (match getCells cs g s off with | some r => some (r, st) | none => none) | _ => none
  | .iaddr s x i => match intOf? (ρ i) with
    | some i => match ρ x with
      | .list _ cs n => if (0 ≤ i ∧ i < n) ∧ cs.length = n * s then some (.lptr cs (i.toNat * s), st) else none
      | .ms a off len _ => if 0 ≤ i ∧ i < len then some (.ptr a (off + i.toNat * s), st) else none
      | .mx a len => if 0 ≤ i ∧ i < len then some (.ptr a (0 + i.toNat * s), st) else none
      | _ => none
    | none => none
  | .iaddrarr n s x i => match intOf? (ρ i) with
    | some i => if 0 ≤ i ∧ i < n then match ρ x with
        | .ptr a off => some (.ptr a (off + i.toNat * s), st)
        | .lptr cs off => some (.lptr cs (off + i.toNat * s), st)
        | _ => none
      else none
    | none => none
  | .index g n s x i => match intOf? (ρ i), ρ x with
    | some i, .agg cs => if 0 ≤ i ∧ i < n then match getCells cs g s (i.toNat * s) with | some r => some (r, st) | none => none else none
    | _, _ => none
  | .indexstr x i => match intOf? (ρ i), ρ x with
    | some i, .v (.string b) => if 0 ≤ i then (match b[i.toNat]? with | some c => some (.v (.int .u8 c.toNat), st) | none => none) else none
    | _, _ => none
  | .lookup kt z ok m k => match mapOf st (ρ m), (ρ k).toV with
    | some (_, es, _), some kv => match findK P es.isEmpty kt kv es with
      | some (some i) => match es[i]? with | some e => some (if ok then .tup [e.val, .bool true] else e.val, st) | none => none
      | some none => some (if ok then .tup [z, .bool false] else z, st)
      | none => none
    | _, _ => none
  | .mapset kt m k x => match mapOf st (ρ m), (ρ k).toV with
    | some (a, es, clock), some kv => match findK P false kt kv es with
      | some (some i) => match es[i]? with
        | some e => if Instr.sameBits 10000 e.key kv then some (.junk, st.set a (.map (es.set i { e with key := kv, val := ρ x }) clock)) else none
        | none => none
      | some none => some (.junk, st.set a (.map (es ++ [⟨kv, ρ x, clock⟩]) (clock + 1)))
      | none => none
    | _, _ => none
  | .mapentry kt z m k => match mapOf st (ρ m), (ρ k).toV with
    | some (a, es, clock), some kv => match findK P false kt kv es with
      | some (some i) => match es[i]? with
        | some e => if Instr.sameBits 10000 e.key kv then some (.tup [e.val, .int e.born], st.set a (.map (es.set i { e with key := kv }) clock)) else none
        | none => none
      | some none => some (.tup [z, .int clock], st.set a (.map (es ++ [⟨kv, z, clock⟩]) (clock + 1)))
      | none => none
    | _, _ => none
  | .entrystore m s x => match mapOf st (ρ m), intOf? (ρ s) with
    | some (a, es, clock), some b => match es.findIdx? (fun e => (e.born : Int) == b) with
      | some i => match es[i]? with
        | some e => some (.junk, st.set a (.map (es.set i { e with val := ρ x }) clock))
        | none => none
      | none => none
    | _, _ => none
  | .extract x i => match ρ x with | .tup vs => (match vs[i]? with | some r => some (r, st) | none => none) | _ => none
  | .len .str x => match ρ x with | .v (.string s) => some (.int s.size, st) | _ => none
  | .len .sl x => match ρ x with
    | .list _ _ n => some (.int n, st)
    | .ms _ _ n _ => some (.int n, st)
    | .mx _ n => some (.int n, st)
    | _ => none
  | .len .mp x => match mapOf st (ρ x) with | some (_, es, _) => some (.int es.length, st) | none => none
  | .append sz bytes z x y => match srcCells st sz (ρ y) with
    | none => none
    | some (ys, k) =>
      if ys.all AV.one then
        match ρ x with
        | .list own cs n =>
          if k = 0 then some (.list own cs n, st)
          else if cs.length = n * sz ∧ (n + k) * bytes ≤ 2 ^ 44 ∧ z.length = sz then
            match own with
            | .exact => some (.list (.tok st.next) (cs ++ ys) (n + k), st.alloc (.arr true sz))
            | .tok a => match st.get a with
              | some (.arr true s') => if s' = sz then some (.list (.tok st.next) (cs ++ ys) (n + k), (st.set a (.arr false sz)).alloc (.arr true sz)) else none
              | _ => none
            | .any => none
          else none
        | .ms a off len cap => match st.get a with
          | some (.cells cs) =>
            if off + cap * sz ≤ cs.length ∧ len ≤ cap then
              if len + k ≤ cap then some (.ms a off (len + k) cap, st.set a (.cells (splice cs (off + len * sz) ys)))
              else if (len + k) * bytes ≤ 2 ^ 44 ∧ z.length = sz then some (.list (.tok st.next) ((cs.drop off).take (len * sz) ++ ys) (len + k), st.alloc (.arr true sz))
              else none
            else none
          | _ => none
        | _ => none
      else none
  | .copy sz x y => match srcCells st sz (ρ y), ρ x with
    | some (ys, k), .ms a off len _ => match st.get a with
      | some (.cells cs) =>
        let n := Nat.min k len
        if ys.all AV.one ∧ off + len * sz ≤ cs.length ∧ ys.length = k * sz then some (.int n, st.set a (.cells (splice cs off (ys.take (n * sz))))) else none
      | _ => none
    | _, _ => none
  | .mnmx mx xs => match toVs (xs.map ρ) with
    | some vs => match evSem P (if mx then Builtin.max_ #[] 0 vs.toArray else Builtin.min_ #[] 0 vs.toArray) with | some r => some (.v r, st) | none => none
    | none => none
  | .srange x => match ρ x with | .v (.string s) => some (.ptr st.next 0, st.alloc (.sit s 0)) | _ => none
  | .snext x => match ρ x with
    | .ptr a 0 => match st.get a with
      | some (.sit s pos) =>
        if pos < s.size then some (.tup [.bool true, .int pos, .v (.int .i32 (Utf8.decode s pos).1)], st.set a (.sit s (pos + (Utf8.decode s pos).2)))
        else some (.tup [.bool false], st)
      | _ => none
    | _ => none
  | .call _ _ => none
  | .callv _ _ => none

/-! ### The relation to the machine -/
def FrRel (G : Gh) (N : Nat) (fr : Nat → AV) (tmps : Array Value) : Prop :=
  tmps.size = N ∧ ∀ i, VRel G (fr i) (tmps.getD i undef)

def EntsRel (G : Gh) : List MEnt → List MapEntry → Prop
  | [], es => es = []
  | e :: es, rs => ∃ r rs', rs = r :: rs' ∧ r.key = e.key ∧ r.born = e.born ∧ VRel G e.val r.val ∧ EntsRel G es rs'

def Jmp.code : Jmp → Code
  | .normal => .skip
  | .ret => .ret
  | .exit id => .exit id

def ObjRel (_P : Program) (G : Gh) (w : World) (a : Nat) : AObj → Prop
  | .cells cs => ∃ b vs t, G.mu a = some b ∧ w.heap[b]? = some (.cells vs t (0, 0)) ∧ VRels G cs vs.toList
  | .vec cs => ∃ b vs t, G.mu a = some b ∧ w.heap[b]? = some (.cells vs t (0, 0)) ∧ cs.length ≤ vs.size ∧ VRels G cs (vs.toList.take cs.length)
  | .arr _ _ => True
  | .map es clock => ∃ b rs, G.mu a = some b ∧ w.heap[b]? = some (.map rs clock) ∧ EntsRel G es rs.toList
  | .sit s pos => ∃ b, G.mu a = some b ∧ w.heap[b]? = some (.stringIter s pos)
  | .loop state pending fr N ps asg body => ∃ b rec, G.mu a = some b ∧ w.heap[b]? = some (.loop rec) ∧ rec.state = state ∧ rec.pending = pending.map Jmp.code ∧
      rec.params.toList = ps ∧ rec.assign = asg ∧ rec.body = body ∧ FrRel G N fr rec.tmps ∧ ps.all (· < N) = true

structure Rel (P : Program) (G : Gh) (st : St) (w : World) : Prop where
  nxeq : G.nx = st.next
  below : BelowK G.w0 w
  dom : ∀ a b, G.mu a = some b → a < st.next
  adom : ∀ a x, G.arr a = some x → a < st.next
  inj : ∀ a a' b, G.mu a = some b → G.mu a' = some b → a = a'
  fresh : ∀ a b, G.mu a = some b → ¬ G.w0.kp b ∧ b < w.heap.size
  obj : ∀ a o b, st.get a = some o → G.mu a = some b → ObjRel P G w a o
  fzok : ∀ b o y, G.fz b o = some y → ∃ vs t fr, w.heap[b]? = some (.cells vs t fr) ∧ vs[o]? = some y
  fzmu : ∀ a b o, G.mu a = some b → G.fz b o = none
  arr : ∀ a sz, st.get a = some (.arr true sz) → ∃ b n cap vs t, G.arr a = some (b, n, cap) ∧ w.heap[b]? = some (.cells vs t (0, 0)) ∧ cap * sz ≤ vs.size ∧ n ≤ cap ∧
      ¬ G.w0.kp b ∧ (∀ o, n * sz ≤ o → G.fz b o = none) ∧ (∀ a', G.mu a' ≠ some b)
  arrinj : ∀ a a' s s' b n c n' c', st.get a = some (.arr true s) → st.get a' = some (.arr true s') → G.arr a = some (b, n, c) → G.arr a' = some (b, n', c') → a = a'
  dfr : ∀ r, r ∈ G.dfr → ¬ G.w0.kp r ∧ w.heap[r]? = some (.deferred (some []))
  lps : ∀ r, r ∈ G.lps → ¬ G.w0.kp r ∧ ∃ rec, w.heap[r]? = some (.loop rec)

end Go.EF
end

section
namespace Go.EF
open Go Go.RowKit

theorem add_none (b o n : Nat) : (⟨b, o, none⟩ : Addr).add n = ⟨b, o + n, none⟩ := by
  unfold Addr.add; split
  · subst n; rfl
  · rfl

def spliceA (cs : Array Value) (o : Nat) (vs : List Value) : Array Value := (splice cs.toList o vs).toArray

theorem splice_length {α : Type} {cs : List α} {o : Nat} {xs : List α} (h : o + xs.length ≤ cs.length) : (splice cs o xs).length = cs.length := by
  unfold splice; simp; omega

theorem splice_get {α : Type} {cs : List α} {o : Nat} {xs : List α} (h : o + xs.length ≤ cs.length) (i : Nat) :
    (splice cs o xs)[i]? = if i < o then cs[i]? else if i < o + xs.length then xs[i - o]? else cs[i]? := by
  unfold splice
  rw [List.append_assoc, List.getElem?_append]
  have hl : (cs.take o).length = o := by simp; omega
  rw [hl]
  by_cases h1 : i < o
  · rw [if_pos h1, if_pos h1, List.getElem?_take_of_lt h1]
  · rw [if_neg h1, if_neg h1, List.getElem?_append]
    by_cases h2 : i < o + xs.length
    · rw [if_pos h2, if_pos (by omega)]
    · rw [if_neg h2, if_neg (by omega), List.getElem?_drop]
      congr 1; omega

theorem splice_nil {α : Type} (cs : List α) (o : Nat) : splice cs o [] = cs := by unfold splice; simp

theorem splice_cons {α : Type} {cs : List α} {o : Nat} {x : α} {xs : List α} (h : o + (xs.length + 1) ≤ cs.length) : splice cs o (x :: xs) = splice (cs.set o x) (o + 1) xs := by
  apply List.ext_getElem?
  intro i
  rw [splice_get (by simpa using h), splice_get (by simp; omega)]
  simp only [List.length_cons, List.getElem?_set]
  by_cases h1 : i < o
  · rw [if_pos h1, if_pos (by omega), if_neg (by omega)]
  · by_cases h2 : i = o
    · subst h2
      rw [if_neg h1, if_pos (by omega), if_pos (by omega), if_pos rfl, if_pos (by omega)]; simp
    · rw [if_neg h1, if_neg (by omega : ¬ i < o + 1)]
      by_cases h3 : i < o + (xs.length + 1)
      · rw [if_pos h3, if_pos (by omega)]
        obtain ⟨k, hk⟩ : ∃ k, i - o = k + 1 := ⟨i - o - 1, by omega⟩
        rw [hk, List.getElem?_cons_succ]; congr 1; omega
      · rw [if_neg h3, if_neg (by omega), if_neg (by omega)]

theorem cell_of_block {w : World} {b o : Nat} {cs : Array Value} {t : TypeId} {fr : Nat × Nat} (h : w.heap[b]? = some (.cells cs t fr)) : w.cell? ⟨b, o, none⟩ = cs[o]? := by
  simp [World.cell?, h]

theorem frozen_of_block {w : World} {b o : Nat} {cs : Array Value} {t : TypeId} (h : w.heap[b]? = some (.cells cs t (0, 0))) : w.frozen? ⟨b, o, none⟩ = false := by
  simp [World.frozen?, h]

theorem setCell_put {w : World} {b o : Nat} {cs : Array Value} {t : TypeId} {v : Value} (h : w.heap[b]? = some (.cells cs t (0, 0))) :
    w.setCell ⟨b, o, none⟩ v = w.putObj b (.cells (cs.setIfInBounds o v) t (0, 0)) := by
  have hb : b < w.heap.size := (Array.getElem?_eq_some_iff.1 h).1
  unfold World.setCell World.putObj
  congr 1
  apply Array.ext_getElem?
  intro i
  rw [Array.getElem?_modify, Array.getElem?_setIfInBounds]
  by_cases hi : b = i
  · subst hi; rw [if_pos rfl, if_pos rfl, h, if_pos hb]; rfl
  · simp [hi]

theorem putObj_put {w : World} {b : Nat} {o o' : Obj} : (w.putObj b o).putObj b o' = w.putObj b o' := by
  unfold World.putObj; congr 1; simp

theorem putObj_self {w : World} {b : Nat} {o : Obj} (h : w.heap[b]? = some o) : w.putObj b o = w := by
  have : w.heap.setIfInBounds b o = w.heap := by
    apply Array.ext_getElem?
    intro i
    rw [Array.getElem?_setIfInBounds]
    by_cases hi : b = i
    · subst hi; rw [if_pos rfl, if_pos (Array.getElem?_eq_some_iff.1 h).1, h]
    · rw [if_neg hi]
  unfold World.putObj; rw [this]

theorem run_storeCells {P : Program} : ∀ (vs : List Value) (i : Nat) (w : World) (b o : Nat) (cs : Array Value) (t : TypeId), w.heap[b]? = some (.cells cs t (0, 0)) →
    (∀ v ∈ vs, v.oneCell' = true) → o + i + vs.length ≤ cs.size →
    (storeCells ⟨b, o, none⟩ vs i).run P w = .ok () (w.putObj b (.cells (spliceA cs (o + i) vs) t (0, 0)))
  | [], i, w, b, o, cs, t, h, _, _ => by
    unfold storeCells spliceA; rw [splice_nil]; simp only [Sem.run_pure, Array.toArray_toList]; rw [putObj_self h]
  | v :: vs, i, w, b, o, cs, t, h, h1, h2 => by
    have hb : b < w.heap.size := (Array.getElem?_eq_some_iff.1 h).1
    simp only [List.length_cons] at h2
    unfold storeCells
    rw [Sem.run_bind, add_none, run_store _ _ _ _ _ (h1 v (List.mem_cons_self ..)), cell_of_block h]
    have hlt : o + i < cs.size := by omega
    rw [Array.getElem?_eq_getElem hlt]
    simp only [frozen_of_block h, Bool.false_eq_true, if_false, Result.andThen_ok, setCell_put h]
    rw [run_storeCells vs (i + 1) _ b o (cs.setIfInBounds (o + i) v) t (World.putObj_heap_same hb) (fun x hx => h1 x (List.mem_cons_of_mem _ hx)) (by simp; omega), putObj_put]
    congr 3
    unfold spliceA
    rw [splice_cons (by simp; omega)]
    simp [Nat.add_assoc]

theorem run_loadCellsFrom {P : Program} : ∀ (n i : Nat) (acc : Array Value) (w : World) (b o : Nat) (cs : Array Value) (t : TypeId) (fr : Nat × Nat), w.heap[b]? = some (.cells cs t fr) →
    o + i + n ≤ cs.size → (loadCellsFrom ⟨b, o, none⟩ i n acc).run P w = .ok (acc ++ cs.extract (o + i) (o + i + n)) w
  | 0, i, acc, w, b, o, cs, t, fr, h, hn => by simp [loadCellsFrom]; omega
  | n + 1, i, acc, w, b, o, cs, t, fr, h, hn => by
    unfold loadCellsFrom
    have hlt : o + i < cs.size := by omega
    rw [Sem.run_bind, add_none, run_load, cell_of_block h, Array.getElem?_eq_getElem hlt]
    simp only [Result.andThen_ok]
    rw [run_loadCellsFrom n (i + 1) _ w b o cs t fr h (by omega)]
    congr 1
    apply Array.ext_getElem?
    intro k
    simp only [Array.getElem?_append, Array.size_push, Array.getElem?_push, Array.getElem?_extract]
    by_cases h1 : k < acc.size
    · rw [if_pos (by omega), if_neg (by omega), if_pos h1]
    · by_cases h2 : k = acc.size
      · subst h2; rw [if_pos (by omega), if_pos rfl, if_neg (by omega)]; simp only [Nat.sub_self, Nat.add_zero]; rw [if_pos (by omega), Array.getElem?_eq_getElem hlt]
      · rw [if_neg (by omega), if_neg h1]
        by_cases h3 : k - acc.size < n + 1
        · rw [if_pos (by omega), if_pos (by omega)]; congr 1; omega
        · rw [if_neg (by omega), if_neg (by omega)]

theorem run_loadCells {P : Program} {n : Nat} {w : World} {b o : Nat} {cs : Array Value} {t : TypeId} {fr : Nat × Nat} (h : w.heap[b]? = some (.cells cs t fr)) (hn : o + n ≤ cs.size) :
    (loadCells ⟨b, o, none⟩ n).run P w = .ok (cs.extract o (o + n)) w := by
  unfold loadCells; rw [run_loadCellsFrom n 0 #[] w b o cs t fr h (by omega)]; simp

/-! ### VRels, by places -/
theorem VRels.length {G : Gh} : ∀ {xs : List AV} {ys : List Value}, VRels G xs ys → xs.length = ys.length
  | [], ys, h => by simp only [VRels] at h; subst h; rfl
  | x :: xs, ys, h => by
    simp only [VRels] at h; obtain ⟨y, ys', rfl, _, h⟩ := h; simp [VRels.length h]

theorem VRels.get {G : Gh} : ∀ {xs : List AV} {ys : List Value}, VRels G xs ys → ∀ (i : Nat) (x : AV), xs[i]? = some x → ∃ y, ys[i]? = some y ∧ VRel G x y
  | [], ys, h, i, x, e => by simp at e
  | x :: xs, ys, h, i, z, e => by
    simp only [VRels] at h; obtain ⟨y, ys', rfl, hy, h⟩ := h
    cases i with
    | zero => simp at e; subst e; exact ⟨y, by simp, hy⟩
    | succ i => simp at e; obtain ⟨y', e', hy'⟩ := VRels.get h i z e; exact ⟨y', by simpa using e', hy'⟩

theorem VRels.of_get {G : Gh} : ∀ {xs : List AV} {ys : List Value}, xs.length = ys.length → (∀ (i : Nat) (x : AV) (y : Value), xs[i]? = some x → ys[i]? = some y → VRel G x y) → VRels G xs ys
  | [], ys, hl, _ => by simp only [VRels]; cases ys with | nil => rfl | cons => simp at hl
  | x :: xs, [], hl, _ => by simp at hl
  | x :: xs, y :: ys, hl, h => by
    simp only [VRels]
    exact ⟨y, ys, rfl, h 0 x y (by simp) (by simp), VRels.of_get (by simpa using hl) fun i a b ha hb => h (i + 1) a b (by simpa using ha) (by simpa using hb)⟩

theorem VRels.rel {G : Gh} {xs : List AV} {ys : List Value} (h : VRels G xs ys) {i : Nat} {x : AV} {y : Value} (hx : xs[i]? = some x) (hy : ys[i]? = some y) : VRel G x y := by
  obtain ⟨y', e, r⟩ := h.get i x hx
  rw [hy] at e; cases e; exact r

theorem VRels.append {G : Gh} {xs xs' : List AV} {ys ys' : List Value} (h : VRels G xs ys) (h' : VRels G xs' ys') : VRels G (xs ++ xs') (ys ++ ys') := by
  have l1 := h.length; have l2 := h'.length
  refine VRels.of_get (by simp [l1, l2]) fun i x y hx hy => ?_
  rw [List.getElem?_append] at hx hy
  by_cases hi : i < xs.length
  · rw [if_pos hi] at hx; rw [if_pos (by omega)] at hy; exact h.rel hx hy
  · rw [if_neg hi] at hx; rw [if_neg (by omega)] at hy; rw [← l1] at hy; exact h'.rel hx hy

theorem VRels.take {G : Gh} {xs : List AV} {ys : List Value} (h : VRels G xs ys) (n : Nat) : VRels G (xs.take n) (ys.take n) := by
  refine VRels.of_get (by simp [h.length]) fun i x y hx hy => ?_
  rw [List.getElem?_take] at hx hy
  by_cases hi : i < n
  · rw [if_pos hi] at hx hy; exact h.rel hx hy
  · rw [if_neg hi] at hx; cases hx

theorem VRels.drop {G : Gh} {xs : List AV} {ys : List Value} (h : VRels G xs ys) (n : Nat) : VRels G (xs.drop n) (ys.drop n) := by
  refine VRels.of_get (by simp [h.length]) fun i x y hx hy => ?_
  rw [List.getElem?_drop] at hx hy
  exact h.rel hx hy

theorem VRels.splice {G : Gh} {xs zs : List AV} {ys us : List Value} (h : VRels G xs ys) (hz : VRels G zs us) (o : Nat) : VRels G (splice xs o zs) (splice ys o us) := by
  unfold EF.splice; rw [hz.length]
  exact ((h.take o).append hz).append (h.drop _)

theorem VRels.rep {G : Gh} {xs : List AV} {ys : List Value} (h : VRels G xs ys) : ∀ n, VRels G (rep xs n) (rep ys n)
  | 0 => by simp [EF.rep, VRels]
  | n + 1 => h.append (VRels.rep h n)

theorem ObjRel.mono {P : Program} {G G' : Gh} {w w' : World} {a : Nat} {o : AObj} (hG : G.le G') (hb : ∀ b, G.mu a = some b → w'.heap[b]? = w.heap[b]?) (h : ObjRel P G w a o) : ObjRel P G' w' a o := by
  cases o with
  | cells cs =>
    obtain ⟨b, vs, t, h1, h2, h3⟩ := h
    exact ⟨b, vs, t, hG.mu _ _ h1, by rw [hb b h1]; exact h2, h3.mono hG⟩
  | vec cs =>
    obtain ⟨b, vs, t, h1, h2, h4, h3⟩ := h
    exact ⟨b, vs, t, hG.mu _ _ h1, by rw [hb b h1]; exact h2, h4, h3.mono hG⟩
  | arr => trivial
  | map es clock =>
    obtain ⟨b, rs, h1, h2, h3⟩ := h
    refine ⟨b, rs, hG.mu _ _ h1, by rw [hb b h1]; exact h2, ?_⟩
    clear h2
    revert h3; generalize rs.toList = l
    induction es generalizing l with
    | nil => exact id
    | cons e es ih => rintro ⟨r, rs', e1, e2, e3, e4, e5⟩; exact ⟨r, rs', e1, e2, e3, e4.mono hG, ih _ e5⟩
  | sit s pos =>
    obtain ⟨b, h1, h2⟩ := h
    exact ⟨b, hG.mu _ _ h1, by rw [hb b h1]; exact h2⟩
  | loop s p fr N ps asg body =>
    obtain ⟨b, rec, h1, h2, h3, h4, h5, h6, h7, h8, h9⟩ := h
    exact ⟨b, rec, hG.mu _ _ h1, by rw [hb b h1]; exact h2, h3, h4, h5, h6, h7, ⟨h8.1, fun i => (h8.2 i).mono hG⟩, h9⟩

namespace St
theorem get_alloc_new (s : St) (o : AObj) : (s.alloc o).get s.next = some o := by simp [get, alloc, next]
theorem get_alloc_old (s : St) (o : AObj) {a : Nat} (h : a < s.next) : (s.alloc o).get a = s.get a := by
  simp only [get, alloc, next] at *; rw [List.getElem?_append_left h]
theorem next_alloc (s : St) (o : AObj) : (s.alloc o).next = s.next + 1 := by simp [next, alloc]
theorem next_set (s : St) (a : Nat) (o : AObj) : (s.set a o).next = s.next := by simp [next, set]
theorem get_set_same (s : St) {a : Nat} (o : AObj) (h : a < s.next) : (s.set a o).get a = some o := by simp only [get, set, next] at *; simp [h]
theorem get_set_ne (s : St) {a a' : Nat} (o : AObj) (h : a ≠ a') : (s.set a o).get a' = s.get a' := by simp only [get, set]; simp [h]
theorem lt_of_get {s : St} {a : Nat} {o : AObj} (h : s.get a = some o) : a < s.next := by
  simp only [get, next] at *
  exact (List.getElem?_eq_some_iff.1 h).1
theorem get_alloc (s : St) (o : AObj) (a : Nat) : (s.alloc o).get a = if a = s.next then some o else s.get a := by
  by_cases h : a = s.next
  · subst h; rw [get_alloc_new, if_pos rfl]
  · rw [if_neg h]
    by_cases h' : a < s.next
    · exact get_alloc_old s o h'
    · simp only [get, alloc, next] at *; rw [List.getElem?_append_right (by omega), List.getElem?_eq_none (by simp; omega), List.getElem?_eq_none (by omega)]
theorem get_set (s : St) (a : Nat) (o : AObj) (a' : Nat) : (s.set a o).get a' = if a' = a then (if a < s.next then some o else none) else s.get a' := by
  by_cases h : a' = a
  · subst h; rw [if_pos rfl]; by_cases h : a' < s.next
    · rw [if_pos h, get_set_same _ _ h]
    · rw [if_neg h]; simp only [get, set, next] at *; rw [List.getElem?_eq_none (by simp; omega)]
  · rw [if_neg h, get_set_ne _ _ (Ne.symm h)]
end St

/-! ### Steps of the relation -/
section steps
variable {P : Program} {G : Gh} {st : St} {w : World}

theorem Rel.hsize (h : Rel P G st w) : ¬ G.w0.kp w.heap.size := h.below.fresh (Nat.le_refl _)

/-- A draw. -/
theorem Rel.drewN (h : Rel P G st w) (n : Nat) : Rel P G st { w with drawn := w.drawn + n } where
  nxeq := h.nxeq
  below := ⟨h.below.os, h.below.tape, h.below.output, h.below.size, h.below.block⟩
  dom := h.dom
  adom := h.adom
  inj := h.inj
  fresh := h.fresh
  obj := fun a o b e hb => (h.obj a o b e hb).mono (.refl _) fun _ _ => rfl
  fzok := h.fzok
  fzmu := h.fzmu
  arr := h.arr
  arrinj := h.arrinj
  dfr := h.dfr
  lps := h.lps

/-- A new object, in a new block. -/
theorem Rel.alloc_obj (h : Rel P G st w) (o : AObj) (O : Obj) (hne : ∀ l s, o ≠ .arr l s)
    (hnew : ∀ G' : Gh, G.le G' → G'.mu st.next = some w.heap.size → ObjRel P G' (w.alloc O) st.next o) :
    ∃ G', G.le G' ∧ Rel P G' (st.alloc o) (w.alloc O) ∧ G'.mu st.next = some w.heap.size ∧ G'.dfr = G.dfr ∧ G'.lps = G.lps := by
  have hle : G.le { G with nx := G.nx + 1, mu := fun a => if a = st.next then some w.heap.size else G.mu a } :=
    ⟨rfl, Nat.le_succ _, fun a ha => by show (if a = st.next then _ else _) = _; rw [h.nxeq] at ha; rw [if_neg (by omega)], fun a b e => by have := h.dom a b e; show (if a = st.next then _ else _) = _; rw [if_neg (by omega)]; exact e, fun _ _ _ e => e, fun _ _ e => e, fun _ e => e, fun _ e => e⟩
  have hold : ∀ k, k < w.heap.size → (w.alloc O).heap[k]? = w.heap[k]? := fun k hk => Below.heap_alloc _ _ _ hk
  refine ⟨_, hle, ?_, if_pos rfl, rfl, rfl⟩
  refine { nxeq := by rw [St.next_alloc]; show G.nx + 1 = _; rw [h.nxeq], below := h.below.alloc O, dom := ?_, adom := ?_, inj := ?_, fresh := ?_, obj := ?_, fzok := ?_, fzmu := ?_, arr := ?_, arrinj := ?_, dfr := ?_, lps := ?_ }
  · intro a b e
    simp only at e; rw [St.next_alloc]
    by_cases ha : a = st.next
    · omega
    · rw [if_neg ha] at e; have := h.dom a b e; omega
  · intro a x e; rw [St.next_alloc]; have := h.adom a x e; omega
  · intro a a' b e e'
    simp only at e e'
    by_cases ha : a = st.next <;> by_cases ha' : a' = st.next
    · omega
    · rw [if_pos ha] at e; rw [if_neg ha'] at e'; cases e; have := (h.fresh a' _ e').2; omega
    · rw [if_neg ha] at e; rw [if_pos ha'] at e'; cases e'; have := (h.fresh a _ e).2; omega
    · rw [if_neg ha] at e; rw [if_neg ha'] at e'; exact h.inj a a' b e e'
  · intro a b e
    simp only at e; rw [World.size_alloc]
    by_cases ha : a = st.next
    · rw [if_pos ha] at e; cases e; exact ⟨h.hsize, by omega⟩
    · rw [if_neg ha] at e; have := h.fresh a b e; exact ⟨this.1, by omega⟩
  · intro a x b e hb
    rw [St.get_alloc] at e
    simp only at hb
    by_cases ha : a = st.next
    · rw [if_pos ha] at e; cases e; subst ha; exact hnew _ hle (if_pos rfl)
    · rw [if_neg ha] at e hb
      exact (h.obj a x b e hb).mono hle fun b hb => hold b (h.fresh a b hb).2
  · intro b o y e
    obtain ⟨vs, t, fr, h1, h2⟩ := h.fzok b o y e
    exact ⟨vs, t, fr, by rw [hold b (Array.getElem?_eq_some_iff.1 h1).1]; exact h1, h2⟩
  · intro a b o e
    simp only at e
    by_cases ha : a = st.next
    · rw [if_pos ha] at e; cases e
      cases hz : G.fz w.heap.size o with
      | none => rfl
      | some y => obtain ⟨vs, t, fr, h1, h2⟩ := h.fzok _ _ _ hz; have := (Array.getElem?_eq_some_iff.1 h1).1; omega
    · rw [if_neg ha] at e; exact h.fzmu a b o e
  · intro a sz e
    rw [St.get_alloc] at e
    by_cases ha : a = st.next
    · rw [if_pos ha] at e; cases e; exact absurd rfl (hne _ _)
    · rw [if_neg ha] at e
      obtain ⟨b, n, cap, vs, t, h1, h2, h3, h4, h5, h6, h7⟩ := h.arr a sz e
      have hb := (Array.getElem?_eq_some_iff.1 h2).1
      refine ⟨b, n, cap, vs, t, h1, by rw [hold b hb]; exact h2, h3, h4, h5, h6, fun a' => ?_⟩
      simp only
      by_cases ha' : a' = st.next
      · rw [if_pos ha']; intro e; cases e; omega
      · rw [if_neg ha']; exact h7 a'
  · intro a a' s s' b n c n' c' e e'
    rw [St.get_alloc] at e e'
    by_cases ha : a = st.next
    · rw [if_pos ha] at e; cases e; exact absurd rfl (hne _ _)
    · rw [if_neg ha] at e
      by_cases ha' : a' = st.next
      · rw [if_pos ha'] at e'; cases e'; exact absurd rfl (hne _ _)
      · rw [if_neg ha'] at e'; exact h.arrinj a a' s s' b n c n' c' e e'
  · intro r hr
    obtain ⟨h1, h2⟩ := h.dfr r hr
    exact ⟨h1, by rw [hold r (Array.getElem?_eq_some_iff.1 h2).1]; exact h2⟩
  · intro r hr
    obtain ⟨h1, rec, h2⟩ := h.lps r hr
    exact ⟨h1, rec, by rw [hold r (Array.getElem?_eq_some_iff.1 h2).1]; exact h2⟩

/-- A new block that no object stands for (a frozen row, a block of deferred calls): nothing turns. -/
theorem Rel.alloc_world (h : Rel P G st w) (O : Obj) : Rel P G st (w.alloc O) := by
  have hold : ∀ k, k < w.heap.size → (w.alloc O).heap[k]? = w.heap[k]? := fun k hk => Below.heap_alloc _ _ _ hk
  refine { nxeq := h.nxeq, below := h.below.alloc O, dom := h.dom, adom := h.adom, inj := h.inj, fresh := ?_, obj := ?_, fzok := ?_, fzmu := h.fzmu, arr := ?_, arrinj := h.arrinj, dfr := ?_, lps := ?_ }
  · intro a b e; rw [World.size_alloc]; have := h.fresh a b e; exact ⟨this.1, by omega⟩
  · intro a x b e hb; exact (h.obj a x b e hb).mono (.refl _) fun b hb => hold b (h.fresh a b hb).2
  · intro b o y e
    obtain ⟨vs, t, fr, h1, h2⟩ := h.fzok b o y e
    exact ⟨vs, t, fr, by rw [hold b (Array.getElem?_eq_some_iff.1 h1).1]; exact h1, h2⟩
  · intro a sz e
    obtain ⟨b, n, cap, vs, t, h1, h2, h3⟩ := h.arr a sz e
    exact ⟨b, n, cap, vs, t, h1, by rw [hold b (Array.getElem?_eq_some_iff.1 h2).1]; exact h2, h3⟩
  · intro r hr
    obtain ⟨h1, h2⟩ := h.dfr r hr
    exact ⟨h1, by rw [hold r (Array.getElem?_eq_some_iff.1 h2).1]; exact h2⟩
  · intro r hr
    obtain ⟨h1, rec, h2⟩ := h.lps r hr
    exact ⟨h1, rec, by rw [hold r (Array.getElem?_eq_some_iff.1 h2).1]; exact h2⟩

/-- The object a, and the block for which it stands, turn. -/
theorem Rel.put_obj (h : Rel P G st w) {a b : Nat} (o : AObj) (O : Obj) (hmu : G.mu a = some b) (hne : ∀ l s, o ≠ .arr l s)
    (hnew : ObjRel P G (w.putObj b O) a o) (hl : ∀ rec, w.heap[b]? = some (.loop rec) → ∃ rec', O = .loop rec') (hd : ∀ x, w.heap[b]? ≠ some (.deferred x)) :
    Rel P G (st.set a o) (w.putObj b O) := by
  have hb := h.fresh a b hmu
  have hold : ∀ k, k ≠ b → (w.putObj b O).heap[k]? = w.heap[k]? := fun k hk => World.putObj_heap_other hk
  refine { nxeq := by rw [St.next_set]; exact h.nxeq, below := ?_, dom := ?_, adom := ?_, inj := h.inj, fresh := ?_, obj := ?_, fzok := ?_, fzmu := h.fzmu, arr := ?_, arrinj := ?_, dfr := ?_, lps := ?_ }
  · exact h.below.step rfl rfl rfl (by simp) fun k hk => hold k (fun e => hb.1 (e ▸ hk))
  · intro a b e; rw [St.next_set]; exact h.dom a b e
  · intro a b e; rw [St.next_set]; exact h.adom a b e
  · intro a b e; rw [World.putObj_size]; exact h.fresh a b e
  · intro a' x bx e hbx
    by_cases ha : a' = a
    · subst ha; rw [St.get_set, if_pos rfl] at e
      split at e
      · cases e; exact hnew
      · cases e
    · rw [St.get_set, if_neg ha] at e
      refine (h.obj a' x bx e hbx).mono (.refl _) fun b' hb' => hold b' fun eb => ha ?_
      subst eb; exact h.inj a' a b' hb' hmu
  · intro b' o' y e
    obtain ⟨vs, t, fr, h1, h2⟩ := h.fzok b' o' y e
    refine ⟨vs, t, fr, ?_, h2⟩
    rw [hold b' fun eb => ?_]
    · exact h1
    · subst eb; rw [h.fzmu a b' o' hmu] at e; cases e
  · intro a' sz e
    have e' : st.get a' = some (.arr true sz) := by
      by_cases ha : a' = a
      · subst ha; rw [St.get_set, if_pos rfl] at e
        split at e
        · cases e; exact absurd rfl (hne _ _)
        · cases e
      · rw [St.get_set, if_neg ha] at e; exact e
    obtain ⟨b', n, cap, vs, t, h1, h2, h3, h4, h5, h6, h7⟩ := h.arr a' sz e'
    exact ⟨b', n, cap, vs, t, h1, by rw [hold b' fun eb => h7 a (by rw [eb]; exact hmu)]; exact h2, h3, h4, h5, h6, h7⟩
  · intro a1 a2 s s' b1 n c n' c' e e'
    have g : ∀ x sz, (st.set a o).get x = some (.arr true sz) → st.get x = some (.arr true sz) := fun x sz e => by
      by_cases ha : x = a
      · subst ha; rw [St.get_set, if_pos rfl] at e
        split at e
        · cases e; exact absurd rfl (hne _ _)
        · cases e
      · rw [St.get_set, if_neg ha] at e; exact e
    exact h.arrinj a1 a2 s s' b1 n c n' c' (g _ _ e) (g _ _ e')
  · intro r hr
    obtain ⟨h1, h2⟩ := h.dfr r hr
    exact ⟨h1, by rw [hold r fun eb => hd _ (by rw [← eb]; exact h2)]; exact h2⟩
  · intro r hr
    obtain ⟨h1, rec, h2⟩ := h.lps r hr
    by_cases eb : r = b
    · subst eb; obtain ⟨rec', e⟩ := hl rec h2; exact ⟨h1, rec', by rw [World.putObj_heap_same hb.2, e]⟩
    · exact ⟨h1, rec, by rw [hold r eb]; exact h2⟩
end steps

end Go.EF
end

section
namespace Go.EF
open Go Go.RowKit

section steps2
variable {P : Program} {G : Gh} {st : St} {w : World}

/-- A new block whose first m cells are frozen. -/
theorem Rel.alloc_frozen (h : Rel P G st w) (vs : Array Value) (t : TypeId) (m : Nat) :
    ∃ G', G.le G' ∧ Rel P G' st (w.alloc (.cells vs t)) ∧ FzAt G' w.heap.size 0 (vs.toList.take m) ∧ (∀ o, m ≤ o → G'.fz w.heap.size o = none) ∧ G'.mu = G.mu ∧ G'.arr = G.arr := by
  have hn : ∀ o, G.fz w.heap.size o = none := fun o => by
    cases hz : G.fz w.heap.size o with
    | none => rfl
    | some y => obtain ⟨vs, t, fr, h1, h2⟩ := h.fzok _ _ _ hz; have := (Array.getElem?_eq_some_iff.1 h1).1; omega
  have hold : ∀ k, k < w.heap.size → (w.alloc (.cells vs t)).heap[k]? = w.heap[k]? := fun k hk => Below.heap_alloc _ _ _ hk
  have hle : G.le { G with fz := fun b o => if b = w.heap.size then (if o < m then vs[o]? else none) else G.fz b o } :=
    ⟨rfl, Nat.le_refl _, fun _ _ => rfl, fun _ _ e => e, fun b o y e => by
      show (if _ then _ else _) = _
      by_cases hb : b = w.heap.size
      · subst hb; rw [hn o] at e; cases e
      · rw [if_neg hb]; exact e, fun _ _ e => e, fun _ e => e, fun _ e => e⟩
  have h1 := h.alloc_world (.cells vs t)
  refine ⟨_, hle, ?_, ?_, ?_, rfl, rfl⟩
  · refine { nxeq := h1.nxeq, below := h1.below, dom := h1.dom, adom := h1.adom, inj := h1.inj, fresh := h1.fresh, obj := fun a o b e hb => (h1.obj a o b e hb).mono hle fun _ _ => rfl, fzok := ?_, fzmu := ?_, arr := ?_, arrinj := h1.arrinj, dfr := h1.dfr, lps := h1.lps }
    · intro b o y e
      simp only at e
      by_cases hb : b = w.heap.size
      · subst hb; rw [if_pos rfl] at e
        by_cases ho : o < m
        · rw [if_pos ho] at e; exact ⟨vs, t, (0, 0), World.alloc_heap_new _ _, e⟩
        · rw [if_neg ho] at e; cases e
      · rw [if_neg hb] at e; exact h1.fzok b o y e
    · intro a b o e
      show (if _ then _ else _) = _
      have := (h.fresh a b e).2
      rw [if_neg (by omega)]; exact h.fzmu a b o e
    · intro a sz e
      obtain ⟨b, n, cap, vs', t', h1, h2, h3, h4, h5, h6, h7⟩ := h1.arr a sz e
      refine ⟨b, n, cap, vs', t', h1, h2, h3, h4, h5, fun o ho => ?_, h7⟩
      show (if _ then _ else _) = _
      obtain ⟨b', n', cap', vs'', t'', g1, g2, _⟩ := h.arr a sz e
      rw [h1] at g1; cases g1
      have := (Array.getElem?_eq_some_iff.1 g2).1
      rw [if_neg (by omega)]; exact h6 o ho
  · intro i y e
    show (if _ then _ else _) = _
    rw [if_pos rfl, Nat.zero_add]
    rw [List.getElem?_take] at e
    by_cases hi : i < m
    · rw [if_pos hi] at e ⊢; simpa using e
    · rw [if_neg hi] at e; cases e
  · intro o ho
    show (if _ then _ else _) = _
    rw [if_pos rfl, if_neg (by omega)]

/-- A growing row that lies in a block of its own becomes an object. -/
theorem Rel.add_arr (h : Rel P G st w) {b n cap sz : Nat} {vs : Array Value} {t : TypeId} (h2 : w.heap[b]? = some (.cells vs t (0, 0))) (h3 : cap * sz ≤ vs.size) (h4 : n ≤ cap)
    (h5 : ¬ G.w0.kp b) (h6 : ∀ o, n * sz ≤ o → G.fz b o = none) (h7 : ∀ a', G.mu a' ≠ some b) (h8 : ∀ a' s' n' c', st.get a' = some (.arr true s') → G.arr a' ≠ some (b, n', c')) :
    ∃ G', G.le G' ∧ Rel P G' (st.alloc (.arr true sz)) w ∧ G'.arr st.next = some (b, n, cap) ∧ G'.fz = G.fz := by
  have hle : G.le { G with nx := G.nx + 1, arr := fun a => if a = st.next then some (b, n, cap) else G.arr a } :=
    ⟨rfl, Nat.le_succ _, fun _ _ => rfl, fun _ _ e => e, fun _ _ _ e => e, fun a x e => by have := h.adom a x e; show (if a = st.next then _ else _) = _; rw [if_neg (by omega)]; exact e, fun _ e => e, fun _ e => e⟩
  refine ⟨_, hle, ?_, if_pos rfl, rfl⟩
  refine { nxeq := by rw [St.next_alloc]; show G.nx + 1 = _; rw [h.nxeq], below := h.below, dom := ?_, adom := ?_, inj := h.inj, fresh := h.fresh, obj := ?_, fzok := h.fzok, fzmu := h.fzmu, arr := ?_, arrinj := ?_, dfr := h.dfr, lps := h.lps }
  · intro a b e; rw [St.next_alloc]; have := h.dom a b e; omega
  · intro a x e; rw [St.next_alloc]; simp only at e
    by_cases ha : a = st.next
    · omega
    · rw [if_neg ha] at e; have := h.adom a x e; omega
  · intro a x b e hb
    rw [St.get_alloc] at e
    by_cases ha : a = st.next
    · rw [if_pos ha] at e; cases e; trivial
    · rw [if_neg ha] at e; exact (h.obj a x b e hb).mono hle fun _ _ => rfl
  · intro a s e
    rw [St.get_alloc] at e
    by_cases ha : a = st.next
    · rw [if_pos ha] at e; cases e; exact ⟨b, n, cap, vs, t, if_pos ha, h2, h3, h4, h5, h6, h7⟩
    · rw [if_neg ha] at e
      obtain ⟨b', n', c', vs', t', g1, g⟩ := h.arr a s e
      exact ⟨b', n', c', vs', t', by simp only; rw [if_neg ha]; exact g1, g⟩
  · intro a a' s s' b1 n1 c1 n1' c1' e e' g g'
    rw [St.get_alloc] at e e'
    simp only at g g'
    by_cases ha : a = st.next <;> by_cases ha' : a' = st.next
    · omega
    · rw [if_neg ha'] at e' g'; rw [if_pos ha] at g; cases g; exact absurd g' (h8 _ _ _ _ e')
    · rw [if_neg ha] at e g; rw [if_pos ha'] at g'; cases g'; exact absurd g (h8 _ _ _ _ e)
    · rw [if_neg ha] at e g; rw [if_neg ha'] at e' g'; exact h.arrinj a a' s s' b1 n1 c1 n1' c1' e e' g g'

/-- A growing row is given up. -/
theorem Rel.kill_arr (h : Rel P G st w) (a sz : Nat) (hs : ∃ s, st.get a = some (.arr true s)) : Rel P G (st.set a (.arr false sz)) w := by
  have g : ∀ x s, (st.set a (.arr false sz)).get x = some (.arr true s) → st.get x = some (.arr true s) := fun x s e => by
    rw [St.get_set] at e
    by_cases hx : x = a
    · rw [if_pos hx] at e; split at e <;> cases e
    · rw [if_neg hx] at e; exact e
  refine { nxeq := by rw [St.next_set]; exact h.nxeq, below := h.below, dom := ?_, adom := ?_, inj := h.inj, fresh := h.fresh, obj := ?_, fzok := h.fzok, fzmu := h.fzmu, arr := fun x s e => h.arr x s (g _ _ e), arrinj := fun x x' s s' b n c n' c' e e' => h.arrinj x x' s s' b n c n' c' (g _ _ e) (g _ _ e'), dfr := h.dfr, lps := h.lps }
  · intro x b e; rw [St.next_set]; exact h.dom x b e
  · intro x b e; rw [St.next_set]; exact h.adom x b e
  · intro x o b e hb
    rw [St.get_set] at e
    by_cases hx : x = a
    · rw [if_pos hx] at e
      split at e
      · cases e; trivial
      · cases e
    · rw [if_neg hx] at e; exact h.obj x o b e hb

/-- A growing row grows in its place: cells behind its end are written; they are frozen; the new row is an object of its own. -/
theorem Rel.grow (h : Rel P G st w) {a sz b n cap k : Nat} {ys : List Value} {vs : Array Value} {t : TypeId} (hs : st.get a = some (.arr true sz)) (ha : G.arr a = some (b, n, cap))
    (hw : w.heap[b]? = some (.cells vs t (0, 0))) (hy : ys.length = k * sz) (hk : n + k ≤ cap) :
    ∃ G', G.le G' ∧ Rel P G' ((st.set a (.arr false sz)).alloc (.arr true sz)) (w.putObj b (.cells (spliceA vs (n * sz) ys) t (0, 0))) ∧
      G'.arr st.next = some (b, n + k, cap) ∧ FzAt G' b (n * sz) ys := by
  obtain ⟨b', n', cap', vs', t', g1, g2, g3, g4, g5, g6, g7⟩ := h.arr a sz hs
  rw [ha] at g1; cases g1; rw [hw] at g2; cases g2
  have hroom : n * sz + ys.length ≤ vs.toList.length := by
    have : (n + k) * sz ≤ cap * sz := Nat.mul_le_mul_right _ hk
    rw [Nat.add_mul] at this
    rw [hy]; simp; omega
  have hblt := (Array.getElem?_eq_some_iff.1 hw).1
  have hsz : (spliceA vs (n * sz) ys).size = vs.size := by unfold spliceA; simp only [List.size_toArray]; rw [splice_length hroom]; simp
  have hold : ∀ x, x ≠ b → (w.putObj b (.cells (spliceA vs (n * sz) ys) t (0, 0))).heap[x]? = w.heap[x]? := fun x hx => World.putObj_heap_other hx
  have hnewb : (w.putObj b (.cells (spliceA vs (n * sz) ys) t (0, 0))).heap[b]? = some (.cells (spliceA vs (n * sz) ys) t (0, 0)) := World.putObj_heap_same hblt
  have hget : ∀ i, (spliceA vs (n * sz) ys)[i]? = if i < n * sz then vs[i]? else if i < n * sz + ys.length then ys[i - n * sz]? else vs[i]? := fun i => by
    unfold spliceA; rw [List.getElem?_toArray, splice_get hroom]; simp
  -- first the cells are written, the new ones frozen
  have hle : G.le { G with fz := fun b' o => if b' = b ∧ n * sz ≤ o ∧ o < n * sz + ys.length then ys[o - n * sz]? else G.fz b' o } :=
    ⟨rfl, Nat.le_refl _, fun _ _ => rfl, fun _ _ e => e, fun b' o y e => by
      show (if _ then _ else _) = _
      by_cases hb : b' = b ∧ n * sz ≤ o ∧ o < n * sz + ys.length
      · obtain ⟨rfl, h1, _⟩ := hb; rw [g6 o h1] at e; cases e
      · rw [if_neg hb]; exact e, fun _ _ e => e, fun _ e => e, fun _ e => e⟩
  have hnot : ∀ a' s', (st.set a (.arr false sz)).get a' = some (.arr true s') → a' ≠ a ∧ st.get a' = some (.arr true s') := fun a' s' e => by
    rw [St.get_set] at e
    by_cases hx : a' = a
    · rw [if_pos hx] at e; split at e <;> cases e
    · rw [if_neg hx] at e; exact ⟨hx, e⟩
  have hk1 := h.kill_arr a sz ⟨_, hs⟩
  have hR : Rel P { G with fz := fun b' o => if b' = b ∧ n * sz ≤ o ∧ o < n * sz + ys.length then ys[o - n * sz]? else G.fz b' o } (st.set a (.arr false sz)) (w.putObj b (.cells (spliceA vs (n * sz) ys) t (0, 0))) := by
    refine { nxeq := hk1.nxeq, below := ?_, dom := hk1.dom, adom := hk1.adom, inj := hk1.inj, fresh := ?_, obj := ?_, fzok := ?_, fzmu := ?_, arr := ?_, arrinj := hk1.arrinj, dfr := ?_, lps := ?_ }
    · exact h.below.step rfl rfl rfl (by simp) fun x hx => hold x (fun e => absurd (e ▸ hx) ‹¬ G.w0.kp b›)
    · intro x b' e; rw [World.putObj_size]; exact h.fresh x b' e
    · intro x o bx e hbx
      exact (hk1.obj x o bx e hbx).mono hle fun b' hb' => hold b' fun eb => g7 x (by rw [← eb]; exact hb')
    · intro b' o y e
      simp only at e
      by_cases hb : b' = b ∧ n * sz ≤ o ∧ o < n * sz + ys.length
      · rw [if_pos hb] at e; obtain ⟨rfl, h1, h2⟩ := hb
        exact ⟨_, t, (0, 0), hnewb, by rw [hget, if_neg (by omega), if_pos h2]; exact e⟩
      · rw [if_neg hb] at e
        obtain ⟨vs', t', fr, e1, e2⟩ := h.fzok b' o y e
        by_cases hb' : b' = b
        · subst hb'; rw [hw] at e1; cases e1
          refine ⟨_, t, (0, 0), hnewb, ?_⟩
          rw [hget]
          by_cases h1 : o < n * sz
          · rw [if_pos h1]; exact e2
          · rw [g6 o (by omega)] at e; cases e
        · exact ⟨vs', t', fr, by rw [hold b' hb']; exact e1, e2⟩
    · intro x b' o e
      show (if _ then _ else _) = _
      rw [if_neg (fun hb => g7 x (by rw [← hb.1]; exact e))]; exact h.fzmu x b' o e
    · intro x s e
      obtain ⟨hx, e⟩ := hnot x s e
      obtain ⟨b', n', c', vs', t', f1, f2, f3, f4, f5, f6, f7⟩ := h.arr x s e
      have hb' : b' ≠ b := fun eb => hx (by subst eb; exact h.arrinj x a s sz _ _ _ _ _ e hs f1 ha)
      refine ⟨b', n', c', vs', t', f1, by rw [hold b' hb']; exact f2, f3, f4, f5, fun o ho => ?_, f7⟩
      show (if _ then _ else _) = _
      rw [if_neg (fun hb => hb' hb.1)]; exact f6 o ho
    · intro r hr
      obtain ⟨h1, h2⟩ := h.dfr r hr
      exact ⟨h1, by rw [hold r fun eb => by rw [eb, hw] at h2; cases h2]; exact h2⟩
    · intro r hr
      obtain ⟨h1, rec, h2⟩ := h.lps r hr
      exact ⟨h1, rec, by rw [hold r fun eb => by rw [eb, hw] at h2; cases h2]; exact h2⟩
  obtain ⟨G', l1, l2, l3, l4⟩ := hR.add_arr (n := n + k) (cap := cap) (sz := sz) hnewb (by rw [hsz]; exact g3) hk g5 (fun o ho => by
      rw [Nat.add_mul] at ho
      show (if _ then _ else _) = _
      rw [if_neg (fun hb => by rw [hy] at hb; omega)]; exact g6 o (by omega)) g7 (fun a' s' n' c' e e' => by
      obtain ⟨hx, e⟩ := hnot a' s' e
      exact hx (h.arrinj a' a s' sz _ _ _ _ _ e hs e' ha))
  rw [St.next_set] at l3
  refine ⟨G', hle.trans l1, l2, l3, fun i y e => ?_⟩
  rw [l4]
  show (if _ then _ else _) = _
  have hi : i < ys.length := (List.getElem?_eq_some_iff.1 e).1
  rw [if_pos ⟨rfl, by omega, by omega⟩]
  rw [show n * sz + i - n * sz = i from by omega]; exact e
end steps2

/-! ### Operands -/
theorem VRels.ofMap {G : Gh} (f : Value → AV) (hf : ∀ v, VRel G (f v) v) : ∀ l : List Value, VRels G (l.map f) l
  | [] => by simp [VRels]
  | v :: l => by simp only [List.map_cons, VRels]; exact ⟨v, l, rfl, hf v, VRels.ofMap f hf l⟩

theorem VRel.nil (G : Gh) : VRel G (.list .exact [] 0) (.slice none 0 0) := by
  simp only [VRel]; exact ⟨none, 0, rfl, Nat.le_refl _, rfl, [], by simp [VRels], fun h => absurd rfl h⟩

theorem VRel.ofV (G : Gh) (v : Value) : VRel G (ofV v) v := by
  unfold EF.ofV
  split
  · exact VRel.nil G
  · rename_i cs
    simp only [VRel]
    refine ⟨cs, rfl, VRels.ofMap _ (fun v => ?_) _⟩
    split
    · exact VRel.nil G
    · simp [VRel]
  · simp [VRel]

theorem opd_rel {G : Gh} {N : Nat} {fr : Nat → AV} {a : Act} {x : Operand} {o : Opd} (h : opd x = some o) (hF : FrRel G N fr a.tmps) : VRel G (o.ev fr) (a.eval x) := by
  cases x with
  | tmp t => simp only [opd, Option.some.injEq] at h; subst h; exact hF.2 t
  | const v => simp only [opd, Option.some.injEq] at h; subst h; exact VRel.ofV G v
  | global g => simp [opd] at h
  | func f => simp only [opd, Option.some.injEq] at h; subst h; simp [Opd.ev, Act.eval, VRel, VRels]

theorem opds_rel {G : Gh} {N : Nat} {fr : Nat → AV} {a : Act} (hF : FrRel G N fr a.tmps) {xs : Array Operand} {os : List Opd} (h : opds xs = some os) : VRels G (os.map (·.ev fr)) (xs.map a.eval).toList := by
  unfold opds at h
  rw [Array.toList_map]
  revert h; generalize xs.toList = l
  induction l generalizing os with
  | nil => intro h; simp at h; subst h; simp [VRels]
  | cons x l ih =>
    intro h
    simp only [List.mapM_cons, Option.bind_eq_bind, Option.bind_eq_some_iff, Option.pure_def, Option.some.injEq] at h
    obtain ⟨o, h1, os', h2, rfl⟩ := h
    simp only [List.map_cons, VRels]
    exact ⟨_, _, rfl, opd_rel h1 hF, ih h2⟩

theorem toVs_rel {G : Gh} : ∀ {xs : List AV} {ys vs : List Value}, toVs xs = some vs → VRels G xs ys → ys = vs
  | [], ys, vs, h, r => by simp only [toVs, Option.some.injEq] at h; simp only [VRels] at r; rw [r, ← h]
  | x :: xs, ys, vs, h, r => by
    simp only [toVs] at h
    simp only [VRels] at r
    obtain ⟨y, ys', rfl, h1, h2⟩ := r
    split at h
    · rename_i a as e1 e2; cases h
      rw [toVs_rel e2 h2]
      cases x <;> simp only [AV.toV1, Option.some.injEq, reduceCtorEq] at e1
      subst e1; simp only [VRel] at h1; rw [h1]
    · cases h

theorem toV_rel {G : Gh} {x : AV} {y v : Value} (h : x.toV = some v) (r : VRel G x y) : y = v := by
  cases x <;> simp only [AV.toV, Option.some.injEq, reduceCtorEq] at h
  · subst h; simpa [VRel] using r
  · rename_i cs
    simp only [VRel] at r
    obtain ⟨ys, rfl, r⟩ := r
    rw [Option.map_eq_some_iff] at h
    obtain ⟨vs, h1, rfl⟩ := h
    have := toVs_rel h1 r
    rw [← this]

theorem cells_rel {G : Gh} {x : AV} {y : Value} (h : x.boxable = true) (r : VRel G x y) : VRels G x.cells y.cells.toList := by
  cases x with
  | agg cs => simp only [VRel] at r; obtain ⟨ys, rfl, r⟩ := r; simpa [AV.cells, Value.cells] using r
  | junk => simp [AV.boxable, AV.one] at h
  | tup => simp [AV.boxable, AV.one] at h
  | v z =>
    simp only [VRel] at r; subst r
    have : y.cells = #[y] := by cases y <;> simp_all [AV.boxable, AV.one, Value.oneCell', Value.cells]
    simp [AV.cells, this, VRels, VRel]
  | ptr => simp only [VRel] at r; obtain ⟨b, h1, rfl⟩ := r; simp [AV.cells, Value.cells, VRels, VRel, h1]
  | lptr => have r' := r; simp only [VRel] at r; obtain ⟨b, o, ys, rfl, h1⟩ := r; simp only [AV.cells, Value.cells, VRels]; exact ⟨_, [], rfl, r', rfl⟩
  | list => have r' := r; simp only [VRel] at r; obtain ⟨b, o, rfl, h1⟩ := r; simp only [AV.cells, Value.cells, VRels]; exact ⟨_, [], rfl, r', rfl⟩
  | ms => have r' := r; simp only [VRel] at r; obtain ⟨b, h1, rfl⟩ := r; simp only [AV.cells, Value.cells, VRels]; exact ⟨_, [], rfl, r', rfl⟩
  | mx => have r' := r; simp only [VRel] at r; obtain ⟨b, c, h1, rfl⟩ := r; simp only [AV.cells, Value.cells, VRels]; exact ⟨_, [], rfl, r', rfl⟩
  | map => have r' := r; simp only [VRel] at r; obtain ⟨b, h1, rfl⟩ := r; simp only [AV.cells, Value.cells, VRels]; exact ⟨_, [], rfl, r', rfl⟩
  | fn => have r' := r; simp only [VRel] at r; obtain ⟨b, c, rfl, h1⟩ := r; simp only [AV.cells, Value.cells, VRels]; exact ⟨_, [], rfl, r', rfl⟩
  | yld => have r' := r; simp only [VRel] at r; obtain ⟨b, h1, rfl⟩ := r; simp only [AV.cells, Value.cells, VRels]; exact ⟨_, [], rfl, r', rfl⟩

theorem one_rel {G : Gh} {x : AV} {y : Value} (h : x.one = true) (r : VRel G x y) : y.oneCell' = true := by
  cases x with
  | agg cs => simp [AV.one] at h
  | junk => simp [AV.one] at h
  | tup => simp [AV.one] at h
  | v z => simp only [VRel] at r; subst r; simpa [AV.one] using h
  | ptr => simp only [VRel] at r; obtain ⟨b, h1, rfl⟩ := r; rfl
  | lptr => simp only [VRel] at r; obtain ⟨b, o, ys, rfl, h1⟩ := r; rfl
  | list => simp only [VRel] at r; obtain ⟨b, o, rfl, h1⟩ := r; rfl
  | ms => simp only [VRel] at r; obtain ⟨b, h1, rfl⟩ := r; rfl
  | mx => simp only [VRel] at r; obtain ⟨b, c, h1, rfl⟩ := r; rfl
  | map => simp only [VRel] at r; obtain ⟨b, h1, rfl⟩ := r; rfl
  | fn => simp only [VRel] at r; obtain ⟨b, c, rfl, h1⟩ := r; rfl
  | yld => simp only [VRel] at r; obtain ⟨b, h1, rfl⟩ := r; rfl

theorem ones_rel {G : Gh} {xs : List AV} {ys : List Value} (h : xs.all AV.one = true) (r : VRels G xs ys) : ∀ y ∈ ys, y.oneCell' = true := by
  intro y hy
  obtain ⟨i, hi⟩ := List.getElem?_of_mem hy
  have hlt : i < xs.length := by rw [r.length]; exact (List.getElem?_eq_some_iff.1 hi).1
  have hx : xs[i]? = some xs[i] := List.getElem?_eq_getElem hlt
  exact one_rel (List.all_eq_true.1 h _ (List.getElem_mem hlt)) (r.rel hx hi)

/-! ### Types -/
theorem run_underlying_of {P : Program} {t : TypeId} {d : TypeDesc} (h : P.underlying t = some d) (w : World) : (underlying t).run P w = .ok d w := by
  simp [underlying, h]
theorem run_sizeOf_of {P : Program} {t : TypeId} {n : Nat} (h : tsize P t = some n) (w : World) : (sizeOf t).run P w = .ok n w := by
  unfold tsize at h; rw [Option.map_eq_some_iff] at h; obtain ⟨i, h1, rfl⟩ := h
  simp [sizeOf, typeInfo, h1]
theorem run_isAgg_of {P : Program} {t : TypeId} {g : Bool} (h : tagg P t = some g) (w : World) : (isAgg t).run P w = .ok g w := by
  unfold tagg at h; rw [Option.map_eq_some_iff] at h; obtain ⟨d, h1, rfl⟩ := h
  simp only [isAgg, Sem.run_bind, run_underlying_of h1, Result.andThen_ok]
  cases d <;> rfl
theorem tzero_run {P : Program} {t : TypeId} {z : List AV} (h : tzero P t = some z) : ∃ v i, P.info? t = some i ∧ i.zero = some v ∧ v.cells.size = i.size ∧ (∀ w, (zeroValue t).run P w = .ok v w) ∧ ∀ G, VRels G z v.cells.toList := by
  unfold tzero at h
  split at h
  · rename_i i hi
    split at h
    · rename_i v hv
      split at h
      · rename_i hs; cases h
        refine ⟨v, i, hi, hv, hs, fun w => by simp [zeroValue, typeInfo, hi, hv], fun G => ?_⟩
        have r := VRel.ofV G v
        unfold EF.ofV at r ⊢
        split
        · simp [AV.cells, Value.cells, VRels, VRel.nil]
        · rename_i cs
          simp only [VRel] at r
          obtain ⟨ys, e, r⟩ := r; cases e
          simpa [AV.cells, Value.cells] using r
        · rename_i h1 h2
          have : v.cells = #[v] := by
            cases v with
            | agg cs => exact absurd rfl (h2 cs)
            | _ => rfl
          simp [AV.cells, this, VRels, VRel]
      · cases h
    · cases h
  · cases h

end Go.EF
end

section
namespace Go.EF
open Go Go.RowKit

def OpOK (P : Program) (G : Gh) (st : St) (x : AV) (w : World) (s : Sem Next) : Prop :=
  ∃ nx y w' G', s.run P w = .ok nx w' ∧ (nx = .value y ∨ (nx = .skip ∧ y = undef)) ∧ G.le G' ∧ Rel P G' st w' ∧ VRel G' x y

section
variable {P : Program} {G : Gh} {st : St} {w : World} {x : AV}

theorem OpOK.same {s : Sem Value} {y : Value} (h : s.run P w = .ok y w) (hR : Rel P G st w) (hv : VRel G x y) : OpOK P G st x w (do pure (Next.value (← s))) :=
  ⟨.value y, y, w, G, by simp [h], .inl rfl, .refl _, hR, hv⟩

theorem OpOK.val {s : Sem Value} {y : Value} {w' : World} {G' : Gh} {st' : St} (h : s.run P w = .ok y w') (hle : G.le G') (hR : Rel P G' st' w') (hv : VRel G' x y) : OpOK P G st' x w (do pure (Next.value (← s))) :=
  ⟨.value y, y, w', G', by simp [h], .inl rfl, hle, hR, hv⟩

theorem OpOK.unit {s : Sem Unit} {w' : World} {G' : Gh} {st' : St} (h : s.run P w = .ok () w') (hle : G.le G') (hR : Rel P G' st' w') : OpOK P G st' .junk w (do s; pure Next.skip) :=
  ⟨.skip, undef, w', G', by simp [h], .inr ⟨rfl, rfl⟩, hle, hR, by simp [VRel]⟩

/-! ### loads -/
theorem loadVar_agg {t : TypeId} {sz b off : Nat} {vs : Array Value} {e : TypeId} {fr : Nat × Nat} (hg : tagg P t = some true) (hs : tsize P t = some sz) (hb : w.heap[b]? = some (.cells vs e fr)) (ho : off + sz ≤ vs.size) :
    (loadVar t ⟨b, off, none⟩).run P w = .ok (.agg (vs.extract off (off + sz))) w := by
  simp [loadVar, run_isAgg_of hg, run_sizeOf_of hs, run_loadCells hb ho]

theorem loadVar_one {t : TypeId} {b off : Nat} {vs : Array Value} {e : TypeId} {fr : Nat × Nat} {y : Value} (hg : tagg P t = some false) (hb : w.heap[b]? = some (.cells vs e fr)) (ho : vs[off]? = some y) :
    (loadVar t ⟨b, off, none⟩).run P w = .ok y w := by
  simp [loadVar, run_isAgg_of hg, cell_of_block hb, ho]

theorem extract_list (vs : Array Value) (off sz : Nat) : (vs.extract off (off + sz)).toList = (vs.toList.drop off).take sz := by
  simp only [Array.toList_extract, List.extract_eq_drop_take']
  rw [List.drop_take]; congr 1; omega

theorem getCells_block {g : Bool} {cs : List AV} {vs : Array Value} {sz off : Nat} {t e : TypeId} {b : Nat} {fr : Nat × Nat} (h : getCells cs g sz off = some x) (r : VRels G cs vs.toList) (hg : tagg P t = some g) (hs : tsize P t = some sz)
    (hb : w.heap[b]? = some (.cells vs e fr)) : ∃ y, (loadVar t ⟨b, off, none⟩).run P w = .ok y w ∧ VRel G x y := by
  unfold getCells at h
  cases g with
  | true =>
    simp only [if_true] at h
    split at h
    · rename_i hc; cases h
      have hl := r.length
      refine ⟨_, loadVar_agg hg hs hb (by simp at hl; omega), ?_⟩
      simp only [VRel]
      exact ⟨_, rfl, by rw [extract_list]; exact (r.drop off).take sz⟩
    · cases h
  | false =>
    simp only [Bool.false_eq_true, if_false] at h
    obtain ⟨y, h1, h2⟩ := r.get off x h
    exact ⟨y, loadVar_one hg hb (by simpa using h1), h2⟩

theorem getCells_pre {g : Bool} {cs : List AV} {vs : Array Value} {sz off : Nat} {t e : TypeId} {b : Nat} {fr : Nat × Nat} (h : getCells cs g sz off = some x) (r : VRels G cs (vs.toList.take cs.length)) (hg : tagg P t = some g) (hs : tsize P t = some sz)
    (hb : w.heap[b]? = some (.cells vs e fr)) : ∃ y, (loadVar t ⟨b, off, none⟩).run P w = .ok y w ∧ VRel G x y := by
  unfold getCells at h
  have hlr := r.length
  rw [List.length_take] at hlr
  cases g with
  | true =>
    simp only [if_true] at h
    split at h
    · rename_i hc; cases h
      have hl : cs.length ≤ vs.toList.length := by omega
      refine ⟨_, loadVar_agg hg hs hb (by simp at hl; omega), ?_⟩
      simp only [VRel]
      refine ⟨_, rfl, ?_⟩
      have := (r.drop off).take sz
      rw [List.drop_take, List.take_take, Nat.min_eq_left (by omega)] at this
      rw [extract_list]; exact this
    · cases h
  | false =>
    simp only [Bool.false_eq_true, if_false] at h
    obtain ⟨y, h1, h2⟩ := r.get off x h
    rw [List.getElem?_take] at h1
    split at h1
    · exact ⟨y, loadVar_one hg hb (by simpa using h1), h2⟩
    · cases h1

theorem fz_block (hR : Rel P G st w) {b o : Nat} {ys : List Value} (hf : FzAt G b o ys) (hne : ys ≠ []) :
    ∃ vs t fr, w.heap[b]? = some (.cells vs t fr) ∧ ∀ i y, ys[i]? = some y → vs[o + i]? = some y := by
  cases ys with
  | nil => exact absurd rfl hne
  | cons y ys =>
    obtain ⟨vs, t, fr, h1, _⟩ := hR.fzok b (o + 0) y (hf 0 y rfl)
    refine ⟨vs, t, fr, h1, fun i z e => ?_⟩
    obtain ⟨vs', t', fr', h1', h2⟩ := hR.fzok b (o + i) z (hf i z e)
    rw [h1] at h1'; cases h1'; exact h2

theorem fz_extract {vs : Array Value} {o off sz : Nat} {ys : List Value} (h : ∀ i y, ys[i]? = some y → vs[o + i]? = some y) (hl : off + sz ≤ ys.length) : o + off + sz ≤ vs.size ∨ sz = 0 := by
  cases sz with
  | zero => exact .inr rfl
  | succ sz =>
    refine .inl ?_
    have h1 : off + sz < ys.length := by omega
    have := h (off + sz) _ (List.getElem?_eq_getElem h1)
    have := (Array.getElem?_eq_some_iff.1 this).1
    omega

theorem fz_drop {vs : Array Value} {o off sz : Nat} {ys : List Value} (h : ∀ i y, ys[i]? = some y → vs[o + i]? = some y) (hl : off + sz ≤ ys.length) : (vs.extract (o + off) (o + off + sz)).toList = (ys.drop off).take sz := by
  rw [extract_list]
  apply List.ext_getElem?
  intro i
  rw [List.getElem?_take, List.getElem?_take]
  by_cases hi : i < sz
  · rw [if_pos hi, if_pos hi, List.getElem?_drop, List.getElem?_drop]
    have h1 : off + i < ys.length := by omega
    rw [List.getElem?_eq_getElem h1]
    have := h (off + i) _ (List.getElem?_eq_getElem h1)
    rw [Array.getElem?_toList, ← this]; congr 1; omega
  · rw [if_neg hi, if_neg hi]

theorem getCells_fz {g : Bool} {cs : List AV} {ys : List Value} {sz off : Nat} {t : TypeId} {b o : Nat} (h : getCells cs g sz off = some x) (r : VRels G cs ys) (hg : tagg P t = some g) (hs : tsize P t = some sz)
    (hR : Rel P G st w) (hf : FzAt G b o ys) : ∃ y, (loadVar t ⟨b, o + off, none⟩).run P w = .ok y w ∧ VRel G x y := by
  unfold getCells at h
  have hl := r.length
  cases g with
  | true =>
    simp only [if_true] at h
    split at h
    · rename_i hc; cases h
      obtain ⟨vs, e, fr, h1, h2⟩ := fz_block hR hf (fun e => by subst e; simp at hl; subst hl; simp at hc; omega)
      rcases fz_extract h2 (off := off) (sz := sz) (by omega) with h3 | h3
      · refine ⟨_, loadVar_agg hg hs h1 h3, ?_⟩
        simp only [VRel]
        exact ⟨_, rfl, by rw [fz_drop h2 (by omega)]; exact (r.drop off).take sz⟩
      · omega
    · cases h
  | false =>
    simp only [Bool.false_eq_true, if_false] at h
    obtain ⟨y, h1, h2⟩ := r.get off x h
    obtain ⟨vs, e, fr, h3, h4⟩ := fz_block hR hf (fun e => by subst e; simp at h1)
    exact ⟨y, loadVar_one hg h3 (h4 off y h1), h2⟩

theorem ok_load {t : TypeId} {g : Bool} {sz : Nat} {a : AV} {ya : Value} (hg : tagg P t = some g) (hs : tsize P t = some sz) (hR : Rel P G st w) (ra : VRel G a ya) (h : loadS st g sz a = some x) :
    OpOK P G st x w (do pure (Next.value (← Instr.loadAt t ya))) := by
  cases a <;> simp only [loadS, reduceCtorEq] at h
  · rename_i a off
    simp only [VRel] at ra; obtain ⟨b, h1, rfl⟩ := ra
    split at h
    · rename_i cs hcs
      obtain ⟨b', vs, e, h2, h3, h4⟩ := hR.obj _ _ _ hcs h1
      rw [h1] at h2; cases h2
      obtain ⟨y, h5, h6⟩ := getCells_block h h4 hg hs h3
      exact OpOK.same (by simpa [Instr.loadAt, Instr.sureAddr] using h5) hR h6
    · rename_i cs hcs
      obtain ⟨b', vs, e, h2, h3, h4, h5⟩ := hR.obj _ _ _ hcs h1
      rw [h1] at h2; cases h2
      obtain ⟨y, h5, h6⟩ := getCells_pre h h5 hg hs h3
      exact OpOK.same (by simpa [Instr.loadAt, Instr.sureAddr] using h5) hR h6
    · cases h
  · rename_i cs off
    simp only [VRel] at ra; obtain ⟨b, o, ys, rfl, h2, h3⟩ := ra
    obtain ⟨y, h5, h6⟩ := getCells_fz h h3 hg hs hR h2
    exact OpOK.same (by simpa [Instr.loadAt, Instr.sureAddr] using h5) hR h6

/-! ### stores -/
theorem toArray_splice (vs : Array Value) (o : Nat) (ys : List Value) : (spliceA vs o ys).toList = splice vs.toList o ys := by simp [spliceA]

theorem put_cells (hR : Rel P G st w) {a b : Nat} {cs xs : List AV} {vs : Array Value} {t : TypeId} {ys : List Value} (o : Nat) (hcs : st.get a = some (.cells cs)) (hmu : G.mu a = some b) (hb : w.heap[b]? = some (.cells vs t (0, 0))) (hv : VRels G cs vs.toList)
    (hx : VRels G xs ys) : Rel P G (st.set a (.cells (splice cs o xs))) (w.putObj b (.cells (spliceA vs o ys) t (0, 0))) := by
  refine hR.put_obj _ _ hmu (by intro l s e; cases e) ⟨b, _, t, hmu, World.putObj_heap_same (Array.getElem?_eq_some_iff.1 hb).1, ?_⟩ (fun rec e => by rw [hb] at e; cases e) (fun d e => by rw [hb] at e; cases e)
  rw [toArray_splice]; exact hv.splice hx o

theorem take_splice {α : Type} {vs : List α} {o n : Nat} {ys : List α} (h : o + ys.length ≤ n) (hn : n ≤ vs.length) : (splice vs o ys).take n = splice (vs.take n) o ys := by
  apply List.ext_getElem?
  intro i
  rw [List.getElem?_take, splice_get (by omega), splice_get (by simp; omega)]
  by_cases hi : i < n
  · simp only [hi, if_true, List.getElem?_take]
  · have : ¬ i < o := by omega
    have h2 : ¬ i < o + ys.length := by omega
    simp [hi, this, h2, List.getElem?_take]

theorem put_vec (hR : Rel P G st w) {a b : Nat} {cs xs : List AV} {vs : Array Value} {t : TypeId} {ys : List Value} (o : Nat) (hcs : st.get a = some (.vec cs)) (hmu : G.mu a = some b) (hb : w.heap[b]? = some (.cells vs t (0, 0))) (hl : cs.length ≤ vs.size) (hv : VRels G cs (vs.toList.take cs.length))
    (hx : VRels G xs ys) (ho : o + ys.length ≤ cs.length) : Rel P G (st.set a (.vec (splice cs o xs))) (w.putObj b (.cells (spliceA vs o ys) t (0, 0))) := by
  have hlx := hx.length
  have hlen : (splice cs o xs).length = cs.length := splice_length (by omega)
  refine hR.put_obj _ _ hmu (by intro l s e; cases e) ⟨b, _, t, hmu, World.putObj_heap_same (Array.getElem?_eq_some_iff.1 hb).1, ?_, ?_⟩ (fun rec e => by rw [hb] at e; cases e) (fun d e => by rw [hb] at e; cases e)
  · rw [hlen, ← Array.length_toList, toArray_splice, splice_length (by simp; omega)]; simpa using hl
  · rw [hlen, toArray_splice, take_splice ho (by simpa using hl)]; exact hv.splice hx o

theorem ok_store {t : TypeId} {sz : Nat} {a v : AV} {ya yv : Value} {st' : St} (hs : tsize P t = some sz) (hR : Rel P G st w) (ra : VRel G a ya) (rv : VRel G v yv) (h : storeS st sz a v = some st') :
    OpOK P G st' .junk w (do Instr.storeAt t ya yv; pure Next.skip) := by
  cases a <;> simp only [storeS, reduceCtorEq] at h
  rename_i a off
  simp only [VRel] at ra; obtain ⟨b, h1, rfl⟩ := ra
  split at h
  · rename_i cs hcs
    split at h
    · rename_i hc; cases h
      obtain ⟨c1, c2, c3, c4⟩ := hc
      obtain ⟨b', vs, e, h2, h3, h4⟩ := hR.obj _ _ _ hcs h1
      rw [h1] at h2; cases h2
      have rc := cells_rel c1 rv
      have hl := rc.length
      have hl4 := h4.length
      refine OpOK.unit ?_ (.refl _) (put_cells hR off hcs h1 h3 h4 rc)
      have hsz : yv.cells.size = sz := by simp at hl; omega
      simp only [Instr.storeAt, Instr.sureAddr, Sem.run_bind, Sem.run_pure, Result.andThen_ok, storeVar, run_sizeOf_of hs, hsz, ne_eq, not_true_eq_false, if_false]
      exact run_storeCells yv.cells.toList 0 w b off vs e h3 (ones_rel c2 rc) (by simp at *; omega)
    · cases h
  · rename_i cs hcs
    split at h
    · rename_i hc; cases h
      obtain ⟨c1, c2, c3, c4⟩ := hc
      obtain ⟨b', vs, e, h2, h3, h5, h4⟩ := hR.obj _ _ _ hcs h1
      rw [h1] at h2; cases h2
      have rc := cells_rel c1 rv
      have hl := rc.length
      refine OpOK.unit ?_ (.refl _) (put_vec hR off hcs h1 h3 h5 h4 rc (by omega))
      have hsz : yv.cells.size = sz := by simp at hl; omega
      simp only [Instr.storeAt, Instr.sureAddr, Sem.run_bind, Sem.run_pure, Result.andThen_ok, storeVar, run_sizeOf_of hs, hsz, ne_eq, not_true_eq_false, if_false]
      exact run_storeCells yv.cells.toList 0 w b off vs e h3 (ones_rel c2 rc) (by simp at *; omega)
    · cases h
  · cases h

/-! ### new variables -/
theorem new_cells (hR : Rel P G st w) {cs : List AV} {vs : Array Value} (t : TypeId) (hv : VRels G cs vs.toList) :
    ∃ G', G.le G' ∧ Rel P G' (st.alloc (.cells cs)) (w.alloc (.cells vs t)) ∧ G'.mu st.next = some w.heap.size := by
  obtain ⟨G', h1, h2, h3, _⟩ := hR.alloc_obj (.cells cs) (.cells vs t) (by intro l s e; cases e) (fun G' hle hmu => ⟨_, vs, t, hmu, World.alloc_heap_new _ _, hv.mono hle⟩)
  exact ⟨G', h1, h2, h3⟩

theorem ok_alloc {t : TypeId} {z : List AV} (hz : tzero P t = some z) (hR : Rel P G st w) : OpOK P G (st.alloc (.cells z)) (.ptr st.next 0) w (do pure (Next.value (← Instr.alloc t true (.tuple #[])))) := by
  obtain ⟨v, i, _, _, _, h1, h2⟩ := tzero_run hz
  obtain ⟨G', g1, g2, g3⟩ := new_cells hR t (h2 G)
  refine OpOK.val (y := .pointer (some ⟨w.heap.size, 0, none⟩)) ?_ g1 g2 (by simp [VRel, g3])
  simp [Instr.alloc, h1, newVar, newRow]

theorem ok_box {t : TypeId} {v : AV} {y : Value} (hv : v.boxable = true) (hR : Rel P G st w) (r : VRel G v y) : OpOK P G (st.alloc (.cells v.cells)) (.ptr st.next 0) w (do pure (Next.value (← Instr.box t y))) := by
  obtain ⟨G', g1, g2, g3⟩ := new_cells hR t (cells_rel hv r)
  refine OpOK.val (y := .pointer (some ⟨w.heap.size, 0, none⟩)) ?_ g1 g2 (by simp [VRel, g3])
  simp [Instr.box, newVar, newRow]

/-! ### iterators over strings -/
theorem ok_srange {t : TypeId} {s : ByteArray} {y : Value} (ht : P.underlying t = some .string) (hR : Rel P G st w) (r : VRel G (.v (.string s)) y) : OpOK P G (st.alloc (.sit s 0)) (.ptr st.next 0) w (do pure (Next.value (← Instr.range t y))) := by
  simp only [VRel] at r; subst r
  obtain ⟨G', h1, h2, h3, _⟩ := hR.alloc_obj (.sit s 0) (.stringIter s 0) (by intro l s e; cases e) (fun G' hle hmu => ⟨_, hmu, World.alloc_heap_new _ _⟩)
  refine OpOK.val (y := .pointer (some ⟨w.heap.size, 0, none⟩)) ?_ h1 h2 (by simp [VRel, h3])
  simp [Instr.range, run_underlying_of ht]

theorem ok_snext {ty : TypeId} {s : ByteArray} {a pos : Nat} {y : Value} (hR : Rel P G st w) (r : VRel G (.ptr a 0) y) (hs : st.get a = some (.sit s pos)) :
    (pos < s.size → OpOK P G (st.set a (.sit s (pos + (Utf8.decode s pos).2))) (.tup [.bool true, .int pos, .v (.int .i32 (Utf8.decode s pos).1)]) w (do pure (Next.value (← Instr.next y true ty)))) ∧
    (¬ pos < s.size → OpOK P G st (.tup [.bool false]) w (do pure (Next.value (← Instr.next y true ty)))) := by
  simp only [VRel] at r; obtain ⟨b, hmu, rfl⟩ := r
  obtain ⟨b', q1, q2⟩ := hR.obj _ _ _ hs hmu
  rw [hmu] at q1; cases q1
  have hb := (Array.getElem?_eq_some_iff.1 q2).1
  have hg : (getObj b).run P w = .ok (.stringIter s pos) w := by simp [getObj, Sem.run, q2]
  have hset : ∀ o, (setObj b o).run P w = .ok () (w.putObj b o) := fun o => by simp [setObj, Sem.run, q2, World.putObj]
  constructor
  · intro hp
    refine OpOK.val (y := .tuple #[.bool true, goInt pos, .int .i32 (Utf8.decode s pos).1]) ?_ (.refl _) (hR.put_obj (.sit s (pos + (Utf8.decode s pos).2)) (.stringIter s (pos + (Utf8.decode s pos).2)) hmu (by intro l s e; cases e) ⟨b, hmu, World.putObj_heap_same hb⟩ (fun rec e => by rw [q2] at e; cases e) (fun x e => by rw [q2] at e; cases e)) ?_
    · simp [Instr.next, hg, hset, hp]
    · simp [VRel, VRels, goInt]
  · intro hp
    refine OpOK.val (y := .tuple #[.bool false]) ?_ (.refl _) hR (by simp [VRel, VRels])
    simp [Instr.next, hg, hp]

/-! ### build -/
theorem foldl_splice (vs : Array Value) : ∀ (us : List Value) (k off : Nat) (cs : Array Value), off + k + us.length ≤ cs.size →
    ((us.zipIdx k).foldl (fun cs (c, j) => cs.setIfInBounds (off + j) c) cs).toList = splice cs.toList (off + k) us
  | [], k, off, cs, _ => by simp [splice_nil]
  | u :: us, k, off, cs, h => by
    simp only [List.length_cons] at h
    simp only [List.zipIdx_cons, List.foldl_cons]
    rw [foldl_splice vs us (k + 1) off _ (by simp; omega), splice_cons (by simp; omega)]
    simp [Nat.add_assoc]

theorem fill_rel {G : Gh} {N : Nat} {fr : Nat → AV} {a : Act} (hF : FrRel G N fr a.tmps) (pl : Nat → Option (Nat × Nat)) : ∀ (parts : List (Nat × Operand)) (ps : List (Nat × Nat × Opd)) (cs cs' : List AV) (vs : Array Value),
    compParts pl parts = some ps → fillA (·.ev fr) cs ps = some cs' → VRels G cs vs.toList →
    ∃ vs', Instr.fill pl vs (parts.map fun (i, x) => (i, a.eval x)) = some vs' ∧ VRels G cs' vs'.toList
  | [], ps, cs, cs', vs, h1, h2, h3 => by
    simp only [compParts, Option.some.injEq] at h1; subst h1
    simp only [fillA, Option.some.injEq] at h2; subst h2
    exact ⟨vs, rfl, h3⟩
  | (i, o) :: parts, ps, cs, cs', vs, h1, h2, h3 => by
    simp only [compParts] at h1
    split at h1
    · rename_i off sz o' r e1 e2 e3; cases h1
      simp only [fillA] at h2
      split at h2
      · rename_i hc
        obtain ⟨c1, c2, c3⟩ := hc
        have rv := opd_rel (a := a) e2 hF
        have rc := cells_rel c1 rv
        have hl := rc.length; have hl3 := h3.length
        have hsz : (a.eval o).cells.size = sz := by simp at hl; omega
        have hoff : off + sz ≤ vs.size := by simp at hl3; omega
        obtain ⟨vs', g1, g2⟩ := fill_rel hF pl parts r _ cs' ((a.eval o).cells.zipIdx.foldl (fun cs (c, j) => cs.setIfInBounds (off + j) c) vs) e3 h2 (by
          rw [← Array.foldl_toList, Array.toList_zipIdx, foldl_splice vs _ 0 off vs (by simp; omega)]
          exact h3.splice rc off)
        refine ⟨vs', ?_, g2⟩
        simp only [List.map_cons, Instr.fill, e1]
        rw [if_neg (by simp [hsz]; omega)]
        exact g1
      · cases h2
    · cases h1

theorem mapM_some_get {α β : Type} (f : α → Sem β) (g : α → Option β) (hfg : ∀ a b, g a = some b → ∀ w, (f a).run P w = .ok b w) : ∀ (l : List α) (l' : List β), l.mapM g = some l' → ∀ w, (l.mapM f).run P w = .ok l' w
  | [], l', h, w => by simp at h; subst h; simp
  | a :: l, l', h, w => by
    simp only [List.mapM_cons, Option.bind_eq_bind, Option.bind_eq_some_iff, Option.pure_def, Option.some.injEq] at h
    obtain ⟨b, h1, l'', h2, rfl⟩ := h
    simp [List.mapM_cons, hfg a b h1, mapM_some_get f g hfg l l'' h2]

end
end Go.EF
end

section
namespace Go.EF
open Go Go.RowKit

section
variable {P : Program} {G : Gh} {st : St} {w : World} {x : AV}

theorem rep_length {α : Type} (z : List α) (n : Nat) : (rep z n).length = n * z.length := by
  induction n with
  | zero => simp [rep]
  | succ n ih => simp only [rep, List.length_append, ih, Nat.add_mul]; omega

theorem rep_get {α : Type} (z : List α) (hz : 0 < z.length) : ∀ (n i : Nat), i < n * z.length → (rep z n)[i]? = z[i % z.length]?
  | 0, i, h => by simp at h
  | n + 1, i, h => by
    simp only [rep, List.getElem?_append]
    rw [Nat.add_mul] at h
    by_cases hi : i < z.length
    · rw [if_pos hi, Nat.mod_eq_of_lt hi]
    · rw [if_neg hi, rep_get z hz n _ (by omega)]
      congr 1
      rw [← Nat.mod_eq_sub_mod (by omega)]

theorem zeros_eq (z : Array Value) (hz : 0 < z.size) (n : Nat) : ((Array.range (n * z.size)).map (fun i => z[i % z.size]!)).toList = rep z.toList n := by
  apply List.ext_getElem?
  intro i
  by_cases hi : i < n * z.size
  · rw [rep_get z.toList (by simpa using hz) n i (by simpa using hi)]
    have hm : i % z.size < z.size := Nat.mod_lt _ hz
    simp [hi, hm]
  · rw [List.getElem?_eq_none (by simp; omega), List.getElem?_eq_none (by rw [rep_length]; simp; omega)]

theorem ok_build_struct {t : TypeId} {fields : Array Field} {z cs : List AV} {places : List (Nat × Nat)} {parts : Array (Nat × Operand)} {ps : List (Nat × Nat × Opd)} {N : Nat} {fr : Nat → AV} {a : Act}
    (hu : P.underlying t = some (.struct fields)) (hz : tzero P t = some z) (hp : fields.toList.mapM (fun f => (tsize P f.type).map fun s => (f.offset, s)) = some places)
    (hc : compParts (fun i : Nat => places[i]?) parts.toList = some ps) (hF : FrRel G N fr a.tmps) (hR : Rel P G st w) (h : fillA (·.ev fr) z ps = some cs) :
    OpOK P G st (.agg cs) w (do pure (Next.value (← Instr.build t (parts.map fun (i, x) => (i, a.eval x))))) := by
  obtain ⟨v, i, h1, h2, h3, h4, h5⟩ := tzero_run hz
  obtain ⟨vs, g1, g2⟩ := fill_rel hF _ parts.toList ps z cs v.cells hc h (h5 G)
  refine OpOK.same (y := .agg vs) ?_ hR (by simp only [VRel]; exact ⟨_, rfl, g2⟩)
  have hm : ∀ w, (fields.mapM fun f => (do pure (f.offset, ← sizeOf f.type) : Sem (Nat × Nat))).run P w = .ok places.toArray w := fun w => by
    rw [Array.mapM_eq_mapM_toList, Sem.run_map, mapM_some_get (P := P) _ _ (fun f b e w => ?_) _ _ hp w]
    · rfl
    · rw [Option.map_eq_some_iff] at e; obtain ⟨s, e1, rfl⟩ := e
      simp [run_sizeOf_of e1]
  have g1' : Instr.fill (fun x : Nat => places[x]?) v.cells (List.map (fun x => (x.fst, a.eval x.snd)) parts.toList) = some vs := g1
  simp only [Instr.build, Sem.run_bind, h4, run_underlying_of hu, hm, Result.andThen_ok, Array.toList_map, List.getElem?_toArray]
  rw [g1']; rfl

theorem ok_build_array {t : TypeId} {n s : Nat} {e : TypeId} {z cs : List AV} {parts : Array (Nat × Operand)} {ps : List (Nat × Nat × Opd)} {N : Nat} {fr : Nat → AV} {a : Act}
    (hu : P.underlying t = some (.array n e)) (hz : tzero P t = some z) (hs : tsize P e = some s)
    (hc : compParts (fun i => some (i * s, s)) parts.toList = some ps) (hF : FrRel G N fr a.tmps) (hR : Rel P G st w) (h : fillA (·.ev fr) z ps = some cs) :
    OpOK P G st (.agg cs) w (do pure (Next.value (← Instr.build t (parts.map fun (i, x) => (i, a.eval x))))) := by
  obtain ⟨v, i, h1, h2, h3, h4, h5⟩ := tzero_run hz
  obtain ⟨vs, g1, g2⟩ := fill_rel hF _ parts.toList ps z cs v.cells hc h (h5 G)
  refine OpOK.same (y := .agg vs) ?_ hR (by simp only [VRel]; exact ⟨_, rfl, g2⟩)
  have g1' : Instr.fill (fun i => some (i * s, s)) v.cells (List.map (fun x => (x.fst, a.eval x.snd)) parts.toList) = some vs := g1
  simp [Instr.build, h4, run_underlying_of hu, run_sizeOf_of hs, g1']

theorem list_rel {G' : Gh} {own : Own} {cs : List AV} {n cap b o : Nat} {ys : List Value} (hv : VRels G' cs ys) (hf : FzAt G' b o ys) (hn : n ≤ cap) (ho : OwnRel G' (some ⟨b, o, none⟩) n cap own) :
    VRel G' (.list own cs n) (.slice (some ⟨b, o, none⟩) n cap) := by
  simp only [VRel]
  exact ⟨_, _, rfl, hn, ho, ys, hv, fun _ => ⟨b, o, rfl, hf⟩⟩

theorem ok_lit {t e : TypeId} {n s : Nat} {z cs : List AV} {parts : Array (Nat × Operand)} {ps : List (Nat × Nat × Opd)} {N : Nat} {fr : Nat → AV} {a : Act}
    (hu : P.underlying t = some (.slice e)) (hz : tzero P e = some z) (hs : tsize P e = some s) (hn : n * s ≤ 2 ^ 24 ∧ 0 < s)
    (hc : compParts (fun i => some (i * s, s)) parts.toList = some ps) (hF : FrRel G N fr a.tmps) (hR : Rel P G st w) (h : fillA (·.ev fr) (rep z n) ps = some cs) :
    OpOK P G st (.list .exact cs n) w (do pure (Next.value (← Instr.buildSlice t n (parts.map fun (i, x) => (i, a.eval x))))) := by
  obtain ⟨v, i, h1, h2, h3, h4, h5⟩ := tzero_run hz
  have hi : i.size = s := by unfold tsize at hs; rw [h1] at hs; simpa using hs
  have hvs : v.cells.size = s := by omega
  have hzero : VRels G (rep z n) (if n * s = 0 then (#[] : Array Value) else (Array.range (n * s)).map fun i => v.cells[i % v.cells.size]!).toList := by
    split
    · have : n = 0 := by
        rcases Nat.mul_eq_zero.1 ‹_› with h | h
        · exact h
        · omega
      subst this; simp [rep, VRels]
    · have := zeros_eq v.cells (by omega) n
      rw [hvs] at this ⊢; rw [this]; exact (h5 G).rep n
  obtain ⟨vs, g1, g2⟩ := fill_rel hF _ parts.toList ps (rep z n) cs _ hc h hzero
  obtain ⟨G', k1, k2, k3, _⟩ := hR.alloc_frozen vs e vs.size
  refine OpOK.val (y := .slice (some ⟨w.heap.size, 0, none⟩) n n) ?_ k1 k2 (list_rel (g2.mono k1) (by rw [List.take_of_length_le (by simp)] at k3; exact k3) (Nat.le_refl _) rfl)
  have g1' : Instr.fill (fun i => some (i * s, s)) (if n * s = 0 then (#[] : Array Value) else (Array.range (n * s)).map fun i => v.cells[i % v.cells.size]!) (List.map (fun x => (x.fst, a.eval x.snd)) parts.toList) = some vs := g1
  simp only [Instr.buildSlice, Sem.run_bind, run_underlying_of hu, Result.andThen_ok, run_sizeOf_of hs]
  rw [if_neg (by omega)]
  by_cases h0 : n * s = 0
  · rw [if_pos h0] at g1'
    have e0 : (Array.range 0).map (fun i => (#[] : Array Value)[i % (#[] : Array Value).size]!) = #[] := Array.eq_empty_of_size_eq_zero (by simp)
    simp only [h0, if_true, pure_bind]
    rw [e0]
    rw [show (Array.map (fun x => (x.fst, a.eval x.snd)) parts).toList = List.map (fun x => (x.fst, a.eval x.snd)) parts.toList from by simp, g1']
    simp [newRow]
  · rw [if_neg h0] at g1'
    simp [h0, h4, newRow, g1']

/-! ### what touches no memory -/
theorem eqGuard_ops (op : BinOp) (t : TypeId) (x y x' y' : Operand) (a b : Value) (h : a ≠ .nilIface) : eqGuard op t x y a b = eqGuard op t x' y' a b := by
  unfold eqGuard
  cases a <;> first | exact absurd rfl h | (cases b <;> rfl)

theorem ok_bin {op : BinOp} {t : TypeId} {x y : Operand} {ax ay r : AV} {vx vy : Value} (hR : Rel P G st w) (rx : VRel G ax vx) (ry : VRel G ay vy) (h : binV P op t ax ay = some r) :
    OpOK P G st r w (do pure (Next.value (← (do eqGuard op t x y vx vy; binOp op t vx vy)))) := by
  unfold binV at h
  cases e1 : ax.toV with
  | none => rw [e1] at h; simp at h
  | some a =>
    cases e2 : ay.toV with
    | none => rw [e1, e2] at h; cases a <;> simp at h
    | some b =>
      rw [e1, e2] at h
      by_cases ha : a = .nilIface
      · subst ha; simp at h
      · have h' : (evSem P (do eqGuard op t (.const (.nilIface)) (.const (.nilIface)) a b; binOp op t a b)).map .v = some r := by
          cases a <;> first | exact absurd rfl ha | exact h
        rw [Option.map_eq_some_iff] at h'
        obtain ⟨v, h1, rfl⟩ := h'
        have hx := toV_rel e1 rx; have hy := toV_rel e2 ry
        subst hx; subst hy
        refine OpOK.same (y := v) ?_ hR (by simp [VRel])
        have := evSem_run _ h1 w
        rw [eqGuard_ops op t _ _ x y _ _ ha] at this
        exact this

theorem ok_un {op : UnOp} {ax : AV} {vx v r : Value} (hR : Rel P G st w) (rx : VRel G ax vx) (hv : ax.toV = some v) (h : evSem P (Op.unary op v) = some r) :
    OpOK P G st (.v r) w (do pure (Next.value (← Op.unary op vx))) := by
  have := toV_rel hv rx; subst this
  exact OpOK.same (evSem_run _ h w) hR (by simp [VRel])

theorem ok_conv {k j : IntKind} {n : Int} {vx : Value} {s d : TypeId} (hR : Rel P G st w) (hu : P.underlying d = some (.int k)) (hs : ∃ e, P.underlying s = some e) (rx : VRel G (.v (.int j n)) vx) :
    OpOK P G st (.v (.int k (k.wrap n))) w (do pure (Next.value (← convert s d vx))) := by
  simp only [VRel] at rx; subst rx
  obtain ⟨e, he⟩ := hs
  refine OpOK.same (y := .int k (k.wrap n)) ?_ hR (by simp [VRel])
  simp only [convert, Sem.run_bind, run_underlying_of he, run_underlying_of hu, Result.andThen_ok]
  cases e <;> rfl

theorem ok_pick {c a b : AV} {vc va vb : Value} {t : Bool} (hR : Rel P G st w) (rc : VRel G c vc) (ra : VRel G a va) (rb : VRel G b vb) (hc : c = .v (.bool t)) :
    OpOK P G st (if t then a else b) w (do pure (Next.value (if ← asBool vc then va else vb))) := by
  subst hc; simp only [VRel] at rc; subst rc
  cases t
  · exact ⟨.value vb, vb, w, G, by simp [asBool], .inl rfl, .refl _, hR, rb⟩
  · exact ⟨.value va, va, w, G, by simp [asBool], .inl rfl, .refl _, hR, ra⟩

end
end Go.EF
end

section
namespace Go.EF
open Go Go.RowKit

section
variable {P : Program} {G : Gh} {st : St} {w : World} {x : AV}

theorem zeros_eq' (z : Array Value) (s : Nat) (hs : z.size = s) (h : 0 < s) (n : Nat) : ((Array.range (n * s)).map (fun i => z[i % z.size]!)).toList = rep z.toList n := by
  subst hs; exact zeros_eq z h n

theorem intOf_rel {x : AV} {y : Value} {i : Int} (h : intOf? x = some i) (r : VRel G x y) : ∃ k, y = .int k i := by
  unfold intOf? at h
  split at h
  · cases h; simp only [VRel] at r; exact ⟨_, r⟩
  · cases h

theorem run_bound {y : Value} {i : Int} {k : IntKind} (hy : y = .int k i) {m : Nat} (h : 0 ≤ i ∧ i ≤ m) (code : BoundsCode) (w : World) : (Instr.sliceBound y m code).run P w = .ok i.toNat w := by
  subst hy; simp [Instr.sliceBound, asIntOf, h.1, h.2]

def OptRel (G : Gh) (ρ : Opd → AV) : Option Opd → Option Value → Prop
  | none, none => True
  | some o, some y => VRel G (ρ o) y
  | _, _ => False

theorem run_bounds {ρ : Opd → AV} {lo hi mx : Option Opd} {ylo yhi ymx : Option Value} (r1 : OptRel G ρ lo ylo) (r2 : OptRel G ρ hi yhi) (r3 : OptRel G ρ mx ymx) {n cap l h m : Nat} (e : boundsOf ρ n cap lo hi mx = some (l, h, m)) (b : Bool) (w : World) :
    (Instr.sliceBounds b n cap ylo yhi ymx).run P w = .ok (l, h, m) w := by
  unfold boundsOf at e
  simp only at e
  cases mx with
  | none =>
    cases ymx with
    | some _ => simp [OptRel] at r3
    | none =>
      simp only at e
      cases hi with
      | none =>
        cases yhi with
        | some _ => simp [OptRel] at r2
        | none =>
          simp only at e
          cases lo with
          | none =>
            cases ylo with
            | some _ => simp [OptRel] at r1
            | none => simp only [Option.some.injEq, Prod.mk.injEq] at e; obtain ⟨rfl, rfl, rfl⟩ := e; simp [Instr.sliceBounds]
          | some lo =>
            cases ylo with
            | none => simp [OptRel] at r1
            | some ylo =>
              simp only [OptRel] at r1
              simp only at e
              split at e
              · rename_i i hi
                split at e
                · rename_i hc
                  simp only [Option.some.injEq, Prod.mk.injEq] at e; obtain ⟨rfl, rfl, rfl⟩ := e
                  obtain ⟨k, hk⟩ := intOf_rel hi r1
                  simp [Instr.sliceBounds, run_bound hk hc]
                · cases e
              · cases e
      | some hi =>
        cases yhi with
        | none => simp [OptRel] at r2
        | some yhi =>
          simp only [OptRel] at r2
          simp only at e
          split at e
          · cases e
          · rename_i h' hh
            split at hh
            · rename_i i hi'
              split at hh
              · rename_i hc; cases hh
                obtain ⟨k, hk⟩ := intOf_rel hi' r2
                cases lo with
                | none =>
                  cases ylo with
                  | some _ => simp [OptRel] at r1
                  | none => simp only [Option.some.injEq, Prod.mk.injEq] at e; obtain ⟨rfl, rfl, rfl⟩ := e; simp [Instr.sliceBounds, run_bound hk hc]
                | some lo =>
                  cases ylo with
                  | none => simp [OptRel] at r1
                  | some ylo =>
                    simp only [OptRel] at r1
                    simp only at e
                    split at e
                    · rename_i i' hi''
                      split at e
                      · rename_i hc'
                        simp only [Option.some.injEq, Prod.mk.injEq] at e; obtain ⟨rfl, rfl, rfl⟩ := e
                        obtain ⟨k', hk'⟩ := intOf_rel hi'' r1
                        simp [Instr.sliceBounds, run_bound hk hc, run_bound hk' hc']
                      · cases e
                    · cases e
              · cases hh
            · cases hh
  | some mx =>
    cases ymx with
    | none => simp [OptRel] at r3
    | some ymx =>
      simp only [OptRel] at r3
      simp only at e
      split at e
      · cases e
      · rename_i m' hm
        split at hm
        · rename_i i hi'
          split at hm
          · rename_i hc; cases hm
            obtain ⟨k, hk⟩ := intOf_rel hi' r3
            cases hi with
            | none => simp at e
            | some hi =>
              cases yhi with
              | none => simp [OptRel] at r2
              | some yhi =>
                simp only [OptRel] at r2
                simp only at e
                split at e
                · cases e
                · rename_i h' hh
                  split at hh
                  · rename_i j hj
                    split at hh
                    · rename_i hc2; cases hh
                      obtain ⟨k2, hk2⟩ := intOf_rel hj r2
                      cases lo with
                      | none =>
                        cases ylo with
                        | some _ => simp [OptRel] at r1
                        | none => simp only [Option.some.injEq, Prod.mk.injEq] at e; obtain ⟨rfl, rfl, rfl⟩ := e; simp [Instr.sliceBounds, run_bound hk hc, run_bound hk2 hc2]
                      | some lo =>
                        cases ylo with
                        | none => simp [OptRel] at r1
                        | some ylo =>
                          simp only [OptRel] at r1
                          simp only at e
                          split at e
                          · rename_i i' hi''
                            split at e
                            · rename_i hc'
                              simp only [Option.some.injEq, Prod.mk.injEq] at e; obtain ⟨rfl, rfl, rfl⟩ := e
                              obtain ⟨k', hk'⟩ := intOf_rel hi'' r1
                              simp [Instr.sliceBounds, run_bound hk hc, run_bound hk2 hc2, run_bound hk' hc']
                            · cases e
                          · cases e
                    · cases hh
                  · cases hh
          · cases hm
        · cases hm

theorem bounds_le {ρ : Opd → AV} {lo hi mx : Option Opd} {n cap l h m : Nat} (e : boundsOf ρ n cap lo hi mx = some (l, h, m)) (hn : n ≤ cap) : l ≤ h ∧ h ≤ m ∧ m ≤ cap := by
  unfold boundsOf at e
  simp only at e
  split at e
  · cases e
  · rename_i m' hm
    have hmc : m' ≤ cap ∧ (mx = none → m' = cap) := by
      cases mx with
      | none => simp at hm; omega
      | some o =>
        simp only at hm
        split at hm
        · split at hm
          · cases hm; constructor
            · omega
            · intro e; cases e
          · cases hm
        · cases hm
    split at e
    · cases e
    · rename_i h' hh
      have hhm : h' ≤ m' := by
        split at hh
        · cases hh; have := hmc.2 rfl; omega
        · cases hh
        · split at hh
          · split at hh
            · cases hh; omega
            · cases hh
          · cases hh
      split at e
      · cases e; omega
      · split at e
        · split at e
          · cases e; omega
          · cases e
        · cases e

theorem ok_slicearr {t e : TypeId} {n s : Nat} {ρ : Opd → AV} {x : AV} {lo hi : Option Opd} {yx : Value} {ylo yhi : Option Value} {l h m : Nat} {r : AV} (hu : P.underlying t = some (.array n e)) (hs : tsize P e = some s)
    (hR : Rel P G st w) (rx : VRel G x yx) (r1 : OptRel G ρ lo ylo) (r2 : OptRel G ρ hi yhi) (hb : boundsOf ρ n n lo hi none = some (l, h, m))
    (hr : (∃ a off, x = .ptr a off ∧ r = .ms a (if m = l then off else off + l * s) (h - l) (m - l)) ∨
      (∃ cs off, x = .lptr cs off ∧ off + n * s ≤ cs.length ∧ r = .list .any ((cs.drop (off + l * s)).take ((h - l) * s)) (h - l))) :
    OpOK P G st r w (do pure (Next.value (← Instr.sliceAt t yx ylo yhi none))) := by
  have hrun := fun w => run_bounds (P := P) (G := G) r1 r2 (mx := none) (ymx := none) trivial hb false w
  have hle := bounds_le hb (Nat.le_refl _)
  rcases hr with ⟨a, off, rfl, rfl⟩ | ⟨cs, off, rfl, hlen, rfl⟩
  · simp only [VRel] at rx; obtain ⟨b, h1, rfl⟩ := rx
    refine OpOK.same (y := .slice (some ⟨b, if m = l then off else off + l * s, none⟩) (h - l) (m - l)) ?_ hR (by simp [VRel, h1])
    simp only [Instr.sliceAt, Sem.run_bind, run_underlying_of hu, Result.andThen_ok, Instr.sureAddr, Sem.run_pure, hrun, run_sizeOf_of hs, add_none]
    split <;> rfl
  · simp only [VRel] at rx; obtain ⟨b, o, ys, rfl, h2, h3⟩ := rx
    have hl3 := h3.length
    refine OpOK.same (y := .slice (some ⟨b, if m = l then o + off else o + off + l * s, none⟩) (h - l) (m - l)) ?_ hR ?_
    · simp only [Instr.sliceAt, Sem.run_bind, run_underlying_of hu, Result.andThen_ok, Instr.sureAddr, Sem.run_pure, hrun, run_sizeOf_of hs, add_none]
      split <;> rfl
    · simp only [VRel]
      refine ⟨_, _, rfl, by omega, trivial, _, (h3.drop _).take _, fun hne => ⟨b, _, rfl, ?_⟩⟩
      intro i y e
      rw [List.getElem?_take] at e
      split at e
      · rename_i hi
        rw [List.getElem?_drop] at e
        have hml : m ≠ l := by
          intro eml
          have : h - l = 0 := by omega
          rw [this] at hi; omega
        rw [if_neg hml]
        have := h2 _ _ e
        rw [← this]; congr 1; omega
      · cases e

theorem ok_slice_ms {t e : TypeId} {s : Nat} {ρ : Opd → AV} {a off len cap : Nat} {lo hi mx : Option Opd} {yx : Value} {ylo yhi ymx : Option Value} {l h m : Nat} (hu : P.underlying t = some (.slice e)) (hs : tsize P e = some s)
    (hR : Rel P G st w) (rx : VRel G (.ms a off len cap) yx) (r1 : OptRel G ρ lo ylo) (r2 : OptRel G ρ hi yhi) (r3 : OptRel G ρ mx ymx) (hb : boundsOf ρ len cap lo hi mx = some (l, h, m)) :
    OpOK P G st (.ms a (if m = l then off else off + l * s) (h - l) (m - l)) w (do pure (Next.value (← Instr.sliceAt t yx ylo yhi ymx))) := by
  have hrun := fun w => run_bounds (P := P) (G := G) r1 r2 r3 hb true w
  simp only [VRel] at rx; obtain ⟨b, h1, rfl⟩ := rx
  refine OpOK.same (y := .slice (some ⟨b, if m = l then off else off + l * s, none⟩) (h - l) (m - l)) ?_ hR (by simp [VRel, h1])
  simp only [Instr.sliceAt, Instr.slice, Sem.run_bind, run_underlying_of hu, Result.andThen_ok, hrun, run_sizeOf_of hs, Option.map_some, add_none]
  split <;> rfl

theorem ok_slice_list {t e : TypeId} {s n : Nat} {ρ : Opd → AV} {own own' : Own} {cs : List AV} {lo hi mx : Option Opd} {yx : Value} {ylo yhi ymx : Option Value} {l h m : Nat} (hu : P.underlying t = some (.slice e)) (hs : tsize P e = some s)
    (hR : Rel P G st w) (rx : VRel G (.list own cs n) yx) (r1 : OptRel G ρ lo ylo) (r2 : OptRel G ρ hi yhi) (r3 : OptRel G ρ mx ymx) (hb : boundsOf ρ n n lo hi mx = some (l, h, m)) (hl : cs.length = n * s)
    (ho : own' = (if mx.isSome ∧ m = h then .exact else if mx.isNone ∧ l = 0 ∧ h = n then own else .any)) :
    OpOK P G st (.list own' ((cs.drop (l * s)).take ((h - l) * s)) (h - l)) w (do pure (Next.value (← Instr.sliceAt t yx ylo yhi ymx))) := by
  have hle := bounds_le hb (Nat.le_refl _)
  simp only [VRel] at rx; obtain ⟨base, cap, rfl, hnc, hown, ys, hv, hf⟩ := rx
  have hlen := hv.length
  -- the machine's room is cap, not n: its third bound
  obtain ⟨m', hb', hm'⟩ : ∃ m', boundsOf ρ n cap lo hi mx = some (l, h, m') ∧ (mx.isSome → m' = m) ∧ (mx.isNone → m' = cap) ∧ h ≤ m' := by
    unfold boundsOf at hb ⊢
    simp only at hb ⊢
    cases mx with
    | none =>
      simp only at hb ⊢
      cases hi with
      | none =>
        simp only at hb ⊢
        cases lo with
        | none => simp only [Option.some.injEq, Prod.mk.injEq] at hb ⊢; obtain ⟨rfl, rfl, rfl⟩ := hb; exact ⟨cap, ⟨rfl, rfl, rfl⟩, by simp, by simp, by omega⟩
        | some lo =>
          simp only at hb ⊢
          split at hb
          · split at hb
            · simp only [Option.some.injEq, Prod.mk.injEq] at hb; obtain ⟨rfl, rfl, rfl⟩ := hb
              rename_i i hi hc; exact ⟨cap, by rw [if_pos hc], by simp, by simp, by omega⟩
            · cases hb
          · cases hb
      | some hi =>
        simp only at hb ⊢
        split at hb
        · cases hb
        · rename_i h' hh
          split at hh
          · split at hh
            · rename_i i hi' hc
              cases hh
              have hc2 : 0 ≤ i ∧ i ≤ cap := by omega
              rw [if_pos hc2]; simp only
              cases lo with
              | none => simp only [Option.some.injEq, Prod.mk.injEq] at hb ⊢; obtain ⟨rfl, rfl, rfl⟩ := hb; exact ⟨cap, ⟨rfl, rfl, rfl⟩, by simp, by simp, by omega⟩
              | some lo =>
                simp only at hb ⊢
                split at hb
                · split at hb
                  · simp only [Option.some.injEq, Prod.mk.injEq] at hb; obtain ⟨rfl, rfl, rfl⟩ := hb
                    rename_i j hj hcj; exact ⟨cap, by rw [if_pos hcj], by simp, by simp, by omega⟩
                  · cases hb
                · cases hb
            · cases hh
          · cases hh
    | some mx =>
      simp only at hb ⊢
      split at hb
      · cases hb
      · rename_i m'' hm''
        split at hm''
        · split at hm''
          · rename_i i hi' hc
            cases hm''
            have hc2 : 0 ≤ i ∧ i ≤ cap := by omega
            rw [if_pos hc2]; simp only
            have : m = i.toNat := by
              split at hb
              · cases hb
              · split at hb
                · cases hb; rfl
                · split at hb
                  · split at hb
                    · cases hb; rfl
                    · cases hb
                  · cases hb
            refine ⟨m, by rw [← this]; rw [← this] at hb; exact hb, fun _ => rfl, (fun e => by cases e), by omega⟩
          · cases hm''
        · cases hm''
  have hrun := fun w => run_bounds (P := P) (G := G) r1 r2 r3 hb' true w
  refine OpOK.same (y := .slice (if m' = l then base else base.map (·.add (l * s))) (h - l) (m' - l)) ?_ hR ?_
  · simp only [Instr.sliceAt, Instr.slice, Sem.run_bind, run_underlying_of hu, Result.andThen_ok, hrun, run_sizeOf_of hs]
    split <;> rfl
  · simp only [VRel]
    have hml : ∀ hh : ((ys.drop (l * s)).take ((h - l) * s)) ≠ [], m' ≠ l ∧ ys ≠ [] := fun hh => ⟨fun eml => hh (by
      have : h - l = 0 := by omega
      rw [this]; simp), fun e => hh (by subst e; simp)⟩
    refine ⟨_, _, rfl, by omega, ?_, _, (hv.drop _).take _, fun hne => ?_⟩
    · by_cases hc : mx.isSome = true ∧ m = h
      · rw [if_pos hc] at ho; subst ho; have := hm'.1 hc.1; simp only [OwnRel]; omega
      · rw [if_neg hc] at ho
        by_cases hc' : mx.isNone = true ∧ l = 0 ∧ h = n
        · rw [if_pos hc'] at ho; subst ho
          obtain ⟨c1, c2, c3⟩ := hc'
          have e3 := hm'.2.1 c1
          subst c2; subst c3; subst e3
          have e4 : (if m' = 0 then base else base.map (·.add (0 * s))) = base := by
            by_cases hz : m' = 0
            · rw [if_pos hz]
            · rw [if_neg hz]; cases base <;> simp [Addr.add]
          rw [e4]
          simpa using hown
        · rw [if_neg hc'] at ho; subst ho; trivial
    · obtain ⟨b, o, e1, e2⟩ := hf (hml hne).2
      refine ⟨b, o + l * s, by rw [if_neg (hml hne).1, e1]; simp [add_none], fun i y e => ?_⟩
      rw [List.getElem?_take] at e
      split at e
      · rw [List.getElem?_drop] at e
        have := e2 _ _ e
        rw [← this]; congr 1; omega
      · cases e

theorem ok_slicestr {t : TypeId} {ρ : Opd → AV} {b : ByteArray} {lo hi : Option Opd} {yx : Value} {ylo yhi : Option Value} {l h m : Nat} (hu : P.underlying t = some .string)
    (hR : Rel P G st w) (rx : VRel G (.v (.string b)) yx) (r1 : OptRel G ρ lo ylo) (r2 : OptRel G ρ hi yhi) (hb : boundsOf ρ b.size b.size lo hi none = some (l, h, m)) :
    OpOK P G st (.v (.string (b.extract l h))) w (do pure (Next.value (← Instr.sliceAt t yx ylo yhi none))) := by
  have hrun := fun w => run_bounds (P := P) (G := G) r1 r2 (mx := none) (ymx := none) trivial hb false w
  simp only [VRel] at rx; subst rx
  refine OpOK.same (y := .string (b.extract l h)) ?_ hR (by simp [VRel])
  simp [Instr.sliceAt, Instr.slice, run_underlying_of hu, hrun]

theorem ok_faddr {t : TypeId} {fields : Array Field} {f : Nat} {fd : Field} {s : Nat} {x r : AV} {yx : Value} (hu : P.underlying t = some (.struct fields)) (hf : fields[f]? = some fd) (hs : tsize P fd.type = some (s + 1))
    (hR : Rel P G st w) (rx : VRel G x yx) (hr : (∃ a o, x = .ptr a o ∧ r = .ptr a (o + fd.offset)) ∨ (∃ cs o, x = .lptr cs o ∧ r = .lptr cs (o + fd.offset))) :
    OpOK P G st r w (do pure (Next.value (← Instr.fieldAt t yx f))) := by
  rcases hr with ⟨a, o, rfl, rfl⟩ | ⟨cs, o, rfl, rfl⟩
  · simp only [VRel] at rx; obtain ⟨b, h1, rfl⟩ := rx
    refine OpOK.same (y := .pointer (some ⟨b, o + fd.offset, none⟩)) ?_ hR (by simp [VRel, h1])
    simp [Instr.fieldAt, run_underlying_of hu, hf, Instr.sureAddr, fieldPlace, run_sizeOf_of hs, add_none]
  · simp only [VRel] at rx; obtain ⟨b, o', ys, rfl, h2, h3⟩ := rx
    refine OpOK.same (y := .pointer (some ⟨b, o' + (o + fd.offset), none⟩)) ?_ hR (by simp only [VRel]; exact ⟨b, o', ys, rfl, h2, h3⟩)
    simp [Instr.fieldAt, run_underlying_of hu, hf, Instr.sureAddr, fieldPlace, run_sizeOf_of hs, add_none, Nat.add_assoc]

theorem part_rel {g : Bool} {cs : List AV} {ys : Array Value} {sz off : Nat} {t : TypeId} (h : getCells cs g sz off = some x) (r : VRels G cs ys.toList) (hg : tagg P t = some g) (hs : tsize P t = some sz) :
    ∃ y, (∀ w, (part t ys off).run P w = .ok y w) ∧ VRel G x y := by
  unfold getCells at h
  cases g with
  | true =>
    simp only [if_true] at h
    split at h
    · rename_i hc; cases h
      refine ⟨.agg (ys.extract off (off + sz)), fun w => by simp [part, run_isAgg_of hg, run_sizeOf_of hs], ?_⟩
      simp only [VRel]
      exact ⟨_, rfl, by rw [extract_list]; exact (r.drop off).take sz⟩
    · cases h
  | false =>
    simp only [Bool.false_eq_true, if_false] at h
    obtain ⟨y, h1, h2⟩ := r.get off x h
    have h1' : ys[off]? = some y := by simpa using h1
    exact ⟨y, fun w => by simp [part, run_isAgg_of hg, h1'], h2⟩

theorem ok_field {t : TypeId} {fields : Array Field} {f : Nat} {fd : Field} {s : Nat} {g : Bool} {cs : List AV} {yx : Value} (hu : P.underlying t = some (.struct fields)) (hf : fields[f]? = some fd) (hg : tagg P fd.type = some g) (hs : tsize P fd.type = some s)
    (hR : Rel P G st w) (rx : VRel G (.agg cs) yx) (h : getCells cs g s fd.offset = some x) : OpOK P G st x w (do pure (Next.value (← Instr.field t yx f))) := by
  simp only [VRel] at rx; obtain ⟨ys, rfl, r⟩ := rx
  obtain ⟨y, h1, h2⟩ := part_rel h r hg hs
  exact OpOK.same (by simp [Instr.field, run_underlying_of hu, hf, asAgg, h1]) hR h2

theorem ok_index {t e : TypeId} {n s : Nat} {g : Bool} {cs : List AV} {yx yi : Value} {xi : AV} {i : Int} (hu : P.underlying t = some (.array n e)) (hg : tagg P e = some g) (hs : tsize P e = some s)
    (hR : Rel P G st w) (rx : VRel G (.agg cs) yx) (ri : VRel G xi yi) (hi : intOf? xi = some i) (hb : 0 ≤ i ∧ i < n) (h : getCells cs g s (i.toNat * s) = some x) : OpOK P G st x w (do pure (Next.value (← Instr.index t yx yi))) := by
  simp only [VRel] at rx; obtain ⟨ys, rfl, r⟩ := rx
  obtain ⟨k, rfl⟩ := intOf_rel hi ri
  obtain ⟨y, h1, h2⟩ := part_rel h r hg hs
  exact OpOK.same (by simp [Instr.index, asIntOf, run_underlying_of hu, hb.1, hb.2, run_sizeOf_of hs, h1]) hR h2

theorem ok_indexstr {t : TypeId} {b : ByteArray} {yx yi : Value} {xi : AV} {i : Int} {c : UInt8} (hu : P.underlying t = some .string)
    (hR : Rel P G st w) (rx : VRel G (.v (.string b)) yx) (ri : VRel G xi yi) (hi : intOf? xi = some i) (hb : 0 ≤ i) (h : b[i.toNat]? = some c) : OpOK P G st (.v (.int .u8 c.toNat)) w (do pure (Next.value (← Instr.index t yx yi))) := by
  simp only [VRel] at rx; subst rx
  obtain ⟨k, rfl⟩ := intOf_rel hi ri
  exact OpOK.same (y := .int .u8 c.toNat) (by simp [Instr.index, asIntOf, run_underlying_of hu, hb, h]) hR (by simp [VRel])

theorem ok_iaddr {t e : TypeId} {s : Nat} {x xi r : AV} {yx yi : Value} {i : Int} (hu : P.underlying t = some (.slice e)) (hs : tsize P e = some s) (hR : Rel P G st w) (rx : VRel G x yx) (ri : VRel G xi yi) (hi : intOf? xi = some i)
    (hr : (∃ own cs n, x = .list own cs n ∧ cs.length = n * s ∧ 0 < s ∧ (0 ≤ i ∧ i < n) ∧ r = .lptr cs (i.toNat * s)) ∨ (∃ a off len cap, x = .ms a off len cap ∧ (0 ≤ i ∧ i < len) ∧ r = .ptr a (off + i.toNat * s)) ∨ (∃ a len, x = .mx a len ∧ (0 ≤ i ∧ i < len) ∧ r = .ptr a (0 + i.toNat * s))) :
    OpOK P G st r w (do pure (Next.value (← Instr.indexAt t yx yi))) := by
  obtain ⟨k, rfl⟩ := intOf_rel hi ri
  rcases hr with ⟨own, cs, n, rfl, hl, h0, hb, rfl⟩ | ⟨a, off, len, cap, rfl, hb, rfl⟩ | ⟨a, len, rfl, hb, rfl⟩
  · simp only [VRel] at rx; obtain ⟨base, cap, rfl, hnc, hown, ys, hv, hf⟩ := rx
    have hlen := hv.length
    have hne : ys ≠ [] := by
      intro e
      have h2 : 1 * s ≤ n * s := Nat.mul_le_mul_right _ (by omega)
      have h3 : ys.length = 0 := by rw [e]; rfl
      omega
    obtain ⟨b, o, rfl, e2⟩ := hf hne
    refine OpOK.same (y := .pointer (some ⟨b, o + i.toNat * s, none⟩)) ?_ hR (by simp only [VRel]; exact ⟨b, o, ys, rfl, e2, hv⟩)
    simp [Instr.indexAt, asIntOf, run_underlying_of hu, hb.1, hb.2, run_sizeOf_of hs, add_none]
  · simp only [VRel] at rx; obtain ⟨b, h1, rfl⟩ := rx
    refine OpOK.same (y := .pointer (some ⟨b, off + i.toNat * s, none⟩)) ?_ hR (by simp [VRel, h1])
    simp [Instr.indexAt, asIntOf, run_underlying_of hu, hb.1, hb.2, run_sizeOf_of hs, add_none]
  · simp only [VRel] at rx; obtain ⟨b, cap, h1, rfl⟩ := rx
    refine OpOK.same (y := .pointer (some ⟨b, 0 + i.toNat * s, none⟩)) ?_ hR (by simp [VRel, h1])
    simp [Instr.indexAt, asIntOf, run_underlying_of hu, hb.1, hb.2, run_sizeOf_of hs, add_none]

theorem ok_iaddrarr {t e : TypeId} {n s : Nat} {x xi r : AV} {yx yi : Value} {i : Int} (hu : P.underlying t = some (.array n e)) (hs : tsize P e = some s) (hR : Rel P G st w) (rx : VRel G x yx) (ri : VRel G xi yi) (hi : intOf? xi = some i) (hb : 0 ≤ i ∧ i < n)
    (hr : (∃ a o, x = .ptr a o ∧ r = .ptr a (o + i.toNat * s)) ∨ (∃ cs o, x = .lptr cs o ∧ r = .lptr cs (o + i.toNat * s))) :
    OpOK P G st r w (do pure (Next.value (← Instr.indexAt t yx yi))) := by
  obtain ⟨k, rfl⟩ := intOf_rel hi ri
  rcases hr with ⟨a, o, rfl, rfl⟩ | ⟨cs, o, rfl, rfl⟩
  · simp only [VRel] at rx; obtain ⟨b, h1, rfl⟩ := rx
    refine OpOK.same (y := .pointer (some ⟨b, o + i.toNat * s, none⟩)) ?_ hR (by simp [VRel, h1])
    simp [Instr.indexAt, asIntOf, run_underlying_of hu, Instr.sureAddr, hb.1, hb.2, run_sizeOf_of hs, add_none]
  · simp only [VRel] at rx; obtain ⟨b, o', ys, rfl, h2, h3⟩ := rx
    refine OpOK.same (y := .pointer (some ⟨b, o' + (o + i.toNat * s), none⟩)) ?_ hR (by simp only [VRel]; exact ⟨b, o', ys, rfl, h2, h3⟩)
    simp [Instr.indexAt, asIntOf, run_underlying_of hu, Instr.sureAddr, hb.1, hb.2, run_sizeOf_of hs, add_none, Nat.add_assoc]

theorem ok_extract {vs : List AV} {yx : Value} {i : Nat} (hR : Rel P G st w) (rx : VRel G (.tup vs) yx) (h : vs[i]? = some x) : OpOK P G st x w (do pure (Next.value (← Instr.extract yx i))) := by
  simp only [VRel] at rx; obtain ⟨ys, rfl, r⟩ := rx
  obtain ⟨y, h1, h2⟩ := r.get i x h
  have h1' : ys[i]? = some y := by simpa using h1
  exact OpOK.same (by simp [Instr.extract, h1']) hR h2

theorem wrap_id {n : Int} (h0 : 0 ≤ n) (h : n ≤ 2 ^ 62) : IntKind.i64.wrap n = n := by
  have hm : n % 2 ^ 64 = n := Int.emod_eq_of_lt h0 (by omega)
  show (if (true && decide (n % (2 ^ 64 : Int) ≥ (2 ^ 63 : Int))) = true then n % (2 ^ 64 : Int) - (2 ^ 64 : Int) else n % (2 ^ 64 : Int)) = n
  simp only [hm, Bool.true_and, decide_eq_true_eq]
  rw [if_neg (by omega)]

theorem ok_mkslice {t e : TypeId} {i : TypeInfo} {z : List AV} {xl xc : AV} {yl yc : Value} {l c : Int} (hu : P.underlying t = some (.slice e)) (hi : P.info? e = some i) (hz : tzero P e = some z) (hp : 0 < i.bytes ∧ 0 < i.size)
    (hR : Rel P G st w) (rl : VRel G xl yl) (rc : VRel G xc yc) (hl : intOf? xl = some l) (hc : intOf? xc = some c) (hb : 0 ≤ l ∧ l ≤ c ∧ i.bytes * c ≤ 2 ^ 47) :
    OpOK P G (st.alloc (.cells (rep z c.toNat))) (.ms st.next 0 l.toNat c.toNat) w (do pure (Next.value (← Instr.makeSlice t yl yc))) := by
  obtain ⟨k1, rfl⟩ := intOf_rel hl rl
  obtain ⟨k2, rfl⟩ := intOf_rel hc rc
  obtain ⟨v, i', h1, h2, h3, h4, h5⟩ := tzero_run hz
  rw [hi] at h1; cases h1
  have hcb : c ≤ 2 ^ 47 := by
    have : 1 * c ≤ (i.bytes : Int) * c := Int.mul_le_mul_of_nonneg_right (by omega) (by omega)
    omega
  have hlb : (i.bytes : Int) * l ≤ 2 ^ 47 := by
    have : (i.bytes : Int) * l ≤ (i.bytes : Int) * c := Int.mul_le_mul_of_nonneg_left hb.2.1 (by omega)
    omega
  have e1 := wrap_id hb.1 (by omega : l ≤ 2 ^ 62)
  have e2 := wrap_id (by omega : 0 ≤ c) (by omega : c ≤ 2 ^ 62)
  have hzero : VRels G (rep z c.toNat) ((Array.range (c.toNat * i.size)).map fun j => v.cells[j % v.cells.size]!).toList := by
    rw [zeros_eq' v.cells i.size h3 hp.2 c.toNat]; exact (h5 G).rep _
  obtain ⟨G', g1, g2, g3⟩ := new_cells hR e hzero
  refine OpOK.val (y := .slice (some ⟨w.heap.size, 0, none⟩) l.toNat c.toNat) ?_ g1 g2 (by simp [VRel, g3])
  have c1 : ¬ c < 0 := by omega
  have c2 : ¬ (i.bytes : Int) * c > 2 ^ 48 := by omega
  have c3 : ¬ l < 0 := by omega
  have c4 : ¬ l > c := by omega
  have hs : tsize P e = some i.size := by simp [tsize, hi]
  simp only [Instr.makeSlice, Sem.run_bind, run_underlying_of hu, Result.andThen_ok, asInt, asIntOf, Sem.run_pure, typeInfo, run_program, hi, e1, e2, c1, c2, c3, c4, decide_false, Bool.or_self, Bool.false_eq_true, if_false, run_askRoom, run_sizeOf_of hs]
  by_cases h0 : c.toNat * i.size = 0
  · have hc0 : c.toNat = 0 := by rcases Nat.mul_eq_zero.1 h0 with h | h <;> omega
    have e0 : (Array.range 0).map (fun j => (#[] : Array Value)[j % (#[] : Array Value).size]!) = #[] := Array.eq_empty_of_size_eq_zero (by simp)
    have e0' : (Array.range 0).map (fun j => v.cells[j % v.cells.size]!) = #[] := Array.eq_empty_of_size_eq_zero (by simp)
    simp only [h0, if_true, pure_bind, newRow]
    rw [e0, e0']; rfl
  · simp [h0, h4, newRow]
end
end Go.EF
end

section
namespace Go.EF
open Go Go.RowKit

section
variable {P : Program} {G : Gh} {st : St} {w : World} {x : AV}

theorem mapOf_rel {m : AV} {y : Value} {a clock : Nat} {es : List MEnt} (hR : Rel P G st w) (r : VRel G m y) (h : mapOf st m = some (a, es, clock)) :
    ∃ b rs, m = .map a ∧ y = .map (some b) ∧ G.mu a = some b ∧ st.get a = some (.map es clock) ∧ w.heap[b]? = some (.map rs clock) ∧ EntsRel G es rs.toList := by
  unfold mapOf at h
  split at h
  · rename_i a'
    split at h
    · rename_i es' c' hg; cases h
      simp only [VRel] at r; obtain ⟨b, h1, rfl⟩ := r
      obtain ⟨b', rs, h2, h3, h4⟩ := hR.obj _ _ _ hg h1
      rw [h1] at h2; cases h2
      exact ⟨b, rs, rfl, rfl, h1, hg, h3, h4⟩
    · cases h
  · cases h

theorem EntsRel.length {G : Gh} : ∀ {es : List MEnt} {rs : List MapEntry}, EntsRel G es rs → es.length = rs.length
  | [], rs, h => by simp only [EntsRel] at h; subst h; rfl
  | e :: es, rs, h => by simp only [EntsRel] at h; obtain ⟨r, rs', rfl, _, _, _, h⟩ := h; simp [EntsRel.length h]

theorem EntsRel.get {G : Gh} : ∀ {es : List MEnt} {rs : List MapEntry}, EntsRel G es rs → ∀ (i : Nat) (e : MEnt), es[i]? = some e → ∃ r : MapEntry, rs[i]? = some r ∧ r.key = e.key ∧ r.born = e.born ∧ VRel G e.val r.val
  | [], rs, h, i, e, h' => by simp at h'
  | e :: es, rs, h, i, e', h' => by
    simp only [EntsRel] at h; obtain ⟨r, rs', rfl, h1, h2, h3, h⟩ := h
    cases i with
    | zero => simp at h'; subst h'; exact ⟨r, rfl, h1, h2, h3⟩
    | succ i => simp at h'; obtain ⟨r', g, g'⟩ := EntsRel.get h i e' h'; exact ⟨r', by simpa using g, g'⟩

theorem EntsRel.append {G : Gh} : ∀ {es : List MEnt} {rs : List MapEntry} {e : MEnt} {r : MapEntry}, EntsRel G es rs → r.key = e.key → r.born = e.born → VRel G e.val r.val → EntsRel G (es ++ [e]) (rs ++ [r])
  | [], rs, e, r, h, h1, h2, h3 => by simp only [EntsRel] at h; subst h; exact ⟨r, [], rfl, h1, h2, h3, rfl⟩
  | e' :: es, rs, e, r, h, h1, h2, h3 => by
    simp only [EntsRel] at h; obtain ⟨r', rs', rfl, g1, g2, g3, h⟩ := h
    exact ⟨r', rs' ++ [r], rfl, g1, g2, g3, EntsRel.append h h1 h2 h3⟩

theorem EntsRel.set {G : Gh} : ∀ {es : List MEnt} {rs : List MapEntry} (i : Nat) {e : MEnt} {r : MapEntry}, EntsRel G es rs → r.key = e.key → r.born = e.born → VRel G e.val r.val → EntsRel G (es.set i e) (rs.set i r)
  | [], rs, i, e, r, h, h1, h2, h3 => by simp only [EntsRel] at h; subst h; simp [EntsRel]
  | e' :: es, rs, i, e, r, h, h1, h2, h3 => by
    simp only [EntsRel] at h; obtain ⟨r', rs', rfl, g1, g2, g3, h⟩ := h
    cases i with
    | zero => exact ⟨r, rs', rfl, h1, h2, h3, h⟩
    | succ i => exact ⟨r', rs'.set i r, rfl, g1, g2, g3, EntsRel.set i h h1 h2 h3⟩

theorem EntsRel.find {G : Gh} (b : Int) : ∀ {es : List MEnt} {rs : List MapEntry}, EntsRel G es rs → rs.findIdx? (fun e => (e.born : Int) == b) = es.findIdx? (fun e => (e.born : Int) == b)
  | [], rs, h => by simp only [EntsRel] at h; subst h; rfl
  | e' :: es, rs, h => by
    simp only [EntsRel] at h; obtain ⟨r', rs', rfl, g1, g2, g3, h⟩ := h
    simp only [List.findIdx?_cons, g2, EntsRel.find b h]

theorem run_len_str {argTypes : Array TypeId} {ty : TypeId} {args : Array Value} {t : TypeId} {y : Value} {b : ByteArray} (h1 : argTypes[0]? = some t) (h2 : args[0]? = some y) (hu : P.underlying t = some .string) (hR : Rel P G st w)
    (rx : VRel G (.v (.string b)) y) : OpOK P G st (.int b.size) w (do pure (Next.value (← Builtin.len_ argTypes ty args))) := by
  simp only [VRel] at rx; subst rx
  exact OpOK.same (y := goInt b.size) (by simp [Builtin.len_, h1, h2, run_underlying_of hu]) hR (by simp [VRel, goInt])

theorem run_len_sl {argTypes : Array TypeId} {ty e : TypeId} {args : Array Value} {t : TypeId} {y : Value} {x : AV} {n : Nat} (h1 : argTypes[0]? = some t) (h2 : args[0]? = some y) (hu : P.underlying t = some (.slice e)) (hR : Rel P G st w)
    (rx : VRel G x y) (h : (∃ o c, x = .list o c n) ∨ (∃ a o c, x = .ms a o n c) ∨ (∃ a, x = .mx a n)) : OpOK P G st (.int n) w (do pure (Next.value (← Builtin.len_ argTypes ty args))) := by
  rcases h with ⟨o, c, rfl⟩ | ⟨a, o, c, rfl⟩ | ⟨a, rfl⟩
  · simp only [VRel] at rx; obtain ⟨base, cap, rfl, _⟩ := rx
    exact OpOK.same (y := goInt n) (by simp [Builtin.len_, h1, h2, run_underlying_of hu]) hR (by simp [VRel, goInt])
  · simp only [VRel] at rx; obtain ⟨b, h3, rfl⟩ := rx
    exact OpOK.same (y := goInt n) (by simp [Builtin.len_, h1, h2, run_underlying_of hu]) hR (by simp [VRel, goInt])
  · simp only [VRel] at rx; obtain ⟨b, c, h3, rfl⟩ := rx
    exact OpOK.same (y := goInt n) (by simp [Builtin.len_, h1, h2, run_underlying_of hu]) hR (by simp [VRel, goInt])

theorem run_len_mp {argTypes : Array TypeId} {ty k e : TypeId} {args : Array Value} {t : TypeId} {y : Value} {x : AV} {a clock : Nat} {es : List MEnt} (h1 : argTypes[0]? = some t) (h2 : args[0]? = some y) (hu : P.underlying t = some (.map k e)) (hR : Rel P G st w)
    (rx : VRel G x y) (h : mapOf st x = some (a, es, clock)) : OpOK P G st (.int es.length) w (do pure (Next.value (← Builtin.len_ argTypes ty args))) := by
  obtain ⟨b, rs, e1, rfl, h3, h4, h5, h6⟩ := mapOf_rel hR rx h
  have hl := h6.length
  have hg : (getObj b).run P w = .ok (.map rs clock) w := by simp [getObj, Sem.run, h5]
  have hl' : rs.size = es.length := by simpa using hl.symm
  exact OpOK.same (y := goInt rs.size) (by simp [Builtin.len_, h1, h2, run_underlying_of hu, hg]) hR (by simp [VRel, goInt, hl'])

/-! ### the source of an append or a copy -/
theorem src_rel {sz k : Nat} {y : AV} {v : Value} {ys : List AV} (hR : Rel P G st w) (r : VRel G y v) (h : srcCells st sz y = some (ys, k)) :
    ∃ us : Array Value, VRels G ys us.toList ∧ ∀ w' : World, w'.heap = w.heap → (Builtin.lenOf v).run P w' = .ok k w' ∧
      (∀ n, n ≤ k → ys.length = k * sz → (Builtin.firstCells sz n v).run P w' = .ok (us.extract 0 (n * sz)) w') := by
  unfold srcCells at h
  split at h
  · rename_i own cs n
    split at h
    · rename_i hl; cases h
      simp only [VRel] at r; obtain ⟨base, cap, rfl, hnc, hown, zs, hv, hf⟩ := r
      refine ⟨zs.toArray, by simpa using hv, fun w' hw => ⟨by simp [Builtin.lenOf], fun n' hn hlen => ?_⟩⟩
      have hl2 := hv.length
      by_cases hz : zs = []
      · subst hz
        simp at hl2; subst hl2
        have h0 : n' * sz = 0 := by
          have h3 : n' * sz ≤ k * sz := Nat.mul_le_mul_right _ hn
          simp at hlen; omega
        cases base with
        | none => simp [Builtin.firstCells]
        | some a => simp [Builtin.firstCells, h0, loadCells, loadCellsFrom]
      · obtain ⟨b, o, rfl, e2⟩ := hf hz
        obtain ⟨vs, t, fr, g1, g2⟩ := fz_block hR e2 hz
        have h3 : n' * sz ≤ k * sz := Nat.mul_le_mul_right _ hn
        simp only [Builtin.firstCells]
        rcases fz_extract g2 (off := 0) (sz := n' * sz) (by omega) with h4 | h4
        · rw [run_loadCells (by rw [hw]; exact g1) (by omega)]
          have := fz_drop g2 (off := 0) (sz := n' * sz) (by omega)
          simp only [Nat.add_zero, List.drop_zero] at this
          congr 1
          apply Array.ext'
          rw [this]; simp [List.extract_eq_drop_take']
        · simp [h4, loadCells, loadCellsFrom]
    · cases h
  · rename_i a off len cap
    split at h
    · rename_i cs hg
      split at h
      · rename_i hl; cases h
        simp only [VRel] at r; obtain ⟨b, h1, rfl⟩ := r
        obtain ⟨b', vs, t, h2, h3, h4⟩ := hR.obj _ _ _ hg h1
        rw [h1] at h2; cases h2
        have hl4 := h4.length
        refine ⟨vs.extract off (off + k * sz), by rw [extract_list]; exact (h4.drop _).take _, fun w' hw => ⟨by simp [Builtin.lenOf], fun n' hn hlen => ?_⟩⟩
        have h5 : n' * sz ≤ k * sz := Nat.mul_le_mul_right _ hn
        simp only [Builtin.firstCells]
        rw [run_loadCells (by rw [hw]; exact h3) (by simp at hl4; omega)]
        congr 1
        apply Array.ext'
        simp only [Array.toList_extract, List.extract_eq_drop_take', List.drop_zero, Nat.sub_zero]
        rw [List.drop_take, List.drop_take]
        rw [List.take_take]
        congr 1; omega
      · cases h
    · cases h
  · cases h

theorem growBy_le : ∀ (rounds c n : Nat), 256 ≤ c → Builtin.growBy n rounds c ≤ 2 ^ rounds * c
  | 0, c, n, h => by simp [Builtin.growBy]
  | r + 1, c, n, h => by
    unfold Builtin.growBy
    split
    · calc c = 1 * c := by omega
        _ ≤ 2 ^ (r + 1) * c := Nat.mul_le_mul_right _ Nat.one_le_two_pow
    · have h1 : (c + 768) / 4 ≤ c := by omega
      have h2 := growBy_le r (c + (c + 768) / 4) n (by omega)
      calc _ ≤ 2 ^ r * (c + (c + 768) / 4) := h2
        _ ≤ 2 ^ r * (2 * c) := Nat.mul_le_mul_left _ (by omega)
        _ = 2 ^ (r + 1) * c := by rw [Nat.pow_succ, Nat.mul_assoc]

theorem nextcap_le (need cap : Nat) (h : cap < need) : Builtin.nextslicecap need cap ≤ 16 * need := by
  unfold Builtin.nextslicecap
  split
  · omega
  · split
    · omega
    · have := growBy_le 4 cap need (by omega)
      omega

/-- An append that finds no room. -/
theorem run_append_new {argTypes : Array TypeId} {ty t t' e : TypeId} {d' : TypeDesc} {args : Array Value} {base : Option Addr} {sLen cap : Nat} {v : Value} {i : TypeInfo} {k : Nat} {old us : Array Value} {z : Value}
    (h1 : argTypes[0]? = some t) (h2 : argTypes[1]? = some t') (h3 : args[0]? = some (.slice base sLen cap)) (h4 : args[1]? = some v) (hu : P.underlying t = some (.slice e)) (hu' : P.underlying t' = some d') (hd' : ∀ k, d' ≠ .int k)
    (hi : P.info? e = some i) (hp : 0 < i.bytes) (hz : i.zero = some z) (hroom : cap < sLen + k) (hsz : (sLen + k) * i.bytes ≤ 2 ^ 44)
    (hl : ∀ w' : World, w'.heap = w.heap → (Builtin.lenOf v).run P w' = .ok k w') (ho : ∀ w' : World, w'.heap = w.heap → (Builtin.firstCells i.size sLen (.slice base sLen cap)).run P w' = .ok old w')
    (hf : ∀ w' : World, w'.heap = w.heap → (Builtin.firstCells i.size k v).run P w' = .ok us w') :
    ∃ (cap' : Nat) (cs : Array Value), sLen + k ≤ cap' ∧ cs = old ++ us ++ Builtin.zeroCells z.cells (cap' - (sLen + k)) ∧
      (Builtin.append_ argTypes ty args).run P w = .ok (.slice (some ⟨w.heap.size, 0, none⟩) (sLen + k) cap') (({ w with drawn := w.drawn + 1 } : World).alloc (.cells cs e)) := by
  have hs : tsize P e = some i.size := by simp [tsize, hi]
  have hn1 : ¬ sLen + k ≤ cap := by omega
  have hneed : sLen + k ≤ 2 ^ 44 := by
    have : (sLen + k) * 1 ≤ (sLen + k) * i.bytes := Nat.mul_le_mul_left _ hp
    omega
  have hcap : ¬ Builtin.nextslicecap (sLen + k) cap * i.bytes > 2 ^ 48 := by
    have h5 := nextcap_le (sLen + k) cap hroom
    have h6 : Builtin.nextslicecap (sLen + k) cap * i.bytes ≤ 16 * (sLen + k) * i.bytes := Nat.mul_le_mul_right _ h5
    have h7 : 16 * (sLen + k) * i.bytes = 16 * ((sLen + k) * i.bytes) := Nat.mul_assoc _ _ _
    omega
  refine ⟨(Question.appendCap (sLen + k) cap e).cut (w.tape w.drawn (Question.appendCap (sLen + k) cap e)), _, by simp [Question.cut], rfl, ?_⟩
  have hd : (d' matches .int _) = false := by cases d' <;> first | rfl | exact absurd rfl (hd' _)
  have hb0 : i.bytes ≠ 0 := by omega
  have hzr : ∀ w, (zeroValue e).run P w = .ok z w := fun w => by simp [zeroValue, typeInfo, hi, hz]
  simp only [Builtin.append_, h1, h2, h3, h4, Sem.run_bind, run_underlying_of hu, run_underlying_of hu', Result.andThen_ok, run_sizeOf_of hs, Sem.run_pure, hd, Bool.false_eq_true, if_false, hl w rfl, hn1]
  simp only [typeInfo, run_program, hi, Result.andThen_ok, Sem.run_bind, Sem.run_pure, hb0, or_false, and_false, if_false, hcap, run_choose, Question.forced, Bool.false_eq_true, run_askRoom]
  rw [ho { w with drawn := w.drawn + 1 } rfl]
  simp only [Result.andThen_ok, Bool.not_false, if_true]
  rw [hf { w with drawn := w.drawn + 1 } rfl]
  simp only [Result.andThen_ok, hzr, newRow, run_newObj, Sem.run_bind, Sem.run_pure]
  rfl

/-- An append that finds room. -/
theorem run_append_in {argTypes : Array TypeId} {ty t t' e : TypeId} {d' : TypeDesc} {args : Array Value} {b o : Nat} {sLen cap : Nat} {v : Value} {sz : Nat} {k : Nat} {us vs : Array Value} {te : TypeId}
    (h1 : argTypes[0]? = some t) (h2 : argTypes[1]? = some t') (h3 : args[0]? = some (.slice (some ⟨b, o, none⟩) sLen cap)) (h4 : args[1]? = some v) (hu : P.underlying t = some (.slice e)) (hu' : P.underlying t' = some d') (hd' : ∀ k, d' ≠ .int k)
    (hs : tsize P e = some sz) (hroom : sLen + k ≤ cap)
    (hl : ∀ w' : World, w'.heap = w.heap → (Builtin.lenOf v).run P w' = .ok k w')
    (hf : ∀ w' : World, w'.heap = w.heap → (Builtin.firstCells sz k v).run P w' = .ok us w')
    (hb : w.heap[b]? = some (.cells vs te (0, 0))) (hone : ∀ y ∈ us.toList, y.oneCell' = true) (hfit : o + sLen * sz + us.size ≤ vs.size) :
    (Builtin.append_ argTypes ty args).run P w = .ok (.slice (some ⟨b, o, none⟩) (sLen + k) cap) (w.putObj b (.cells (spliceA vs (o + sLen * sz) us.toList) te (0, 0))) := by
  have hd : (d' matches .int _) = false := by cases d' <;> first | rfl | exact absurd rfl (hd' _)
  simp only [Builtin.append_, h1, h2, h3, h4, Sem.run_bind, run_underlying_of hu, run_underlying_of hu', Result.andThen_ok, run_sizeOf_of hs, Sem.run_pure, hd, Bool.false_eq_true, if_false, hl w rfl, hroom, if_true, Bool.not_false, hf w rfl, add_none]
  rw [run_storeCells us.toList 0 w b (o + sLen * sz) vs te hb hone (by simpa using hfit)]
  rfl

/-- An append of nothing. -/
theorem run_append_nil {argTypes : Array TypeId} {ty t t' e : TypeId} {d' : TypeDesc} {args : Array Value} {base : Option Addr} {sLen cap : Nat} {v : Value} {sz : Nat}
    (h1 : argTypes[0]? = some t) (h2 : argTypes[1]? = some t') (h3 : args[0]? = some (.slice base sLen cap)) (h4 : args[1]? = some v) (hu : P.underlying t = some (.slice e)) (hu' : P.underlying t' = some d') (hd' : ∀ k, d' ≠ .int k)
    (hs : tsize P e = some sz) (hroom : sLen ≤ cap)
    (hl : ∀ w' : World, w'.heap = w.heap → (Builtin.lenOf v).run P w' = .ok 0 w')
    (hf : ∀ w' : World, w'.heap = w.heap → (Builtin.firstCells sz 0 v).run P w' = .ok #[] w') :
    (Builtin.append_ argTypes ty args).run P w = .ok (.slice base sLen cap) w := by
  have hd : (d' matches .int _) = false := by cases d' <;> first | rfl | exact absurd rfl (hd' _)
  simp only [Builtin.append_, h1, h2, h3, h4, Sem.run_bind, run_underlying_of hu, run_underlying_of hu', Result.andThen_ok, run_sizeOf_of hs, Sem.run_pure, hd, Bool.false_eq_true, if_false, hl w rfl, Nat.add_zero, hroom, if_true, Bool.not_false, hf w rfl]
  cases base <;> simp [storeCells]

/-- A new row of an append: frozen up to its length, and a growing row from there. -/
theorem new_row (hR : Rel P G st w) (e : TypeId) {cs : List AV} {vs : List Value} {n sz cap : Nat} (rest : List Value) (hv : VRels G cs vs) (hl : cs.length = n * sz) (hcap : n ≤ cap) (hrest : rest.length = (cap - n) * sz) :
    ∃ G', G.le G' ∧ Rel P G' (st.alloc (.arr true sz)) (w.alloc (.cells (vs ++ rest).toArray e)) ∧ VRel G' (.list (.tok st.next) cs n) (.slice (some ⟨w.heap.size, 0, none⟩) n cap) := by
  have hl2 := hv.length
  obtain ⟨G1, h1, h2, h3, h4, h5, h6⟩ := hR.alloc_frozen (vs ++ rest).toArray e (n * sz)
  have hsz : cap * sz ≤ ((vs ++ rest).toArray).size := by
    simp only [List.size_toArray, List.length_append, hrest]
    rw [← hl2, hl, ← Nat.add_mul]; exact Nat.mul_le_mul_right _ (by omega)
  obtain ⟨G2, k1, k2, k3, k4⟩ := h2.add_arr (b := w.heap.size) (n := n) (cap := cap) (sz := sz) (World.alloc_heap_new _ _) hsz hcap
    (by rw [h1.w0]; exact hR.hsize) h4 (fun a' e' => by rw [h5] at e'; have := (hR.fresh a' _ e').2; omega)
    (fun a' s' n' c' g e' => by
      rw [h6] at e'
      obtain ⟨b', n'', cap'', vs'', t'', g1, g2, _⟩ := hR.arr a' s' g
      rw [e'] at g1; cases g1
      have := (Array.getElem?_eq_some_iff.1 g2).1; omega)
  refine ⟨G2, h1.trans k1, k2, ?_⟩
  refine list_rel (ys := vs) ((hv.mono h1).mono k1) ?_ hcap ⟨_, k3, rfl⟩
  intro i y ey
  rw [k4]
  have hi : i < vs.length := (List.getElem?_eq_some_iff.1 ey).1
  refine h3 i y ?_
  rw [List.getElem?_take, if_pos (by omega)]
  show (vs ++ rest)[i]? = _
  rw [List.getElem?_append_left hi]; exact ey

theorem ok_append {argTypes : Array TypeId} {ty t t' e : TypeId} {d' : TypeDesc} {args : Array Value} {i : TypeInfo} {z : List AV} {x y r : AV} {vx vy : Value} {st' : St}
    (h1 : argTypes[0]? = some t) (h2 : argTypes[1]? = some t') (h3 : args[0]? = some vx) (h4 : args[1]? = some vy) (hu : P.underlying t = some (.slice e)) (hu' : P.underlying t' = some d') (hd' : ∀ k, d' ≠ .int k)
    (hi : P.info? e = some i) (hz : tzero P e = some z) (hp : 0 < i.bytes ∧ 0 < i.size) (hR : Rel P G st w) (rx : VRel G x vx) (ry : VRel G y vy) (ρ : Opd → AV) (a b : Opd) (ha : ρ a = x) (hb : ρ b = y)
    (h : evOp P ρ st (.append i.size i.bytes z a b) = some (r, st')) :
    OpOK P G st' r w (do pure (Next.value (← Builtin.append_ argTypes ty args))) := by
  obtain ⟨zv, i', g1, g2, g3, g4, g5⟩ := tzero_run hz
  rw [hi] at g1; cases g1
  have hs : tsize P e = some i.size := by simp [tsize, hi]
  simp only [evOp, ha, hb] at h
  split at h
  · cases h
  · rename_i ys k hsrc
    split at h
    · rename_i hone
      obtain ⟨us, ru, hus⟩ := src_rel hR ry hsrc
      have hlu := ru.length
      have hlen : ∀ w' : World, w'.heap = w.heap → (Builtin.lenOf vy).run P w' = .ok k w' := fun w' hw => (hus w' hw).1
      have hysk : ys.length = k * i.size := by
        unfold srcCells at hsrc
        split at hsrc
        · split at hsrc
          · cases hsrc; assumption
          · cases hsrc
        · split at hsrc
          · split at hsrc
            · cases hsrc; simp; omega
            · cases hsrc
          · cases hsrc
        · cases hsrc
      have hfirst : ∀ w' : World, w'.heap = w.heap → (Builtin.firstCells i.size k vy).run P w' = .ok us w' := fun w' hw => by
        rw [(hus w' hw).2 k (Nat.le_refl _) hysk]
        congr 1
        have : us.size = k * i.size := by rw [← hysk, hlu]; simp
        rw [← this]; simp
      have hones := ones_rel hone ru
      split at h
      · -- a list
        rename_i own cs n
        split at h
        · rename_i hk; subst hk
          cases h
          have rx0 := rx
          simp only [VRel] at rx; obtain ⟨base, cap, rfl, hnc, _⟩ := rx
          have hu0 : us = #[] := by
            apply Array.eq_empty_of_size_eq_zero
            simp at hysk; subst hysk; simpa using hlu.symm
          subst hu0
          exact OpOK.same (run_append_nil h1 h2 h3 h4 hu hu' hd' hs hnc hlen hfirst) hR rx0
        · rename_i hk
          split at h
          · rename_i hc
            obtain ⟨c1, c2, c3⟩ := hc
            have rx0 := rx
            simp only [VRel] at rx; obtain ⟨base, cap, rfl, hnc, hown, zs, hv, hf⟩ := rx
            have hlz := hv.length
            -- the old cells
            obtain ⟨old, ro, hold⟩ := src_rel (sz := i.size) (k := n) (ys := cs) hR rx0 (by simp [srcCells, c1])
            have hlo := ro.length
            have hold' : ∀ w' : World, w'.heap = w.heap → (Builtin.firstCells i.size n (.slice base n cap)).run P w' = .ok old w' := fun w' hw => by
              rw [(hold w' hw).2 n (Nat.le_refl _) c1]
              congr 1
              have : old.size = n * i.size := by rw [← c1, hlo]; simp
              rw [← this]; simp
            have fresh : ∀ (st0 : St), Rel P G st0 w → cap < n + k → ∃ nx yv w' G', (do pure (Next.value (← Builtin.append_ argTypes ty args)) : Sem Next).run P w = .ok nx w' ∧ (nx = .value yv ∨ (nx = .skip ∧ yv = undef)) ∧ G.le G' ∧
                Rel P G' (st0.alloc (.arr true i.size)) w' ∧ VRel G' (.list (.tok st0.next) (cs ++ ys) (n + k)) yv := by
              intro st0 hR0 hroom
              obtain ⟨cap', cs', q1, q2, q3⟩ := run_append_new (P := P) (w := w) (ty := ty) h1 h2 h3 h4 hu hu' hd' hi hp.1 g2 hroom c2 hlen hold' hfirst
              have hR1 := hR0.drewN 1
              have hrest : (Builtin.zeroCells zv.cells (cap' - (n + k))).toList.length = (cap' - (n + k)) * i.size := by simp [Builtin.zeroCells, g3]
              obtain ⟨G', k1, k2, k3⟩ := new_row hR1 e (n := n + k) (cap := cap') (Builtin.zeroCells zv.cells (cap' - (n + k))).toList (ro.append ru) (by rw [List.length_append, c1, hysk, Nat.add_mul]) q1 hrest
              refine ⟨_, _, _, G', by rw [Sem.run_bind, q3]; rfl, .inl rfl, k1, ?_, k3⟩
              have e1 : cs' = ((old.toList ++ us.toList) ++ (Builtin.zeroCells zv.cells (cap' - (n + k))).toList).toArray := by rw [q2]; apply Array.ext'; simp
              rw [e1]; exact k2
            split at h
            · cases h
              simp only [OwnRel] at hown
              obtain ⟨nx, yv, w', G', p1, p2, p3, p4, p5⟩ := fresh st hR (by omega)
              exact ⟨nx, yv, w', G', p1, p2, p3, p4, p5⟩
            · rename_i a'
              split at h
              · rename_i s' hlive
                split at h
                · rename_i hss; subst hss; cases h
                  simp only [OwnRel] at hown
                  obtain ⟨b', hb1, rfl⟩ := hown
                  by_cases hroom : n + k ≤ cap
                  · obtain ⟨b'', n'', cap'', vs, te, f1, f2, f3, f4, f5, f6, f7⟩ := hR.arr a' _ hlive
                    rw [hb1] at f1; cases f1
                    have hfit : 0 + n * i.size + us.size ≤ vs.size := by
                      have : us.size = k * i.size := by rw [← hysk, hlu]; simp
                      have h5 : (n + k) * i.size ≤ cap * i.size := Nat.mul_le_mul_right _ hroom
                      rw [Nat.add_mul] at h5; omega
                    have hrun := run_append_in (P := P) (w := w) (ty := ty) h1 h2 h3 h4 hu hu' hd' hs hroom hlen hfirst f2 hones hfit
                    rw [Nat.zero_add] at hrun
                    obtain ⟨G', k1, k2, k3, k4⟩ := hR.grow hlive hb1 f2 (ys := us.toList) (k := k) (by rw [← hlu, hysk]) hroom
                    refine ⟨_, _, _, G', by rw [Sem.run_bind, hrun]; rfl, .inl rfl, k1, k2, ?_⟩
                    refine list_rel (ys := zs ++ us.toList) ((hv.mono k1).append (ru.mono k1)) ?_ hroom ⟨_, k3, rfl⟩
                    intro j yj ej
                    rw [List.getElem?_append] at ej
                    by_cases hj : j < zs.length
                    · rw [if_pos hj] at ej
                      obtain ⟨b3, o3, e3, e4⟩ := hf (by intro e; subst e; simp at hj)
                      cases e3
                      exact k1.fz _ _ _ (e4 j yj ej)
                    · rw [if_neg hj] at ej
                      have := k4 _ _ ej
                      rw [← this]; congr 1; omega
                  · obtain ⟨nx, yv, w', G', p1, p2, p3, p4, p5⟩ := fresh (st.set a' (.arr false i.size)) (hR.kill_arr a' _ ⟨_, hlive⟩) (by omega)
                    rw [St.next_set] at p5
                    exact ⟨nx, yv, w', G', p1, p2, p3, p4, p5⟩
                · cases h
              · cases h
            · cases h
          · cases h
      · -- a slice over an object
        rename_i a' off len cap
        split at h
        · rename_i cs hcs
          split at h
          · rename_i hc0
            obtain ⟨c0, c0'⟩ := hc0
            have rx0 := rx
            simp only [VRel] at rx; obtain ⟨bb, hm, rfl⟩ := rx
            obtain ⟨b', vs, te, h5, h6, h7⟩ := hR.obj _ _ _ hcs hm
            rw [hm] at h5; cases h5
            have hl7 := h7.length
            have husz : us.size = k * i.size := by rw [← hysk, hlu]; simp
            split at h
            · rename_i hroom; cases h
              have h8 : (len + k) * i.size ≤ cap * i.size := Nat.mul_le_mul_right _ hroom
              rw [Nat.add_mul] at h8
              have hrun := run_append_in (P := P) (w := w) (ty := ty) h1 h2 h3 h4 hu hu' hd' hs hroom hlen hfirst h6 hones (by simp at hl7; omega)
              exact ⟨_, _, _, G, by rw [Sem.run_bind, hrun]; rfl, .inl rfl, .refl _, put_cells hR (off + len * i.size) hcs hm h6 h7 ru, by simp [VRel, hm]⟩
            · rename_i hroom
              split at h
              · rename_i hc; cases h
                obtain ⟨c2, c3⟩ := hc
                have h8 : len * i.size ≤ cap * i.size := Nat.mul_le_mul_right _ c0'
                obtain ⟨old, ro, hold⟩ := src_rel (sz := i.size) (k := len) (ys := (cs.drop off).take (len * i.size)) hR rx0 (by simp [srcCells, hcs]; omega)
                have hlo := ro.length
                have c1 : ((cs.drop off).take (len * i.size)).length = len * i.size := by simp; omega
                have hold' : ∀ w' : World, w'.heap = w.heap → (Builtin.firstCells i.size len (.slice (some ⟨bb, off, none⟩) len cap)).run P w' = .ok old w' := fun w' hw => by
                  rw [(hold w' hw).2 len (Nat.le_refl _) c1]
                  congr 1
                  have : old.size = len * i.size := by rw [← c1, hlo]; simp
                  rw [← this]; simp
                obtain ⟨cap', cs', q1, q2, q3⟩ := run_append_new (P := P) (w := w) (ty := ty) h1 h2 h3 h4 hu hu' hd' hi hp.1 g2 (by omega) c2 hlen hold' hfirst
                have hR1 := hR.drewN 1
                have hrest : (Builtin.zeroCells zv.cells (cap' - (len + k))).toList.length = (cap' - (len + k)) * i.size := by simp [Builtin.zeroCells, g3]
                obtain ⟨G', k1, k2, k3⟩ := new_row hR1 e (n := len + k) (cap := cap') (Builtin.zeroCells zv.cells (cap' - (len + k))).toList (ro.append ru) (by rw [List.length_append, c1, hysk, Nat.add_mul]) q1 hrest
                refine ⟨_, _, _, G', by rw [Sem.run_bind, q3]; rfl, .inl rfl, k1, ?_, k3⟩
                have e1 : cs' = ((old.toList ++ us.toList) ++ (Builtin.zeroCells zv.cells (cap' - (len + k))).toList).toArray := by rw [q2]; apply Array.ext'; simp
                rw [e1]; exact k2
              · cases h
          · cases h
        · cases h
      · cases h
    · cases h

end
end Go.EF
end

section
namespace Go.EF
open Go Go.RowKit

section
variable {P : Program} {G : Gh} {st : St} {w : World} {x : AV}

theorem evSem_bind {α β : Type} {P : Program} : ∀ (s : Sem α) (f : α → Sem β) (b : β), evSem P (s >>= f) = some b ↔ ∃ a, evSem P s = some a ∧ evSem P (f a) = some b
  | .pure a, f, b => by
    show evSem P (f a) = some b ↔ _
    simp [evSem]
  | .program k, f, b => by
    show evSem P ((k P).bind f) = some b ↔ _
    simp only [evSem]; exact evSem_bind (k P) f b
  | .mark m k, f, b => by
    show evSem P (k.bind f) = some b ↔ _
    simp only [evSem]; exact evSem_bind k f b
  | .load .., f, b => by show (none : Option β) = _ ↔ _; simp [evSem]
  | .store .., f, b => by show (none : Option β) = _ ↔ _; simp [evSem]
  | .new .., f, b => by show (none : Option β) = _ ↔ _; simp [evSem]
  | .shape .., f, b => by show (none : Option β) = _ ↔ _; simp [evSem]
  | .freeze .., f, b => by show (none : Option β) = _ ↔ _; simp [evSem]
  | .frozen .., f, b => by show (none : Option β) = _ ↔ _; simp [evSem]
  | .getObj .., f, b => by show (none : Option β) = _ ↔ _; simp [evSem]
  | .setObj .., f, b => by show (none : Option β) = _ ↔ _; simp [evSem]
  | .choose .., f, b => by show (none : Option β) = _ ↔ _; simp [evSem]
  | .sys .., f, b => by show (none : Option β) = _ ↔ _; simp [evSem]
  | .halt .., f, b => by show (none : Option β) = _ ↔ _; simp [evSem]

theorem evSem_pure {α : Type} (a b : α) : evSem P (pure a) = some b ↔ a = b := by
  show evSem P (Sem.pure a) = some b ↔ _
  simp [evSem]

theorem findNow_same (kind : TypeDesc) (k : Value) : ∀ (es1 es2 : List MapEntry) (i : Nat), es1.map (·.key) = es2.map (·.key) →
    (Instr.findNow kind k es2 i).map (Option.map (·.1)) = (Instr.findNow kind k es1 i).map (Option.map (·.1)) ∧
    ∀ j v, Instr.findNow kind k es2 i = some (some (j, v)) → ∃ e, es2[j - i]? = some e ∧ v = e.val ∧ i ≤ j
  | [], [], i, _ => by simp [Instr.findNow]
  | [], _ :: _, i, h => by simp at h
  | _ :: _, [], i, h => by simp at h
  | e1 :: es1, e2 :: es2, i, h => by
    simp only [List.map_cons, List.cons.injEq] at h
    obtain ⟨h1, h2⟩ := h
    obtain ⟨ih1, ih2⟩ := findNow_same kind k es1 es2 (i + 1) h2
    simp only [Instr.findNow, h1]
    split
    · refine ⟨rfl, fun j v hj => ?_⟩
      simp only [Option.some.injEq, Prod.mk.injEq] at hj
      obtain ⟨rfl, rfl⟩ := hj
      exact ⟨e2, by simp, rfl, Nat.le_refl _⟩
    · refine ⟨ih1, fun j v hj => ?_⟩
      obtain ⟨e, g1, g2, g3⟩ := ih2 j v hj
      refine ⟨e, ?_, g2, by omega⟩
      obtain ⟨d, hd⟩ : ∃ d, j - i = d + 1 := ⟨j - i - 1, by omega⟩
      rw [hd, List.getElem?_cons_succ]; rw [← g1]; congr 1; omega
    · simp

theorem run_findAsking (kt : TypeId) (k : Value) : ∀ (es1 es2 : List MapEntry) (i : Nat) (r : Option (Nat × Value)), es1.map (·.key) = es2.map (·.key) → evSem P (Instr.findAsking kt k es1 i) = some r →
    ∃ r', (∀ w, (Instr.findAsking kt k es2 i).run P w = .ok r' w) ∧ r'.map (·.1) = r.map (·.1) ∧ ∀ j v, r' = some (j, v) → ∃ e, es2[j - i]? = some e ∧ v = e.val ∧ i ≤ j
  | [], [], i, r, _, h => by
    simp only [Instr.findAsking, evSem_pure] at h; subst h
    exact ⟨none, fun w => rfl, rfl, fun j v e => by cases e⟩
  | [], _ :: _, i, _, h, _ => by simp at h
  | _ :: _, [], i, _, h, _ => by simp at h
  | e1 :: es1, e2 :: es2, i, r, h, hr => by
    simp only [List.map_cons, List.cons.injEq] at h
    obtain ⟨h1, h2⟩ := h
    simp only [Instr.findAsking] at hr ⊢
    rw [evSem_bind] at hr
    obtain ⟨b, hb, hr⟩ := hr
    rw [h1] at hb
    have hrun := evSem_run _ hb
    cases b with
    | true =>
      simp only [if_true, evSem_pure] at hr; subst hr
      refine ⟨some (i, e2.val), fun w => by rw [Sem.run_bind, hrun w]; rfl, rfl, fun j v e => ?_⟩
      simp only [Option.some.injEq, Prod.mk.injEq] at e; obtain ⟨rfl, rfl⟩ := e
      exact ⟨e2, by simp, rfl, Nat.le_refl _⟩
    | false =>
      simp only [Bool.false_eq_true, if_false] at hr
      obtain ⟨r', g1, g2, g3⟩ := run_findAsking kt k es1 es2 (i + 1) r h2 hr
      refine ⟨r', fun w => by rw [Sem.run_bind, hrun w]; exact g1 w, g2, fun j v e => ?_⟩
      obtain ⟨e', q1, q2, q3⟩ := g3 j v e
      refine ⟨e', ?_, q2, by omega⟩
      obtain ⟨d, hd⟩ : ∃ d, j - i = d + 1 := ⟨j - i - 1, by omega⟩
      rw [hd, List.getElem?_cons_succ]; rw [← q1]; congr 1; omega

theorem run_findKey (kt : TypeId) (k : Value) (es1 es2 : List MapEntry) (r : Option (Nat × Value)) (hk : es1.map (·.key) = es2.map (·.key)) (h : evSem P (Instr.findKey kt k es1) = some r) :
    ∃ r', (∀ w, (Instr.findKey kt k es2).run P w = .ok r' w) ∧ r'.map (·.1) = r.map (·.1) ∧ ∀ j v, r' = some (j, v) → ∃ e, es2[j]? = some e ∧ v = e.val := by
  unfold Instr.findKey at h
  rw [evSem_bind] at h
  obtain ⟨d, hd, h⟩ := h
  have hrun := evSem_run _ hd
  obtain ⟨f1, f2⟩ := findNow_same d k es1 es2 0 hk
  cases e1 : Instr.findNow d k es1 0 with
  | some r1 =>
    rw [e1] at h f1
    simp only [evSem_pure] at h; subst h
    cases e2 : Instr.findNow d k es2 0 with
    | none => rw [e2] at f1; simp at f1
    | some r2 =>
      rw [e2] at f1; simp at f1
      refine ⟨r2, fun w => by unfold Instr.findKey; rw [Sem.run_bind, hrun w]; simp [e2], f1, fun j v e => ?_⟩
      subst e
      obtain ⟨e, g1, g2, _⟩ := f2 j v e2
      exact ⟨e, by simpa using g1, g2⟩
  | none =>
    rw [e1] at h f1
    simp only at h
    obtain ⟨r', g1, g2, g3⟩ := run_findAsking kt k es1 es2 0 r hk h
    have e2 : Instr.findNow d k es2 0 = none := by
      cases e2 : Instr.findNow d k es2 0 with
      | none => rfl
      | some r2 => rw [e2] at f1; simp at f1
    refine ⟨r', fun w => by unfold Instr.findKey; rw [Sem.run_bind, hrun w]; simp [e2, g1], g2, fun j v e => ?_⟩
    obtain ⟨e', q1, q2, _⟩ := g3 j v e
    exact ⟨e', by simpa using q1, q2⟩

theorem EntsRel.keys {G : Gh} : ∀ {es : List MEnt} {rs : List MapEntry}, EntsRel G es rs → (dents es).map (·.key) = rs.map (·.key)
  | [], rs, h => by simp only [EntsRel] at h; subst h; rfl
  | e :: es, rs, h => by
    simp only [EntsRel] at h; obtain ⟨r, rs', rfl, h1, _, _, h⟩ := h
    have := EntsRel.keys h
    simp only [dents, List.map_cons, List.map_map] at this ⊢
    rw [h1, this]

theorem findK_rel {emp : Bool} {kt : TypeId} {k : Value} {es : List MEnt} {rs : Array MapEntry} {o : Option Nat} (hE : EntsRel G es rs.toList) (h : findK P emp kt k es = some o) :
    (∀ w, (Instr.checkKey emp 10000 kt k).run P w = .ok () w) ∧
    ∃ r', (∀ w, (Instr.findKey kt k rs.toList).run P w = .ok r' w) ∧ r'.map (·.1) = o ∧ ∀ j v, r' = some (j, v) → ∃ e, rs.toList[j]? = some e ∧ v = e.val := by
  unfold findK at h
  rw [evSem_bind] at h
  obtain ⟨u, h1, h⟩ := h
  rw [evSem_bind] at h
  obtain ⟨r, h2, h3⟩ := h
  rw [evSem_pure] at h3
  obtain ⟨r', g1, g2, g3⟩ := run_findKey kt k (dents es) rs.toList r hE.keys h2
  refine ⟨fun w => evSem_run _ h1 w, r', g1, by rw [g2]; exact h3, g3⟩

theorem run_getMap {b : Nat} {rs : Array MapEntry} {c : Nat} (h : w.heap[b]? = some (.map rs c)) : (getObj b).run P w = .ok (.map rs c) w := by simp [getObj, Sem.run, h]

theorem ok_lookup {t kt e : TypeId} {zv : Value} {m k r : AV} {vm vk kv : Value} {ok : Bool} {a clock : Nat} {es : List MEnt} {o : Option Nat} (hu : P.underlying t = some (.map kt e)) (hz : (P.info? e).bind (·.zero) = some zv)
    (hR : Rel P G st w) (rm : VRel G m vm) (rk : VRel G k vk) (hm : mapOf st m = some (a, es, clock)) (hk : k.toV = some kv) (hf : findK P es.isEmpty kt kv es = some o)
    (hr : (∃ i en, o = some i ∧ es[i]? = some en ∧ r = if ok then .tup [en.val, .bool true] else en.val) ∨ (o = none ∧ r = if ok then .tup [ofV zv, .bool false] else ofV zv)) :
    OpOK P G st r w (do pure (Next.value (← Instr.lookup t vm vk ok))) := by
  obtain ⟨b, rs, e1, rfl, h3, h4, h5, h6⟩ := mapOf_rel hR rm hm
  have := toV_rel hk rk; subst this
  obtain ⟨c1, r', c2, c3, c4⟩ := findK_rel h6 hf
  have he : es.isEmpty = rs.isEmpty := by
    have hl := h6.length
    cases es with
    | nil => have : rs.size = 0 := by simpa using hl.symm
             simp [Array.isEmpty, this]
    | cons e es => simp at hl; simp [Array.isEmpty, ← hl]
  rw [he] at c1
  have hzr : ∀ w, (zeroValue e).run P w = .ok zv w := fun w => by
    rw [Option.bind_eq_some_iff] at hz; obtain ⟨i, g1, g2⟩ := hz
    simp [zeroValue, typeInfo, g1, g2]
  rcases hr with ⟨i, en, rfl, hen, rfl⟩ | ⟨rfl, rfl⟩
  · cases r' with
    | none => simp at c3
    | some jv =>
      obtain ⟨j, v⟩ := jv
      simp at c3; subst c3
      obtain ⟨ent, g1, rfl⟩ := c4 j v rfl
      obtain ⟨r2, g2, _, _, g3⟩ := h6.get j en hen
      rw [g1] at g2; cases g2
      refine OpOK.same (y := if ok then .tuple #[ent.val, .bool true] else ent.val) ?_ hR ?_
      · simp [Instr.lookup, run_underlying_of hu, run_getMap h5, c1, c2]
      · cases ok
        · exact g3
        · simp only [if_true, VRel, VRels]; exact ⟨_, rfl, _, _, rfl, g3, _, _, rfl, rfl, rfl⟩
  · cases r' with
    | some jv => simp at c3
    | none =>
      refine OpOK.same (y := if ok then .tuple #[zv, .bool false] else zv) ?_ hR ?_
      · simp [Instr.lookup, run_underlying_of hu, run_getMap h5, c1, c2, hzr]
      · cases ok
        · exact VRel.ofV G zv
        · simp only [if_true, VRel, VRels]; exact ⟨_, rfl, _, _, rfl, VRel.ofV G zv, _, _, rfl, rfl, rfl⟩

theorem put_map (hR : Rel P G st w) {a b : Nat} {es' : List MEnt} {rs rs' : Array MapEntry} {c c' : Nat} (hmu : G.mu a = some b) (hb : w.heap[b]? = some (.map rs c)) (hE : EntsRel G es' rs'.toList) :
    Rel P G (st.set a (.map es' c')) (w.putObj b (.map rs' c')) :=
  hR.put_obj _ _ hmu (by intro l s e; cases e) ⟨b, rs', hmu, World.putObj_heap_same (Array.getElem?_eq_some_iff.1 hb).1, hE⟩ (fun rec e => by rw [hb] at e; cases e) (fun d e => by rw [hb] at e; cases e)

theorem run_setMap {b : Nat} {rs rs' : Array MapEntry} {c c' : Nat} (h : w.heap[b]? = some (.map rs c)) : (setObj b (.map rs' c')).run P w = .ok () (w.putObj b (.map rs' c')) := by simp [setObj, Sem.run, h, World.putObj]

theorem keyStays {old new : Value} (h : Instr.sameBits 10000 old new = true) (w : World) : (Instr.keyThatStays old new).run P w = .ok new w := by
  unfold Instr.keyThatStays; rw [if_pos h]; rfl

theorem modify_set {α : Type} (rs : Array α) (i : Nat) (r : α) (f : α → α) (h : rs.toList[i]? = some r) : (rs.modify i f).toList = rs.toList.set i (f r) := by
  apply List.ext_getElem?
  intro j
  rw [Array.getElem?_toList, Array.getElem?_modify, List.getElem?_set]
  by_cases hj : i = j
  · subst hj
    have hlt : i < rs.toList.length := (List.getElem?_eq_some_iff.1 h).1
    have h' : rs[i]? = some r := by simpa using h
    rw [if_pos rfl, if_pos rfl, if_pos hlt, h']; rfl
  · rw [if_neg hj, if_neg hj, Array.getElem?_toList]

theorem ok_mapset {t kt e : TypeId} {m k x : AV} {vm vk vx kv : Value} {a clock : Nat} {es : List MEnt} {o : Option Nat} {st' : St} (hu : P.underlying t = some (.map kt e))
    (hR : Rel P G st w) (rm : VRel G m vm) (rk : VRel G k vk) (rx : VRel G x vx) (hm : mapOf st m = some (a, es, clock)) (hk : k.toV = some kv) (hf : findK P false kt kv es = some o)
    (hr : (∃ i en, o = some i ∧ es[i]? = some en ∧ Instr.sameBits 10000 en.key kv = true ∧ st' = st.set a (.map (es.set i { en with key := kv, val := x }) clock)) ∨ (o = none ∧ st' = st.set a (.map (es ++ [⟨kv, x, clock⟩]) (clock + 1)))) :
    OpOK P G st' .junk w (do Instr.mapUpdate t vm vk vx; pure Next.skip) := by
  obtain ⟨b, rs, e1, rfl, h3, h4, h5, h6⟩ := mapOf_rel hR rm hm
  have := toV_rel hk rk; subst this
  obtain ⟨c1', r', c2, c3, c4⟩ := findK_rel h6 hf
  rcases hr with ⟨i, en, rfl, hen, hsb, rfl⟩ | ⟨rfl, rfl⟩
  · cases r' with
    | none => simp at c3
    | some jv =>
      obtain ⟨j, v⟩ := jv
      simp at c3; subst c3
      obtain ⟨ent, g1, rfl⟩ := c4 j v rfl
      obtain ⟨r2, g2, g4, g5, g3⟩ := h6.get j en hen
      rw [g1] at g2; cases g2
      have g1' : rs[j]? = some ent := by simpa using g1
      refine OpOK.unit ?_ (.refl _) (put_map hR (rs' := rs.modify j fun e => { e with key := vk, val := vx }) h3 h5 ?_)
      · simp [Instr.mapUpdate, run_underlying_of hu, run_getMap h5, c1', c2, g1', keyStays (by rw [g4]; exact hsb : Instr.sameBits 10000 ent.key vk = true), run_setMap h5]
      · rw [modify_set rs j ent _ g1]
        exact h6.set j rfl g5 rx
  · cases r' with
    | some jv => simp at c3
    | none =>
      refine OpOK.unit ?_ (.refl _) (put_map hR (rs' := rs.push { key := vk, val := vx, born := clock }) h3 h5 ?_)
      · simp [Instr.mapUpdate, run_underlying_of hu, run_getMap h5, c1', c2, run_setMap h5]
      · rw [Array.toList_push]; exact h6.append rfl rfl rx

theorem ok_mapentry {t kt e : TypeId} {zv : Value} {m k r : AV} {vm vk kv : Value} {a clock : Nat} {es : List MEnt} {o : Option Nat} {st' : St} (hu : P.underlying t = some (.map kt e)) (hz : (P.info? e).bind (·.zero) = some zv)
    (hR : Rel P G st w) (rm : VRel G m vm) (rk : VRel G k vk) (hm : mapOf st m = some (a, es, clock)) (hk : k.toV = some kv) (hf : findK P false kt kv es = some o)
    (hr : (∃ i en, o = some i ∧ es[i]? = some en ∧ Instr.sameBits 10000 en.key kv = true ∧ r = .tup [en.val, .int en.born] ∧ st' = st.set a (.map (es.set i { en with key := kv }) clock)) ∨
      (o = none ∧ r = .tup [ofV zv, .int clock] ∧ st' = st.set a (.map (es ++ [⟨kv, ofV zv, clock⟩]) (clock + 1)))) :
    OpOK P G st' r w (do pure (Next.value (← Instr.mapEntry t vm vk))) := by
  obtain ⟨b, rs, e1, rfl, h3, h4, h5, h6⟩ := mapOf_rel hR rm hm
  have := toV_rel hk rk; subst this
  obtain ⟨c1', r', c2, c3, c4⟩ := findK_rel h6 hf
  have hzr : ∀ w, (zeroValue e).run P w = .ok zv w := fun w => by
    rw [Option.bind_eq_some_iff] at hz; obtain ⟨i, g1, g2⟩ := hz
    simp [zeroValue, typeInfo, g1, g2]
  rcases hr with ⟨i, en, rfl, hen, hsb, rfl, rfl⟩ | ⟨rfl, rfl, rfl⟩
  · cases r' with
    | none => simp at c3
    | some jv =>
      obtain ⟨j, v⟩ := jv
      simp at c3; subst c3
      obtain ⟨ent, g1, rfl⟩ := c4 j v rfl
      obtain ⟨r2, g2, g4, g5, g3⟩ := h6.get j en hen
      rw [g1] at g2; cases g2
      have g1' : rs[j]? = some ent := by simpa using g1
      refine OpOK.val (y := .tuple #[ent.val, goInt ent.born]) ?_ (.refl _) (put_map hR (rs' := rs.modify j fun e => { e with key := vk }) h3 h5 ?_) ?_
      · simp [Instr.mapEntry, run_underlying_of hu, run_getMap h5, c1', c2, g1', keyStays (by rw [g4]; exact hsb : Instr.sameBits 10000 ent.key vk = true), run_setMap h5]
      · rw [modify_set rs j ent _ g1]
        exact h6.set j rfl g5 g3
      · simp only [VRel, VRels]; exact ⟨_, rfl, _, _, rfl, g3, _, _, rfl, by rw [g5]; rfl, rfl⟩
  · cases r' with
    | some jv => simp at c3
    | none =>
      refine OpOK.val (y := .tuple #[zv, goInt clock]) ?_ (.refl _) (put_map hR (rs' := rs.push { key := vk, val := zv, born := clock }) h3 h5 ?_) ?_
      · simp [Instr.mapEntry, run_underlying_of hu, run_getMap h5, c1', c2, hzr, run_setMap h5]
      · rw [Array.toList_push]; exact h6.append rfl rfl (VRel.ofV G zv)
      · simp only [VRel, VRels]; exact ⟨_, rfl, _, _, rfl, VRel.ofV G zv, _, _, rfl, rfl, rfl⟩

theorem ok_entrystore {t : TypeId} {m s x : AV} {vm vs vx : Value} {a clock i : Nat} {es : List MEnt} {en : MEnt} {b : Int}
    (hR : Rel P G st w) (rm : VRel G m vm) (rs : VRel G s vs) (rx : VRel G x vx) (hm : mapOf st m = some (a, es, clock)) (hs : intOf? s = some b) (hf : es.findIdx? (fun e => (e.born : Int) == b) = some i) (hen : es[i]? = some en) :
    OpOK P G (st.set a (.map (es.set i { en with val := x }) clock)) .junk w (do Instr.entryStore t vm vs vx; pure Next.skip) := by
  obtain ⟨bb, rs', e1, rfl, h3, h4, h5, h6⟩ := mapOf_rel hR rm hm
  obtain ⟨k, rfl⟩ := intOf_rel hs rs
  obtain ⟨ent, g1, g4, g5, g3⟩ := h6.get i en hen
  have hfi : rs'.findIdx? (fun e => (e.born : Int) == b) = some i := by
    have := h6.find b
    rw [hf] at this
    rw [← List.findIdx?_toArray] at this
    exact this
  refine OpOK.unit ?_ (.refl _) (put_map hR (rs' := rs'.modify i fun e => { e with val := vx }) h3 h5 ?_)
  · simp [Instr.entryStore, run_getMap h5, asInt, asIntOf, hfi, run_setMap h5]
  · rw [modify_set rs' i ent _ g1]
    exact h6.set i g4 g5 rx

theorem ok_mkmap {t : TypeId} (hR : Rel P G st w) : OpOK P G (st.alloc (.map [] 0)) (.map st.next) w (do pure (Next.value (← Instr.makeMap t none))) := by
  obtain ⟨G', h1, h2, h3, _⟩ := hR.alloc_obj (.map [] 0) (.map #[] 0) (by intro l s e; cases e) (fun G' hle hmu => ⟨_, #[], hmu, World.alloc_heap_new _ _, rfl⟩)
  refine OpOK.val (y := .map (some w.heap.size)) ?_ h1 h2 (by simp [VRel, h3])
  simp [Instr.makeMap]

theorem ok_copy {argTypes : Array TypeId} {ty t e : TypeId} {args : Array Value} {sz : Nat} {y : AV} {vx vy : Value} {a off len cap k : Nat} {ys cs : List AV}
    (h1 : argTypes[0]? = some t) (h3 : args[0]? = some vx) (h4 : args[1]? = some vy) (hu : P.underlying t = some (.slice e)) (hs : tsize P e = some sz) (hR : Rel P G st w) (rx : VRel G (.ms a off len cap) vx) (ry : VRel G y vy)
    (hsrc : srcCells st sz y = some (ys, k)) (hcs : st.get a = some (.cells cs)) (hc : ys.all AV.one = true ∧ off + len * sz ≤ cs.length ∧ ys.length = k * sz) :
    OpOK P G (st.set a (.cells (splice cs off (ys.take (Nat.min k len * sz))))) (.int (Nat.min k len)) w (do pure (Next.value (← Builtin.copy_ argTypes ty args))) := by
  obtain ⟨us, ru, hus⟩ := src_rel hR ry hsrc
  simp only [VRel] at rx; obtain ⟨bb, hm, rfl⟩ := rx
  obtain ⟨b', vs, te, h5, h6, h7⟩ := hR.obj _ _ _ hcs hm
  rw [hm] at h5; cases h5
  have hl7 := h7.length
  have hlu := ru.length
  obtain ⟨c1, c2, c3⟩ := hc
  have hn := (hus w rfl).2 (Nat.min k len) (Nat.min_le_left _ _) c3
  have rt : VRels G (ys.take (Nat.min k len * sz)) (us.extract 0 (Nat.min k len * sz)).toList := by
    have := extract_list us 0 (Nat.min k len * sz)
    rw [Nat.zero_add, List.drop_zero] at this
    rw [this]; exact ru.take _
  have hfit : off + 0 + (us.extract 0 (Nat.min k len * sz)).toList.length ≤ vs.size := by
    rw [← rt.length]
    have h8 : Nat.min k len * sz ≤ len * sz := Nat.mul_le_mul_right _ (Nat.min_le_right _ _)
    simp only [List.length_take]
    simp at hl7
    omega
  have hone : (ys.take (Nat.min k len * sz)).all AV.one = true := by
    rw [List.all_eq_true] at c1 ⊢
    exact fun x hx => c1 x (List.mem_of_mem_take hx)
  refine OpOK.val (y := goInt (Nat.min k len : Nat)) ?_ (.refl _) (put_cells hR off hcs hm h6 h7 rt) (by simp [VRel, goInt])
  have hrun := run_storeCells (P := P) _ 0 w bb off vs te h6 (ones_rel hone rt) hfit
  simp only [Builtin.copy_, h1, h3, h4, Sem.run_bind, run_underlying_of hu, Result.andThen_ok, (hus w rfl).1, run_sizeOf_of hs, hn, hrun, Sem.run_pure]
  rfl

theorem ok_mnmx {argTypes : Array TypeId} {ty : TypeId} {mx : Bool} {xs : List AV} {args : Array Value} {vs : List Value} {r : Value} (hR : Rel P G st w) (hx : VRels G xs args.toList) (hv : toVs xs = some vs)
    (h : evSem P (if mx then Builtin.max_ #[] 0 vs.toArray else Builtin.min_ #[] 0 vs.toArray) = some r) :
    OpOK P G st (.v r) w (do pure (Next.value (← (if mx then Builtin.max_ argTypes ty args else Builtin.min_ argTypes ty args)))) := by
  have := toVs_rel hv hx
  have e : args = vs.toArray := by apply Array.ext'; simpa using this
  subst e
  exact OpOK.same (by cases mx <;> exact evSem_run _ h w) hR (by simp [VRel])
end
end Go.EF
end
