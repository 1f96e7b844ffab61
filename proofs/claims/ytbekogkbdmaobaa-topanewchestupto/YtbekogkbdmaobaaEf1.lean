/- Definitions of the framework: abstract values, states, resolved code, the relation to the machine. No conditions. -/
import Derived.RangeFuncLeaves
import Derived.RangeFuncRecord
import Derived.Below
import Derived.Laws.Sem

namespace Go.EF
open Go Go.RowKit

/-- What is known of the room behind a list: nothing; none; the room of a live growing row. -/
inductive Own where
  | any
  | exact
  | tok (a : Nat)
  deriving Inhabited

inductive AV where
  | junk
  | v (x : Value)
  | ptr (a off : Nat)
  | lptr (cells : List AV) (off : Nat)
  | list (own : Own) (cells : List AV) (n : Nat)
  | ms (a off len cap : Nat)
  | mx (a len : Nat)
  | map (a : Nat)
  | fn (f : Nat) (first captured : List AV)
  | yld (l : Nat)
  | agg (cells : List AV)
  | tup (vs : List AV)
  deriving Inhabited

abbrev AV.int (n : Int) : AV := .v (.int .i64 n)
abbrev AV.bool (b : Bool) : AV := .v (.bool b)
abbrev AV.str (s : ByteArray) : AV := .v (.string s)

def AV.cells : AV → List AV
  | .agg cs => cs
  | x => [x]

/-- One cell of a memory (no struct, no tuple). -/
def AV.one : AV → Bool
  | .agg _ | .tup _ | .junk => false
  | .v x => x.oneCell'
  | _ => true

/-- The abstract value of a closed value (a constant, a zero value). -/
def ofV : Value → AV
  | .slice none 0 0 => .list .exact [] 0
  | .agg cs => .agg (cs.toList.map fun | .slice none 0 0 => .list .exact [] 0 | x => .v x)
  | x => .v x

inductive Opd where
  | tmp (t : Nat)
  | const (x : AV)

inductive LK where
  | str
  | sl
  | mp

inductive COp where
  | mov (x : Opd)
  | pick (c a b : Opd)
  | alloc (zero : List AV)
  | box (x : Opd)
  | build (zero : List AV) (parts : List (Nat × Nat × Opd))
  | lit (zero : List AV) (n : Nat) (parts : List (Nat × Nat × Opd))
  | load (agg : Bool) (sz : Nat) (a : Opd)
  | store (sz : Nat) (a x : Opd)
  | nilchk (x : Opd)
  | bin (op : BinOp) (t : TypeId) (x y : Opd)
  | un (op : UnOp) (x : Opd)
  | conv (k : IntKind) (x : Opd)
  | mkfn (f : Nat) (first captured : List Opd)
  | mkmap
  | mkslice (zero : List AV) (sz bytes : Nat) (len cap : Opd)
  | slicearr (n sz : Nat) (x : Opd) (lo hi : Option Opd)
  | slice (sz : Nat) (x : Opd) (lo hi mx : Option Opd)
  | slicestr (x : Opd) (lo hi : Option Opd)
  | faddr (off : Nat) (x : Opd)
  | field (agg : Bool) (off sz : Nat) (x : Opd)
  | iaddr (sz : Nat) (x i : Opd)
  | iaddrarr (n sz : Nat) (x i : Opd)
  | index (agg : Bool) (n sz : Nat) (x i : Opd)
  | indexstr (x i : Opd)
  | lookup (keyT : TypeId) (zero : AV) (commaOk : Bool) (m k : Opd)
  | mapset (keyT : TypeId) (m k x : Opd)
  | mapentry (keyT : TypeId) (zero : AV) (m k : Opd)
  | entrystore (m s x : Opd)
  | extract (x : Opd) (i : Nat)
  | len (k : LK) (x : Opd)
  | append (sz bytes : Nat) (zero : List AV) (x y : Opd)
  | copy (sz : Nat) (x y : Opd)
  | mnmx (max : Bool) (xs : List Opd)
  | srange (x : Opd)
  | snext (x : Opd)
  | call (f : Nat) (args : List Opd)
  | callv (f : Opd) (args : List Opd)

structure GOp where
  dst : Option Nat
  guard : Option (Nat × Bool)
  op : COp

inductive CC where
  | skip
  | ops (l : List GOp)
  | draw (l : List GOp) (before : List (List Nat))
  | seq (a b : CC)
  | cond (c : Opd) (a b : CC)
  | block (id : Nat) (c : CC)
  | loop (c : CC)
  | rangef (f : Opd) (ps : List Nat) (assign body : Code)
  | exit (id : Nat)
  | ret

inductive Jmp where
  | normal
  | ret
  | exit (id : Nat)
  deriving DecidableEq

structure MEnt where
  key : Value
  val : AV
  born : Nat

inductive AObj where
  | cells (cs : List AV)
  | vec (cs : List AV)
  | arr (live : Bool) (sz : Nat)
  | map (es : List MEnt) (clock : Nat)
  | sit (s : ByteArray) (pos : Nat)
  | loop (state : LoopState) (pending : Option Jmp) (fr : Nat → AV) (N : Nat) (ps : List Nat) (assign body : Code)

structure St where
  objs : List AObj

namespace St
def next (s : St) : Nat := s.objs.length
def get (s : St) (a : Nat) : Option AObj := s.objs[a]?
def alloc (s : St) (o : AObj) : St := ⟨s.objs ++ [o]⟩
def set (s : St) (a : Nat) (o : AObj) : St := ⟨s.objs.set a o⟩
end St

/-- A world that is looked back at, and which of its blocks stay as they are. -/
structure WB where
  w : World
  kp : Nat → Prop
  lt : ∀ k, kp k → k < w.heap.size

/-- What has come of a world: the outside is as it was, and so are the blocks that stay. -/
structure BelowK (W : WB) (w' : World) : Prop where
  os : w'.os = W.w.os
  tape : w'.tape = W.w.tape
  output : w'.output = W.w.output
  size : W.w.heap.size ≤ w'.heap.size
  block : ∀ k, W.kp k → w'.heap[k]? = W.w.heap[k]?

theorem BelowK.step {W : WB} {a c : World} (h : BelowK W a) (h1 : c.os = a.os) (h2 : c.tape = a.tape) (h3 : c.output = a.output) (h4 : a.heap.size ≤ c.heap.size) (h5 : ∀ k, W.kp k → c.heap[k]? = a.heap[k]?) : BelowK W c :=
  ⟨h1.trans h.os, h2.trans h.tape, h3.trans h.output, Nat.le_trans h.size h4, fun k hk => (h5 k hk).trans (h.block k hk)⟩
theorem BelowK.fresh {W : WB} {a : World} (h : BelowK W a) {b : Nat} (hb : a.heap.size ≤ b) : ¬ W.kp b := fun k => by have := W.lt b k; have := h.size; omega
theorem BelowK.alloc {W : WB} {a : World} (h : BelowK W a) (o : Obj) : BelowK W (a.alloc o) :=
  h.step rfl rfl rfl (by simp) fun k hk => Below.heap_alloc a o k (by have := W.lt k hk; have := h.size; omega)

/-- The ghost: where the objects lie; which cells are frozen, and what they hold; where growing rows lie (block, length, room); the blocks of deferred calls; the blocks of loops. -/
structure Gh where
  w0 : WB
  nx : Nat
  mu : Nat → Option Nat
  fz : Nat → Nat → Option Value
  arr : Nat → Option (Nat × Nat × Nat)
  dfr : List Nat
  lps : List Nat

def FzAt (G : Gh) (b o : Nat) (ys : List Value) : Prop := ∀ i y, ys[i]? = some y → G.fz b (o + i) = some y

def OwnRel (G : Gh) (base : Option Addr) (n cap : Nat) : Own → Prop
  | .any => True
  | .exact => cap = n
  | .tok a => ∃ b, G.arr a = some (b, n, cap) ∧ base = some ⟨b, 0, none⟩

mutual
def VRel (G : Gh) : AV → Value → Prop
  | .junk, _ => True
  | .v x, y => y = x
  | .ptr a off, y => ∃ b, G.mu a = some b ∧ y = .pointer (some ⟨b, off, none⟩)
  | .lptr cs off, y => ∃ b o ys, y = .pointer (some ⟨b, o + off, none⟩) ∧ FzAt G b o ys ∧ VRels G cs ys
  | .list own cs n, y => ∃ base cap, y = .slice base n cap ∧ n ≤ cap ∧ OwnRel G base n cap own ∧
      ∃ ys, VRels G cs ys ∧ (ys ≠ [] → ∃ b o, base = some ⟨b, o, none⟩ ∧ FzAt G b o ys)
  | .ms a off len cap, y => ∃ b, G.mu a = some b ∧ y = .slice (some ⟨b, off, none⟩) len cap
  | .mx a len, y => ∃ b cap, G.mu a = some b ∧ y = .slice (some ⟨b, 0, none⟩) len cap
  | .map a, y => ∃ b, G.mu a = some b ∧ y = .map (some b)
  | .fn f first cap, y => ∃ fa ca, y = .func (.func f) fa ca ∧ VRels G first fa.toList ∧ VRels G cap ca.toList
  | .yld l, y => ∃ b, G.mu l = some b ∧ y = .func (.yield b) #[] #[]
  | .agg cs, y => ∃ ys, y = .agg ys ∧ VRels G cs ys.toList
  | .tup cs, y => ∃ ys, y = .tuple ys ∧ VRels G cs ys.toList
def VRels (G : Gh) : List AV → List Value → Prop
  | [], ys => ys = []
  | x :: xs, ys => ∃ y ys', ys = y :: ys' ∧ VRel G x y ∧ VRels G xs ys'
end

structure Gh.le (G G' : Gh) : Prop where
  w0 : G'.w0 = G.w0
  nx : G.nx ≤ G'.nx
  old : ∀ a, a < G.nx → G'.mu a = G.mu a
  mu : ∀ a b, G.mu a = some b → G'.mu a = some b
  fz : ∀ b o y, G.fz b o = some y → G'.fz b o = some y
  arr : ∀ a x, G.arr a = some x → G'.arr a = some x
  dfr : ∀ r, r ∈ G.dfr → r ∈ G'.dfr
  lps : ∀ r, r ∈ G.lps → r ∈ G'.lps

theorem Gh.le.refl (G : Gh) : G.le G := ⟨rfl, Nat.le_refl _, fun _ _ => rfl, fun _ _ h => h, fun _ _ _ h => h, fun _ _ h => h, fun _ h => h, fun _ h => h⟩
theorem Gh.le.trans {A B C : Gh} (h : A.le B) (k : B.le C) : A.le C :=
  ⟨k.w0.trans h.w0, Nat.le_trans h.nx k.nx, fun a ha => (k.old a (Nat.lt_of_lt_of_le ha h.nx)).trans (h.old a ha), fun a b x => k.mu a b (h.mu a b x), fun a b c x => k.fz a b c (h.fz a b c x), fun a b x => k.arr a b (h.arr a b x), fun a x => k.dfr a (h.dfr a x), fun a x => k.lps a (h.lps a x)⟩

structure Gh.sub (G G' : Gh) : Prop where
  mu : ∀ a b, G.mu a = some b → G'.mu a = some b
  fz : ∀ b o y, G.fz b o = some y → G'.fz b o = some y
  arr : ∀ a x, G.arr a = some x → G'.arr a = some x

theorem Gh.le.sub {G G' : Gh} (h : G.le G') : G.sub G' := ⟨h.mu, h.fz, h.arr⟩

theorem FzAt.mono' {G G' : Gh} (h : G.sub G') {b o : Nat} {ys : List Value} (f : FzAt G b o ys) : FzAt G' b o ys := fun i y e => h.fz _ _ _ (f i y e)

theorem OwnRel.mono' {G G' : Gh} (h : G.sub G') {base : Option Addr} {n cap : Nat} {o : Own} (f : OwnRel G base n cap o) : OwnRel G' base n cap o := by
  cases o with
  | any => trivial
  | exact => exact f
  | tok a => obtain ⟨b, h1, h2⟩ := f; exact ⟨b, h.arr _ _ h1, h2⟩

mutual
theorem VRel.mono' {G G' : Gh} (h : G.sub G') : ∀ (x : AV) (y : Value), VRel G x y → VRel G' x y
  | .junk, _, _ => by simp [VRel]
  | .v x, y, f => by simpa [VRel] using f
  | .ptr a off, y, f => by
    simp only [VRel] at f ⊢; obtain ⟨b, h1, h2⟩ := f; exact ⟨b, h.mu _ _ h1, h2⟩
  | .lptr cs off, y, f => by
    simp only [VRel] at f ⊢; obtain ⟨b, o, ys, h1, h2, h3⟩ := f; exact ⟨b, o, ys, h1, h2.mono' h, VRels.mono' h cs ys h3⟩
  | .list own cs n, y, f => by
    simp only [VRel] at f ⊢; obtain ⟨base, cap, h1, h2, h3, ys, h4, h5⟩ := f
    exact ⟨base, cap, h1, h2, h3.mono' h, ys, VRels.mono' h cs ys h4, fun e => let ⟨b, o, e1, e2⟩ := h5 e; ⟨b, o, e1, e2.mono' h⟩⟩
  | .ms a off len cap, y, f => by
    simp only [VRel] at f ⊢; obtain ⟨b, h1, h2⟩ := f; exact ⟨b, h.mu _ _ h1, h2⟩
  | .mx a len, y, f => by
    simp only [VRel] at f ⊢; obtain ⟨b, c, h1, h2⟩ := f; exact ⟨b, c, h.mu _ _ h1, h2⟩
  | .map a, y, f => by
    simp only [VRel] at f ⊢; obtain ⟨b, h1, h2⟩ := f; exact ⟨b, h.mu _ _ h1, h2⟩
  | .fn f first cap, y, g => by
    simp only [VRel] at g ⊢; obtain ⟨fa, ca, h1, h2, h3⟩ := g
    exact ⟨fa, ca, h1, VRels.mono' h first _ h2, VRels.mono' h cap _ h3⟩
  | .yld l, y, f => by
    simp only [VRel] at f ⊢; obtain ⟨b, h1, h2⟩ := f; exact ⟨b, h.mu _ _ h1, h2⟩
  | .agg cs, y, f => by
    simp only [VRel] at f ⊢; obtain ⟨ys, h1, h2⟩ := f; exact ⟨ys, h1, VRels.mono' h cs _ h2⟩
  | .tup cs, y, f => by
    simp only [VRel] at f ⊢; obtain ⟨ys, h1, h2⟩ := f; exact ⟨ys, h1, VRels.mono' h cs _ h2⟩
theorem VRels.mono' {G G' : Gh} (h : G.sub G') : ∀ (xs : List AV) (ys : List Value), VRels G xs ys → VRels G' xs ys
  | [], ys, f => by simpa [VRels] using f
  | x :: xs, ys, f => by
    simp only [VRels] at f ⊢; obtain ⟨y, ys', h1, h2, h3⟩ := f
    exact ⟨y, ys', h1, VRel.mono' h x y h2, VRels.mono' h xs ys' h3⟩
end

theorem FzAt.mono {G G' : Gh} (h : G.le G') {b o : Nat} {ys : List Value} (f : FzAt G b o ys) : FzAt G' b o ys := f.mono' h.sub
theorem OwnRel.mono {G G' : Gh} (h : G.le G') {base : Option Addr} {n cap : Nat} {o : Own} (f : OwnRel G base n cap o) : OwnRel G' base n cap o := f.mono' h.sub
theorem VRel.mono {G G' : Gh} {x : AV} {y : Value} (f : VRel G x y) (h : G.le G') : VRel G' x y := VRel.mono' h.sub x y f
theorem VRels.mono {G G' : Gh} {xs : List AV} {ys : List Value} (f : VRels G xs ys) (h : G.le G') : VRels G' xs ys := VRels.mono' h.sub xs ys f

end Go.EF
