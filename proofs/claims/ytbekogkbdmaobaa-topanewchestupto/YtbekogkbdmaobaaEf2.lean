/- The resolved code and its deterministic meaning; the relation to the machine's worlds. No conditions. -/
import Derived.Test.YtbekogkbdmaobaaEf1
namespace Go.EF
open Go Go.RowKit

/-- A computation that looks at no world. -/
def evSem {α : Type} (P : Program) : Sem α → Option α
  | .pure a => some a
  | .program k => evSem P (k P)
  | .mark _ k => evSem P k
  | _ => none

theorem evSem_run {α : Type} {P : Program} : ∀ (s : Sem α) {a : α}, evSem P s = some a → ∀ w, s.run P w = .ok a w
  | .pure a, b, h, w => by simp only [evSem, Option.some.injEq] at h; subst h; rfl
  | .program k, b, h, w => by simp only [evSem] at h; exact evSem_run (k P) h w
  | .mark m k, b, h, w => by simp only [evSem] at h; exact evSem_run k h w
  | .load .., _, h, _ => by simp [evSem] at h
  | .store .., _, h, _ => by simp [evSem] at h
  | .new .., _, h, _ => by simp [evSem] at h
  | .shape .., _, h, _ => by simp [evSem] at h
  | .freeze .., _, h, _ => by simp [evSem] at h
  | .frozen .., _, h, _ => by simp [evSem] at h
  | .getObj .., _, h, _ => by simp [evSem] at h
  | .setObj .., _, h, _ => by simp [evSem] at h
  | .choose .., _, h, _ => by simp [evSem] at h
  | .sys .., _, h, _ => by simp [evSem] at h
  | .halt .., _, h, _ => by simp [evSem] at h

def AV.toV1 : AV → Option Value
  | .v x => some x
  | _ => none
def toVs : List AV → Option (List Value)
  | [] => some []
  | x :: xs => match x.toV1, toVs xs with | some y, some ys => some (y :: ys) | _, _ => none
/-- The machine's value where it holds no place. -/
def AV.toV : AV → Option Value
  | .v x => some x
  | .agg cs => (toVs cs).map fun ys => .agg ys.toArray
  | _ => none

def opd : Operand → Option Opd
  | .tmp t => some (.tmp t)
  | .const x => some (.const (ofV x))
  | .func f => some (.const (.fn f [] []))
  | .global _ => none

def opds (xs : Array Operand) : Option (List Opd) := xs.toList.mapM opd

def Opd.ev (fr : Nat → AV) : Opd → AV
  | .tmp t => fr t
  | .const x => x

def upd (fr : Nat → AV) (d : Nat) (x : AV) : Nat → AV := fun i => if i = d then x else fr i
def updo (fr : Nat → AV) (d : Option Nat) (x : AV) : Nat → AV := match d with | some d => upd fr d x | none => fr

/-! ### Resolving -/
def tzero (P : Program) (t : TypeId) : Option (List AV) :=
  match P.info? t with
  | some i => match i.zero with
    | some z => if z.cells.size = i.size then some (ofV z).cells else none
    | none => none
  | none => none
def tsize (P : Program) (t : TypeId) : Option Nat := (P.info? t).map (·.size)
def tagg (P : Program) (t : TypeId) : Option Bool := (P.underlying t).map fun | .struct _ | .array _ _ => true | _ => false

def rep {α : Type} (z : List α) : Nat → List α
  | 0 => []
  | n + 1 => z ++ rep z n

def compParts (pl : Nat → Option (Nat × Nat)) : List (Nat × Operand) → Option (List (Nat × Nat × Opd))
  | [] => some []
  | (i, x) :: r => match pl i, opd x, compParts pl r with
    | some (off, sz), some o, some r => some ((off, sz, o) :: r)
    | _, _, _ => none

def optOpd : Option Operand → Option (Option Opd)
  | none => some none
  | some x => (opd x).map some

def isStrT : Option TypeDesc → Bool
  | some .string => true
  | _ => false
theorem isStrT_spec {t : Option TypeDesc} (h : isStrT t = true) : t = some .string := by
  unfold isStrT at h; split at h
  · rfl
  · cases h

def compOp (P : Program) (o : Oper) : Option COp :=
  match o.op with
  | .move x => (opd x).map .mov
  | .assign x => (opd x).map .mov
  | .pick c a b => match opd c, opd a, opd b with | some c, some a, some b => some (.pick c a b) | _, _, _ => none
  | .alloc t => (tzero P t).map .alloc
  | .box _ x => (opd x).map .box
  | .build t parts => match P.underlying t, tzero P t with
    | some (.struct fields), some z =>
      match fields.toList.mapM (fun f => (tsize P f.type).map fun s => (f.offset, s)) with
      | some places => (compParts (fun i => places[i]?) parts.toList).map (.build z)
      | none => none
    | some (.array _ e), some z => match tsize P e with
      | some s => (compParts (fun i => some (i * s, s)) parts.toList).map (.build z)
      | none => none
    | _, _ => none
  | .buildSlice t n parts => match P.underlying t with
    | some (.slice e) => match tsize P e, tzero P e with
      | some s, some z => if n * s ≤ 2 ^ 24 ∧ 0 < s then (compParts (fun i => some (i * s, s)) parts.toList).map (.lit (rep z n) n) else none
      | _, _ => none
    | _ => none
  | .load t a => match tagg P t, tsize P t, opd a with | some g, some s, some a => some (.load g s a) | _, _, _ => none
  | .store t a x => match tsize P t, opd a, opd x with | some s, some a, some x => some (.store s a x) | _, _, _ => none
  | .nilCheck x => (opd x).map .nilchk
  | .binOp op t x y _ => match opd x, opd y with | some x, some y => some (.bin op t x y) | _, _ => none
  | .unOp op _ x => (opd x).map (.un op)
  | .convert s d x => match P.underlying s, P.underlying d with | some _, some (.int k) => (opd x).map (.conv k) | _, _ => none
  | .makeFunc (.func f) first captured => match opds first, opds captured with | some a, some b => some (.mkfn f a b) | _, _ => none
  | .makeMap _ none => some .mkmap
  | .makeSlice t l c => match P.underlying t with
    | some (.slice e) => match P.info? e, tzero P e, opd l, opd c with
      | some i, some z, some l, some c => if 0 < i.bytes ∧ 0 < i.size then some (.mkslice z i.size i.bytes l c) else none
      | _, _, _, _ => none
    | _ => none
  | .slice t x lo hi mx => match P.underlying t with
    | some (.array n e) => match tsize P e, opd x, optOpd lo, optOpd hi, mx with
      | some s, some x, some lo, some hi, none => some (.slicearr n s x lo hi)
      | _, _, _, _, _ => none
    | some (.slice e) => match tsize P e, opd x, optOpd lo, optOpd hi, optOpd mx with
      | some s, some x, some lo, some hi, some mx => some (.slice s x lo hi mx)
      | _, _, _, _, _ => none
    | some .string => match opd x, optOpd lo, optOpd hi, mx with
      | some x, some lo, some hi, none => some (.slicestr x lo hi)
      | _, _, _, _ => none
    | _ => none
  | .fieldAddr s x f => match P.underlying s with
    | some (.struct fields) => match fields[f]? with
      | some fd => match tsize P fd.type, opd x with
        | some (_ + 1), some x => some (.faddr fd.offset x)
        | _, _ => none
      | none => none
    | _ => none
  | .field s x f => match P.underlying s with
    | some (.struct fields) => match fields[f]? with
      | some fd => match tagg P fd.type, tsize P fd.type, opd x with
        | some g, some n, some x => some (.field g fd.offset n x)
        | _, _, _ => none
      | none => none
    | _ => none
  | .indexAddr t x i => match P.underlying t with
    | some (.slice e) => match tsize P e, opd x, opd i with | some s, some x, some i => if 0 < s then some (.iaddr s x i) else none | _, _, _ => none
    | some (.array n e) => match tsize P e, opd x, opd i with | some s, some x, some i => some (.iaddrarr n s x i) | _, _, _ => none
    | _ => none
  | .index t x i => match P.underlying t with
    | some (.array n e) => match tagg P e, tsize P e, opd x, opd i with | some g, some s, some x, some i => some (.index g n s x i) | _, _, _, _ => none
    | some .string => match opd x, opd i with | some x, some i => some (.indexstr x i) | _, _ => none
    | _ => none
  | .lookup t m k ok => match P.underlying t with
    | some (.map kt e) => match (P.info? e).bind (·.zero), opd m, opd k with | some z, some m, some k => some (.lookup kt (ofV z) ok m k) | _, _, _ => none
    | _ => none
  | .mapUpdate t m k x => match P.underlying t with
    | some (.map kt _) => match opd m, opd k, opd x with | some m, some k, some x => some (.mapset kt m k x) | _, _, _ => none
    | _ => none
  | .mapEntry t m k => match P.underlying t with
    | some (.map kt e) => match (P.info? e).bind (·.zero), opd m, opd k with | some z, some m, some k => some (.mapentry kt (ofV z) m k) | _, _, _ => none
    | _ => none
  | .entryStore _ m s x => match opd m, opd s, opd x with | some m, some s, some x => some (.entrystore m s x) | _, _, _ => none
  | .extract x i => (opd x).map (.extract · i)
  | .range t x => if isStrT (P.underlying t) = true then (opd x).map .srange else none
  | .next x true => (opd x).map .snext
  | .call c => match c.callee with
    | .builtin .len => match c.argTypes[0]?, c.args[0]? with
      | some t, some x => match P.underlying t with
        | some (.array n _) => some (.mov (.const (.int n)))
        | some .string => (opd x).map (.len .str)
        | some (.slice _) => (opd x).map (.len .sl)
        | some (.map _ _) => (opd x).map (.len .mp)
        | _ => none
      | _, _ => none
    | .builtin .append => match c.argTypes[0]?, c.argTypes[1]?, c.args[0]?, c.args[1]? with
      | some t, some t', some x, some y => match P.underlying t, P.underlying t' with
        | some (.slice e), some (.slice _) | some (.slice e), some .string => match P.info? e, tzero P e, opd x, opd y with
          | some i, some z, some x, some y => if 0 < i.bytes ∧ 0 < i.size then some (.append i.size i.bytes z x y) else none
          | _, _, _, _ => none
        | _, _ => none
      | _, _, _, _ => none
    | .builtin .copy => match c.argTypes[0]?, c.args[0]?, c.args[1]? with
      | some t, some x, some y => match P.underlying t with
        | some (.slice e) => match tsize P e, opd x, opd y with
          | some s, some x, some y => some (.copy s x y)
          | _, _, _ => none
        | _ => none
      | _, _, _ => none
    | .builtin .max => (opds c.args).map (.mnmx true)
    | .builtin .min => (opds c.args).map (.mnmx false)
    | .value (.func f) => (opds c.args).map (.call f)
    | .value x => match opd x, opds c.args with | some x, some as => some (.callv x as) | _, _ => none
    | _ => none
  | _ => none

def dstOK (N : Nat) : Option Nat → Bool
  | some d => decide (d < N)
  | none => true

def compOper (P : Program) (N : Nat) (ops : Array Oper) (o : Oper) : Option GOp :=
  if dstOK N o.dst = true then
    match compOp P o with
    | some c => match o.guard with
      | none => some ⟨o.dst, none, c⟩
      | some (j, want) => match (ops[j]?).bind (·.dst) with
        | some d => some ⟨o.dst, some (d, want), c⟩
        | none => none
    | none => none
  else none

/-! ### Regions that draw their order -/
def Opd.slots : Opd → List Nat
  | .tmp t => [t]
  | .const _ => []
def oslots : Option Opd → List Nat
  | some o => o.slots
  | none => []
def COp.slots : COp → List Nat
  | .mov x | .srange x | .snext x | .box x | .nilchk x | .un _ x | .conv _ x | .faddr _ x | .field _ _ _ x | .extract x _ | .len _ x | .load _ _ x => x.slots
  | .pick c a b => c.slots ++ a.slots ++ b.slots
  | .alloc _ | .mkmap => []
  | .build _ ps | .lit _ _ ps => ps.flatMap fun p => p.2.2.slots
  | .store _ a x | .bin _ _ a x | .iaddr _ a x | .iaddrarr _ _ a x | .index _ _ _ a x | .indexstr a x | .lookup _ _ _ a x | .mapentry _ _ a x | .append _ _ _ a x | .copy _ a x | .mkslice _ _ _ a x => a.slots ++ x.slots
  | .mkfn _ a b => a.flatMap Opd.slots ++ b.flatMap Opd.slots
  | .slicearr _ _ x lo hi | .slicestr x lo hi => x.slots ++ oslots lo ++ oslots hi
  | .slice _ x lo hi mx => x.slots ++ oslots lo ++ oslots hi ++ oslots mx
  | .mapset _ a b c | .entrystore a b c => a.slots ++ b.slots ++ c.slots
  | .mnmx _ xs => xs.flatMap Opd.slots
  | .call _ xs => xs.flatMap Opd.slots
  | .callv f xs => f.slots ++ xs.flatMap Opd.slots

inductive Kd where
  | alloc
  | pure
  | read
  | eff
  deriving DecidableEq

def COp.kd : COp → Kd
  | .alloc _ => .alloc
  | .load .. | .lookup .. | .len .mp _ => .read
  | .srange _ | .snext _ | .box _ | .store .. | .mkmap | .mkslice .. | .mapset .. | .mapentry .. | .entrystore .. | .append .. | .copy .. | .call .. | .callv .. => .eff
  | _ => .pure

def GOp.slots (g : GOp) : List Nat := g.op.slots ++ (match g.guard with | some (d, _) => [d] | none => [])

def directs (o : Oper) : List Nat := (o.after.toList.filter (Region.binds .any)).map (·.on)
def ins (x : Nat) (l : List Nat) : List Nat := if l.contains x then l else x :: l
def befores (e : List (List Nat)) : List (List Nat) → List (List Nat)
  | [] => e
  | d :: r => befores (e ++ [(d ++ d.flatMap fun k => e.getD k []).foldr ins []]) r

def conflict (a b : GOp) : Bool :=
  (match a.dst with | some d => b.slots.contains d || b.dst == some d | none => false) ||
  (match b.dst with | some d => a.slots.contains d | none => false) ||
  (decide (a.op.kd = .eff) && decide (b.op.kd = .eff))

def drawOK (es : List (List Nat)) (l : List GOp) (bs : List (List Nat)) : Bool :=
  (List.range l.length).all fun i =>
    ((es.getD i []).all fun j => decide (j < i)) &&
    ((bs.getD i []).all fun j => (es.getD i []).contains j || (es.getD i []).any fun k => (bs.getD k []).contains j) &&
    (match l[i]? with
      | some g => (decide (g.op.kd ≠ .alloc) || (g.guard.isNone && g.dst.isSome)) && (List.range i).all fun j => match l[j]? with
        | some h => !conflict g h || (bs.getD i []).contains j
        | none => false
      | none => false)

def comp (P : Program) (N : Nat) : Code → Option CC
  | .skip => some .skip
  | .label _ => some .skip
  | .region _ ops draw => match ops.toList.mapM (compOper P N ops) with
    | some l =>
      if draw then
        let es := ops.toList.map directs
        let bs := befores [] es
        if P.follows .mixedOrders && drawOK es l bs then some (.draw l bs) else none
      else some (.ops l)
    | none => none
  | .seq a b => match comp P N a, comp P N b with | some a, some b => some (.seq a b) | _, _ => none
  | .cond c a b => match opd c, comp P N a, comp P N b with | some c, some a, some b => some (.cond c a b) | _, _, _ => none
  | .block id c => (comp P N c).map (.block id)
  | .loop c => (comp P N c).map .loop
  | .rangeFunc f ps a b => match opd f, comp P N a, comp P N b with
    | some f, some _, some _ => if ps.toList.all (· < N) then some (.rangef f ps.toList a b) else none
    | _, _, _ => none
  | .exit id => some (.exit id)
  | .scope c => comp P N c
  | .ret => some .ret
  | .goto _ => none
  | .refuse _ => none

/-! ### Operations -/
def splice {α : Type} (cs : List α) (off : Nat) (xs : List α) : List α := cs.take off ++ xs ++ cs.drop (off + xs.length)

def getCells (cs : List AV) (agg : Bool) (sz off : Nat) : Option AV :=
  if agg then (if 0 < sz ∧ off + sz ≤ cs.length then some (.agg ((cs.drop off).take sz)) else none) else cs[off]?

def AV.boxable (x : AV) : Bool := match x with | .agg _ => true | x => x.one

def fillA (ρ : Opd → AV) : List AV → List (Nat × Nat × Opd) → Option (List AV)
  | cs, [] => some cs
  | cs, (off, sz, o) :: r => if (ρ o).boxable ∧ (ρ o).cells.length = sz ∧ off + sz ≤ cs.length then fillA ρ (splice cs off (ρ o).cells) r else none

def loadS (st : St) (agg : Bool) (sz : Nat) : AV → Option AV
  | .ptr a off => match st.get a with | some (.cells cs) => getCells cs agg sz off | some (.vec cs) => getCells cs agg sz off | _ => none
  | .lptr cs off => getCells cs agg sz off
  | _ => none

def storeS (st : St) (sz : Nat) (p x : AV) : Option St :=
  match p with
  | .ptr a off => match st.get a with
    | some (.cells cs) => if x.boxable ∧ x.cells.all AV.one ∧ x.cells.length = sz ∧ off + sz ≤ cs.length then some (st.set a (.cells (splice cs off x.cells))) else none
    | some (.vec cs) => if x.boxable ∧ x.cells.all AV.one ∧ x.cells.length = sz ∧ off + sz ≤ cs.length then some (st.set a (.vec (splice cs off x.cells))) else none
    | _ => none
  | _ => none

def binV (P : Program) (op : BinOp) (t : TypeId) (x y : AV) : Option AV :=
  match x.toV, y.toV with
  | some .nilIface, _ => none
  | some a, some b => (evSem P (do eqGuard op t (.const (.nilIface)) (.const (.nilIface)) a b; binOp op t a b)).map .v
  | _, _ => none

def dents (es : List MEnt) : List MapEntry := es.map fun e => { key := e.key, val := undef, born := e.born }

/-- Where a key stands among a map's entries (none: the keys cannot be compared without a look at memory). -/
def findK (P : Program) (emp : Bool) (kt : TypeId) (k : Value) (es : List MEnt) : Option (Option Nat) :=
  evSem P (do Instr.checkKey emp 10000 kt k; let r ← Instr.findKey kt k (dents es); pure (r.map (·.1)))

def mapOf (st : St) (m : AV) : Option (Nat × List MEnt × Nat) :=
  match m with
  | .map a => match st.get a with | some (.map es clock) => some (a, es, clock) | _ => none
  | _ => none

def intOf? : AV → Option Int
  | .v (.int _ n) => some n
  | _ => none

/-- The cells of what is appended or copied, and how many elements. -/
def srcCells (st : St) (sz : Nat) : AV → Option (List AV × Nat)
  | .list _ cs n => if cs.length = n * sz then some (cs, n) else none
  | .ms a off len _ => match st.get a with
    | some (.cells cs) => if off + len * sz ≤ cs.length then some ((cs.drop off).take (len * sz), len) else none
    | _ => none
  | _ => none

def boundsOf (ρ : Opd → AV) (n cap : Nat) (lo hi mx : Option Opd) : Option (Nat × Nat × Nat) :=
  let m? : Option Nat := match mx with | none => some cap | some o => (match intOf? (ρ o) with | some i => if 0 ≤ i ∧ i ≤ cap then some i.toNat else none | none => none)
  match m? with
  | none => none
  | some m =>
    let h? : Option Nat := match hi, mx with
      | none, none => some n
      | none, some _ => none
      | some o, _ => match intOf? (ρ o) with | some i => if 0 ≤ i ∧ i ≤ m then some i.toNat else none | none => none
    match h? with
    | none => none
    | some h =>
      match lo with
      | none => some (0, h, m)
      | some o => match intOf? (ρ o) with | some i => if 0 ≤ i ∧ i ≤ h then some (i.toNat, h, m) else none | none => none

def evOp (P : Program) (ρ : Opd → AV) (st : St) : COp → Option (AV × St)
  | .mov x => some (ρ x, st)
  | .pick c a b => match ρ c with | .v (.bool true) => some (ρ a, st) | .v (.bool false) => some (ρ b, st) | _ => none
  | .alloc z => some (.ptr st.next 0, st.alloc (.cells z))
  | .box x => if (ρ x).boxable then some (.ptr st.next 0, st.alloc (.cells (ρ x).cells)) else none
  | .build z parts => match fillA ρ z parts with | some cs => some (.agg cs, st) | none => none
  | .lit z n parts => match fillA ρ z parts with | some cs => some (.list .exact cs n, st) | none => none
  | .load g s a => match loadS st g s (ρ a) with | some x => some (x, st) | none => none
  | .store s a x => match storeS st s (ρ a) (ρ x) with | some st' => some (.junk, st') | none => none
  | .nilchk x => match ρ x with | .ptr a o => some (.ptr a o, st) | .lptr cs o => some (.lptr cs o, st) | .fn f a b => some (.fn f a b, st) | .yld l => some (.yld l, st) | _ => none
  | .bin op t x y => match binV P op t (ρ x) (ρ y) with | some r => some (r, st) | none => none
  | .un op x => match (ρ x).toV with | some a => (match evSem P (Op.unary op a) with | some r => some (.v r, st) | none => none) | none => none
  | .conv k x => match ρ x with | .v (.int _ n) => some (.v (.int k (k.wrap n)), st) | _ => none
  | .mkfn f a b => some (.fn f (a.map ρ) (b.map ρ), st)
  | .mkmap => some (.map st.next, st.alloc (.map [] 0))
  | .mkslice z _ bytes l c => match intOf? (ρ l), intOf? (ρ c) with
    | some l, some c => if 0 ≤ l ∧ l ≤ c ∧ bytes * c ≤ 2 ^ 47 then some (.ms st.next 0 l.toNat c.toNat, st.alloc (.cells (rep z c.toNat))) else none
    | _, _ => none
  | .slicearr n s x lo hi => match boundsOf ρ n n lo hi none with
    | some (l, h, m) => match ρ x with
      | .ptr a off => some (.ms a (if m = l then off else off + l * s) (h - l) (m - l), st)
      | .lptr cs off => if off + n * s ≤ cs.length then some (.list .any ((cs.drop (off + l * s)).take ((h - l) * s)) (h - l), st) else none
      | _ => none
    | none => none
  | .slice s x lo hi mx => match ρ x with
    | .list own cs n => if cs.length = n * s then match boundsOf ρ n n lo hi mx with
      | some (l, h, m) => some (.list (if mx.isSome ∧ m = h then .exact else if mx.isNone ∧ l = 0 ∧ h = n then own else .any) ((cs.drop (l * s)).take ((h - l) * s)) (h - l), st)
      | none => none
      else none
    | .ms a off len cap => match boundsOf ρ len cap lo hi mx with
      | some (l, h, m) => some (.ms a (if m = l then off else off + l * s) (h - l) (m - l), st)
      | none => none
    | _ => none
  | .slicestr x lo hi => match ρ x with
    | .v (.string s) => match boundsOf ρ s.size s.size lo hi none with | some (l, h, _) => some (.v (.string (s.extract l h)), st) | none => none
    | _ => none
  | .faddr off x => match ρ x with | .ptr a o => some (.ptr a (o + off), st) | .lptr cs o => some (.lptr cs (o + off), st) | _ => none
  | .field g off s x => match ρ x with | .agg cs => (match getCells cs g s off with | some r => some (r, st) | none => none) | _ => none
  | .iaddr s x i => match intOf? (ρ i) with
    | some i => match ρ x with
      | .list _ cs n => if (0 ≤ i ∧ i < n) ∧ cs.length = n * s then some (.lptr cs (i.toNat * s), st) else none
      | .ms a off len _ => if 0 ≤ i ∧ i < len then some (.ptr a (off + i.toNat * s), st) else none
      | .mx a len => if 0 ≤ i ∧ i < len then some (.ptr a (0 + i.toNat * s), st) else none
      | _ => none
    | none => none
  | .iaddrarr n s x i => match intOf? (ρ i) with
    | some i => if 0 ≤ i ∧ i < n then match ρ x with
        | .ptr a off => some (.ptr a (off + i.toNat * s), st)
        | .lptr cs off => some (.lptr cs (off + i.toNat * s), st)
        | _ => none
      else none
    | none => none
  | .index g n s x i => match intOf? (ρ i), ρ x with
    | some i, .agg cs => if 0 ≤ i ∧ i < n then match getCells cs g s (i.toNat * s) with | some r => some (r, st) | none => none else none
    | _, _ => none
  | .indexstr x i => match intOf? (ρ i), ρ x with
    | some i, .v (.string b) => if 0 ≤ i then (match b[i.toNat]? with | some c => some (.v (.int .u8 c.toNat), st) | none => none) else none
    | _, _ => none
  | .lookup kt z ok m k => match mapOf st (ρ m), (ρ k).toV with
    | some (_, es, _), some kv => match findK P es.isEmpty kt kv es with
      | some (some i) => match es[i]? with | some e => some (if ok then .tup [e.val, .bool true] else e.val, st) | none => none
      | some none => some (if ok then .tup [z, .bool false] else z, st)
      | none => none
    | _, _ => none
  | .mapset kt m k x => match mapOf st (ρ m), (ρ k).toV with
    | some (a, es, clock), some kv => match findK P false kt kv es with
      | some (some i) => match es[i]? with
        | some e => if Instr.sameBits 10000 e.key kv then some (.junk, st.set a (.map (es.set i { e with key := kv, val := ρ x }) clock)) else none
        | none => none
      | some none => some (.junk, st.set a (.map (es ++ [⟨kv, ρ x, clock⟩]) (clock + 1)))
      | none => none
    | _, _ => none
  | .mapentry kt z m k => match mapOf st (ρ m), (ρ k).toV with
    | some (a, es, clock), some kv => match findK P false kt kv es with
      | some (some i) => match es[i]? with
        | some e => if Instr.sameBits 10000 e.key kv then some (.tup [e.val, .int e.born], st.set a (.map (es.set i { e with key := kv }) clock)) else none
        | none => none
      | some none => some (.tup [z, .int clock], st.set a (.map (es ++ [⟨kv, z, clock⟩]) (clock + 1)))
      | none => none
    | _, _ => none
  | .entrystore m s x => match mapOf st (ρ m), intOf? (ρ s) with
    | some (a, es, clock), some b => match es.findIdx? (fun e => (e.born : Int) == b) with
      | some i => match es[i]? with
        | some e => some (.junk, st.set a (.map (es.set i { e with val := ρ x }) clock))
        | none => none
      | none => none
    | _, _ => none
  | .extract x i => match ρ x with | .tup vs => (match vs[i]? with | some r => some (r, st) | none => none) | _ => none
  | .len .str x => match ρ x with | .v (.string s) => some (.int s.size, st) | _ => none
  | .len .sl x => match ρ x with
    | .list _ _ n => some (.int n, st)
    | .ms _ _ n _ => some (.int n, st)
    | .mx _ n => some (.int n, st)
    | _ => none
  | .len .mp x => match mapOf st (ρ x) with | some (_, es, _) => some (.int es.length, st) | none => none
  | .append sz bytes z x y => match srcCells st sz (ρ y) with
    | none => none
    | some (ys, k) =>
      if ys.all AV.one then
        match ρ x with
        | .list own cs n =>
          if k = 0 then some (.list own cs n, st)
          else if cs.length = n * sz ∧ (n + k) * bytes ≤ 2 ^ 44 ∧ z.length = sz then
            match own with
            | .exact => some (.list (.tok st.next) (cs ++ ys) (n + k), st.alloc (.arr true sz))
            | .tok a => match st.get a with
              | some (.arr true s') => if s' = sz then some (.list (.tok st.next) (cs ++ ys) (n + k), (st.set a (.arr false sz)).alloc (.arr true sz)) else none
              | _ => none
            | .any => none
          else none
        | .ms a off len cap => match st.get a with
          | some (.cells cs) =>
            if off + cap * sz ≤ cs.length ∧ len ≤ cap then
              if len + k ≤ cap then some (.ms a off (len + k) cap, st.set a (.cells (splice cs (off + len * sz) ys)))
              else if (len + k) * bytes ≤ 2 ^ 44 ∧ z.length = sz then some (.list (.tok st.next) ((cs.drop off).take (len * sz) ++ ys) (len + k), st.alloc (.arr true sz))
              else none
            else none
          | _ => none
        | _ => none
      else none
  | .copy sz x y => match srcCells st sz (ρ y), ρ x with
    | some (ys, k), .ms a off len _ => match st.get a with
      | some (.cells cs) =>
        let n := Nat.min k len
        if ys.all AV.one ∧ off + len * sz ≤ cs.length ∧ ys.length = k * sz then some (.int n, st.set a (.cells (splice cs off (ys.take (n * sz))))) else none
      | _ => none
    | _, _ => none
  | .mnmx mx xs => match toVs (xs.map ρ) with
    | some vs => match evSem P (if mx then Builtin.max_ #[] 0 vs.toArray else Builtin.min_ #[] 0 vs.toArray) with | some r => some (.v r, st) | none => none
    | none => none
  | .srange x => match ρ x with | .v (.string s) => some (.ptr st.next 0, st.alloc (.sit s 0)) | _ => none
  | .snext x => match ρ x with
    | .ptr a 0 => match st.get a with
      | some (.sit s pos) =>
        if pos < s.size then some (.tup [.bool true, .int pos, .v (.int .i32 (Utf8.decode s pos).1)], st.set a (.sit s (pos + (Utf8.decode s pos).2)))
        else some (.tup [.bool false], st)
      | _ => none
    | _ => none
  | .call _ _ => none
  | .callv _ _ => none

/-! ### The relation to the machine -/
def FrRel (G : Gh) (N : Nat) (fr : Nat → AV) (tmps : Array Value) : Prop :=
  tmps.size = N ∧ ∀ i, VRel G (fr i) (tmps.getD i undef)

def EntsRel (G : Gh) : List MEnt → List MapEntry → Prop
  | [], es => es = []
  | e :: es, rs => ∃ r rs', rs = r :: rs' ∧ r.key = e.key ∧ r.born = e.born ∧ VRel G e.val r.val ∧ EntsRel G es rs'

def Jmp.code : Jmp → Code
  | .normal => .skip
  | .ret => .ret
  | .exit id => .exit id

def ObjRel (_P : Program) (G : Gh) (w : World) (a : Nat) : AObj → Prop
  | .cells cs => ∃ b vs t, G.mu a = some b ∧ w.heap[b]? = some (.cells vs t (0, 0)) ∧ VRels G cs vs.toList
  | .vec cs => ∃ b vs t, G.mu a = some b ∧ w.heap[b]? = some (.cells vs t (0, 0)) ∧ cs.length ≤ vs.size ∧ VRels G cs (vs.toList.take cs.length)
  | .arr _ _ => True
  | .map es clock => ∃ b rs, G.mu a = some b ∧ w.heap[b]? = some (.map rs clock) ∧ EntsRel G es rs.toList
  | .sit s pos => ∃ b, G.mu a = some b ∧ w.heap[b]? = some (.stringIter s pos)
  | .loop state pending fr N ps asg body => ∃ b rec, G.mu a = some b ∧ w.heap[b]? = some (.loop rec) ∧ rec.state = state ∧ rec.pending = pending.map Jmp.code ∧
      rec.params.toList = ps ∧ rec.assign = asg ∧ rec.body = body ∧ FrRel G N fr rec.tmps ∧ ps.all (· < N) = true

structure Rel (P : Program) (G : Gh) (st : St) (w : World) : Prop where
  nxeq : G.nx = st.next
  below : BelowK G.w0 w
  dom : ∀ a b, G.mu a = some b → a < st.next
  adom : ∀ a x, G.arr a = some x → a < st.next
  inj : ∀ a a' b, G.mu a = some b → G.mu a' = some b → a = a'
  fresh : ∀ a b, G.mu a = some b → ¬ G.w0.kp b ∧ b < w.heap.size
  obj : ∀ a o b, st.get a = some o → G.mu a = some b → ObjRel P G w a o
  fzok : ∀ b o y, G.fz b o = some y → ∃ vs t fr, w.heap[b]? = some (.cells vs t fr) ∧ vs[o]? = some y
  fzmu : ∀ a b o, G.mu a = some b → G.fz b o = none
  arr : ∀ a sz, st.get a = some (.arr true sz) → ∃ b n cap vs t, G.arr a = some (b, n, cap) ∧ w.heap[b]? = some (.cells vs t (0, 0)) ∧ cap * sz ≤ vs.size ∧ n ≤ cap ∧
      ¬ G.w0.kp b ∧ (∀ o, n * sz ≤ o → G.fz b o = none) ∧ (∀ a', G.mu a' ≠ some b)
  arrinj : ∀ a a' s s' b n c n' c', st.get a = some (.arr true s) → st.get a' = some (.arr true s') → G.arr a = some (b, n, c) → G.arr a' = some (b, n', c') → a = a'
  dfr : ∀ r, r ∈ G.dfr → ¬ G.w0.kp r ∧ w.heap[r]? = some (.deferred (some []))
  lps : ∀ r, r ∈ G.lps → ¬ G.w0.kp r ∧ ∃ rec, w.heap[r]? = some (.loop rec)

end Go.EF
