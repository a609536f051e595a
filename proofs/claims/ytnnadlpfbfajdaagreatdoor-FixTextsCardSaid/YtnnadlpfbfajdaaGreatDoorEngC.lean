/-
What one operation does to an abstract state: a function that is reckoned.
-/
import Derived.Test.YtnnadlpfbfajdaaGreatDoorEngB
namespace Go.Eng
open Go

/-! ### Plain functions that printed programs use -/
def at? {α : Type} (l : List α) (i : Int) : Option α := if 0 ≤ i then l[i.toNat]? else none
def sub? {α : Type} (l : List α) (lo hi : Int) : Option (List α) :=
  if 0 ≤ lo ∧ lo ≤ hi ∧ hi ≤ (l.length : Int) then some ((l.take hi.toNat).drop lo.toNat) else none
def imax (a b : Int) : Int := if b > a then b else a
def imin (a b : Int) : Int := if b < a then b else a
def ibits (op : BinOp) (k : IntKind) (x y : Int) : Int :=
  match op with
  | .and => k.wrap ((BitVec.ofInt k.bits x &&& BitVec.ofInt k.bits y).toNat : Int)
  | .or => k.wrap ((BitVec.ofInt k.bits x ||| BitVec.ofInt k.bits y).toNat : Int)
  | .xor => k.wrap ((BitVec.ofInt k.bits x ^^^ BitVec.ofInt k.bits y).toNat : Int)
  | _ => k.wrap ((BitVec.ofInt k.bits x &&& ~~~ BitVec.ofInt k.bits y).toNat : Int)
def ishl (k : IntKind) (x y : Int) : Int := k.wrap (x * 2 ^ (min y.toNat k.bits))
def ishr (k : IntKind) (x y : Int) : Int := x.fdiv (2 ^ (min y.toNat k.bits))
/-- How long a slice that grows may become. -/
def LIM : Nat := 137438953472

theorem at?_map {α β : Type} (f : α → β) (l : List α) (i : Int) : at? (l.map f) i = (at? l i).map f := by
  unfold at?; split <;> simp
theorem sub?_map {α β : Type} (f : α → β) (l : List α) (lo hi : Int) : sub? (l.map f) lo hi = (sub? l lo hi).map (List.map f) := by
  unfold sub?; simp only [List.length_map]; split <;> simp [List.map_drop, List.map_take]

/-! ### What is known of types -/
inductive TK where
  | other
  | slice (e : TypeId)
  | struct (fs : List (Nat × TypeId))
  | str
  | int (k : IntKind)
  | bool
  | ptr
  | array (n : Nat) (e : TypeId)
  | map (k e : TypeId)
structure TI where
  sz : Nat
  bytes : Nat
  zero : List Cell
  agg : Bool
  kind : TK

def zcell : Cell → Value → Bool
  | .d (.int k n), .int k' n' => k == k' && n == n'
  | .d (.bool b), .bool b' => b == b'
  | .d (.str s), .string s' => s == s'.data.toList
  | .nil, .slice none 0 0 => true
  | .nilp, .pointer none => true
  | .nili, .nilIface => true
  | .nilm, .map none => true
  | .nilf, .nilFunc => true
  | .undef, _ => true
  | _, _ => false
def zcells : List Cell → List Value → Bool
  | [], [] => true
  | c :: cs, v :: vs => zcell c v && zcells cs vs
  | _, _ => false
def kindOk : Option TypeDesc → TK → Bool
  | some (.slice e), .slice e' => e == e'
  | some (.struct fs), .struct l => fs.toList.map (fun f => (f.offset, f.type)) == l
  | some .string, .str => true
  | some (.int k), .int k' => k == k'
  | some .bool, .bool => true
  | some (.pointer _), .ptr => true
  | some (.array n e), .array n' e' => n == n' && e == e'
  | some (.map k e), .map k' e' => k == k' && e == e'
  | _, .other => true
  | _, _ => false
def aggOk : Option TypeDesc → Bool → Bool
  | some (.struct _), b => b
  | some (.array _ _), b => b
  | some _, b => !b
  | none, _ => false
def TIok (P : Program) (t : TypeId) (ti : TI) : Bool :=
  match P.info? t with
  | none => false
  | some i => i.size == ti.sz && i.bytes == ti.bytes && kindOk (P.underlying t) ti.kind && aggOk (P.underlying t) ti.agg && ti.zero.length == ti.sz &&
    (match i.zero with
     | some z => zcells ti.zero z.cells.toList && (match z with | .agg _ => ti.agg | .tuple _ => false | _ => !ti.agg)
     | none => false)

abbrev Types := List (TypeId × TI)
structure TypesOk (P : Program) (Γ : Types) : Prop where
  ok : ∀ t ti, Γ.lookup t = some ti → TIok P t ti = true

/-! ### Operands -/
def ccell : Value → Option Cell
  | .int k n => some (.d (.int k n))
  | .bool b => some (.d (.bool b))
  | .string s => some (.d (.str s.data.toList))
  | .slice none 0 0 => some .nil
  | .pointer none => some .nilp
  | .nilIface => some .nili
  | .map none => some .nilm
  | .nilFunc => some .nilf
  | _ => none
def ccells : List Value → Option (List Cell)
  | [] => some []
  | v :: vs => match ccell v, ccells vs with
    | some c, some cs => some (c :: cs)
    | _, _ => none
def cval : Value → Option TV
  | .agg ⟨vs⟩ => (ccells vs).map fun cs => .v (.agg cs)
  | v => (ccell v).map .c
def St.ev (st : St) : Operand → Option TV
  | .tmp t => some (st.t t)
  | .const v => cval v
  | .func f => some (.c (.fn f []))
  | .global g => (tab g).map fun cs => .c (.cp (cs.map fun p => .int p.1 p.2))

def Cell.toD : Cell → Option D
  | .d x => some x
  | .nil => some (.lst [])
  | _ => none
def toDs : List Cell → Option (List D)
  | [] => some []
  | c :: cs => match c.toD, toDs cs with
    | some x, some xs => some (x :: xs)
    | _, _ => none
def T1.cells : T1 → List Cell
  | .one c => [c]
  | .agg cs => cs
/-- May it lie in a cell of memory? -/
def Cell.lies : Cell → Bool
  | .undef => false
  | .ep .. => false
  | .view .. => false
  | .mapc .. => false
  | .mapg .. => false
  | .iterc .. => false
  | .iters .. => false
  | .selfp .. => false
  | _ => true
theorem lies_at {et : TypeId} {c : Cell} (h : c.lies = true) : c.atT et := by cases c <;> first | rfl | simp [Cell.lies] at h
theorem lies_content {c : Cell} (h : c.lies = true) : c.content = false := by cases c <;> first | rfl | simp [Cell.lies] at h
def mkT (agg : Bool) (cs : List Cell) : Option TV :=
  if agg then some (.v (.agg cs)) else match cs with
    | [c] => some (.c c)
    | _ => none
def mkT1 (agg : Bool) (cs : List Cell) : Option T1 :=
  if agg then some (.agg cs) else match cs with
    | [c] => some (.one c)
    | _ => none

/-! ### Operators -/
def abin (op : BinOp) (x y : D) : Option D :=
  match x, y with
  | .int k a, .int k' b =>
    match op with
    | .shl => if b < 0 then none else some (.int k (ishl k a b))
    | .shr => if b < 0 then none else some (.int k (ishr k a b))
    | _ => if k = k' then
        match op with
        | .add => some (.int k (k.wrap (a + b)))
        | .sub => some (.int k (k.wrap (a - b)))
        | .mul => some (.int k (k.wrap (a * b)))
        | .quo => if b = 0 then none else some (.int k (k.wrap (a.tdiv b)))
        | .rem => if b = 0 then none else some (.int k (a.tmod b))
        | .and => some (.int k (ibits .and k a b))
        | .or => some (.int k (ibits .or k a b))
        | .xor => some (.int k (ibits .xor k a b))
        | .andNot => some (.int k (ibits .andNot k a b))
        | .eql => some (.bool (decide (a = b)))
        | .neq => some (.bool (!decide (a = b)))
        | .lss => some (.bool (decide (a < b)))
        | .leq => some (.bool (decide (a ≤ b)))
        | .gtr => some (.bool (decide (b < a)))
        | .geq => some (.bool (decide (b ≤ a)))
        | _ => none
      else none
  | .bool a, .bool b =>
    match op with
    | .eql => some (.bool (a == b))
    | .neq => some (.bool (a != b))
    | _ => none
  | .str a, .str b =>
    match op with
    | .add => if a.length + b.length ≤ LIM then some (.str (a ++ b)) else none
    | .eql => some (.bool (decide (a = b)))
    | .neq => some (.bool (!decide (a = b)))
    | .lss => some (.bool (Op.bytesLess a b))
    | .leq => some (.bool (Op.bytesLess a b || decide (a = b)))
    | .gtr => some (.bool (!(Op.bytesLess a b || decide (a = b))))
    | .geq => some (.bool (!Op.bytesLess a b))
    | _ => none
  | _, _ => none

def St.isPtr (st : St) : Cell → Bool
  | .box .. => true
  | .ep id _ _ => (st.own id).isSome
  | .cp .. => true
  | _ => false
def abinC (st : St) (kd : TK) (op : BinOp) (x y : Cell) : Option Cell :=
  match x, y with
  | .d a, .d b => match a, kd with
    | .bool _, .bool => (abin op a b).map .d
    | .bool _, _ => none
    | _, _ => (abin op a b).map .d
  | _, _ => match kd, op with
    | .ptr, .eql => match x, y with
      | .nilp, .nilp => some (.d (.bool true))
      | .nilp, c => if st.isPtr c then some (.d (.bool false)) else none
      | c, .nilp => if st.isPtr c then some (.d (.bool false)) else none
      | _, _ => none
    | .ptr, .neq => match x, y with
      | .nilp, .nilp => some (.d (.bool false))
      | .nilp, c => if st.isPtr c then some (.d (.bool true)) else none
      | c, .nilp => if st.isPtr c then some (.d (.bool true)) else none
      | _, _ => none
    | _, _ => none
def aun (op : UnOp) : D → Option D
  | .int k n => match op with
    | .neg => some (.int k (k.wrap (0 - n)))
    | .xor => some (.int k (ibits .xor k (if k.signed then -1 else k.max) n))
    | _ => none
  | .bool b => match op with
    | .not => some (.bool (!b))
    | _ => none
  | _ => none

/-! ### Effects -/
structure Eff where
  v : TV
  ou : List (Nat × Option OwnB)
  bu : List (Nat × Option (List Cell))
  use : List Nat

abbrev pureE (v : TV) : Eff := ⟨v, [], [], []⟩
def updL {α : Type} (m : Nat → α) : List (Nat × α) → Nat → α
  | [] => m
  | p :: l => updL (upd m p.1 p.2) l
def St.mem (st : St) (e : Eff) : St := { st with own := updL st.own e.ou, box := updL st.box e.bu }
def St.put (st : St) (dst : Option Tmp) (v : TV) : St :=
  match dst with
  | some d => { st with t := upd st.t d v }
  | none => st
def St.app (st : St) (dst : Option Tmp) (e : Eff) : St := (st.mem e).put dst e.v

/-- The elements that a slice value shows. -/
def St.elems (st : St) : TV → Option (List (List D) × List Nat)
  | .v (.one (.d (.lst xs))) => some (xs, [])
  | .v (.one .nil) => some ([], [])
  | .v (.one (.own id none)) => (st.own id).map fun e => (e.xs, [id])
  | .v (.one (.own id (some n))) => (st.own id).map fun e => (e.xs.take n, [id])
  | .v (.one (.view id lo n)) => (st.own id).map fun e => ((e.xs.drop lo).take n, [id])
  | _ => none
def lenOf (st : St) : TV → Option (Nat × List Nat)
  | .v (.one (.d (.lst xs))) => some (xs.length, [])
  | .v (.one .nil) => some (0, [])
  | .v (.one (.own id p)) => (st.own id).map fun e => (p.getD e.xs.length, [id])
  | .v (.one (.view id _ n)) => (st.own id).map fun _ => (n, [id])
  | _ => none
def ints : List TV → Option (IntKind × List Int)
  | [.v (.one (.d (.int k n)))] => some (k, [n])
  | .v (.one (.d (.int k n))) :: l => match ints l with
    | some (k', ns) => if k = k' then some (k, n :: ns) else none
    | none => none
  | _ => none
def St.evs (st : St) : List Operand → Option (List TV)
  | [] => some []
  | x :: xs => match st.ev x, st.evs xs with
    | some v, some vs => some (v :: vs)
    | _, _ => none

/-- The elements of a literal: one part for each, in order. -/
def litRow (sz : Nat) (st : St) (i : Nat) : List (Nat × Operand) → Option (List (List D))
  | [] => some []
  | (j, x) :: rest => if j = i then
      match st.ev x with
      | some (.v t) => match toDs t.cells, litRow sz st (i + 1) rest with
        | some ds, some xs => if ds.length = sz then some (ds :: xs) else none
        | _, _ => none
      | _ => none
    else none
/-- A struct literal's cells. -/
def fillC (Γ : Types) (fs : List (Nat × TypeId)) (st : St) (cells : List Cell) : List (Nat × Operand) → Option (List Cell)
  | [] => some cells
  | (i, x) :: rest => match fs[i]?, st.ev x with
    | some (off, t), some (.v v) => match Γ.lookup t with
      | some ti => if v.cells.length = ti.sz ∧ off + v.cells.length ≤ cells.length ∧ v.cells.all Cell.lies = true then
          fillC Γ fs st (cells.take off ++ v.cells ++ cells.drop (off + v.cells.length)) rest
        else none
      | none => none
    | _, _ => none

def ownEt (st : St) (id : Nat) (et sz : Nat) : Option OwnB :=
  match st.own id with
  | some e => if e.et = et ∧ e.sz = sz then some e else none
  | none => none

def aappend (Γ : Types) (base : Nat) (st : St) (t : TypeId) (x : TV) (xs : List (List D)) (uses : List Nat) : Option Eff :=
  match Γ.lookup t with
  | some ⟨_, _, _, _, .slice et⟩ => match Γ.lookup et with
    | some te => if 0 < te.sz ∧ te.bytes ≤ 1024 ∧ 0 < te.bytes ∧ xs.all (fun c => c.length == te.sz) then
        match x with
        | .v (.one .nil) => if xs.length ≤ LIM then some ⟨.c (.own base none), [(base, some ⟨et, te.sz, xs⟩)], [], base :: uses⟩ else none
        | .v (.one (.own id none)) => match ownEt st id et te.sz with
          | some e => if e.xs.length + xs.length ≤ LIM then
              some ⟨.c (.own base none), [(id, none), (base, some ⟨et, te.sz, e.xs ++ xs⟩)], [], base :: id :: uses⟩ else none
          | none => none
        | .v (.one (.own id (some m))) => match ownEt st id et te.sz with
          | some e => if m ≤ e.xs.length ∧ m + xs.length ≤ LIM then
              some ⟨.c (.own base none), [(id, none), (base, some ⟨et, te.sz, e.xs.take m ++ xs⟩)], [], base :: id :: uses⟩ else none
          | none => none
        | _ => none
      else none
    | none => none
  | _ => none

/-! ### Maps: entries, each key once -/
def keq1 : D → D → Bool
  | .int k a, .int k' b => k == k' && a == b
  | .str a, .str b => decide (a = b)
  | .bool a, .bool b => a == b
  | _, _ => false
def keq : List D → List D → Bool
  | [], [] => true
  | a :: as, b :: bs => keq1 a b && keq as bs
  | _, _ => false
def mget (l : List (List D × List D)) (x : List D) : Option (List D) := (l.find? fun e => keq x e.1).map (·.2)
def mput (l : List (List D × List D)) (x v : List D) : List (List D × List D) :=
  bif l.any (fun e => keq x e.1) then l.map (fun e => bif keq x e.1 then (x, v) else e) else l ++ [(x, v)]
def kindK : TK → Option KK
  | .str => some .str
  | .int k => some (.int k)
  | _ => none
def T1.isAgg : T1 → Bool
  | .agg _ => true
  | .one _ => false

/-- The sign at a place of a string, and its width. -/
def dec (s : List UInt8) (pos : Nat) : Nat × Nat := Utf8.decode ⟨s.toArray⟩ pos

/-- a rune as a string -/
def runeS (n : Int) : List UInt8 := (Utf8.encode n).data.toList
def aeff (Γ : Types) (base : Nat) (o : Op) (st : St) : Option Eff :=
  match o with
  | .range t x => match Γ.lookup t, st.ev x with
    | some ⟨_, _, _, _, .str⟩, some (.v (.one (.d (.str s)))) => some ⟨.c (.box base 0), [], [(base, some [.iters s 0])], [base]⟩
    | _, _ => none
  | .next x true => match st.ev x with
    | some (.v (.one (.box id 0))) => match st.box id with
      | some [.iters s pos] => if pos < s.length then some ⟨.tup [.one (.d (.bool true)), .one (.d (.int .i64 pos)), .one (.d (.int .i32 (dec s pos).1))], [], [(id, some [.iters s (pos + (dec s pos).2)])], [id]⟩
        else some ⟨.tup [.one (.d (.bool false))], [], [], [id]⟩
      | _ => none
    | _ => none
  | .makeMap t none => match Γ.lookup t with
    | some ⟨_, _, _, _, .map kt et⟩ => match Γ.lookup kt, Γ.lookup et with
      | some tk, some te => match kindK tk.kind with
        | some kk => some ⟨.c (.mapp base), [], [(base, some [.mapc kk te.agg []])], [base]⟩
        | none => none
      | _, _ => none
    | _ => none
  | .lookup t x y commaOk => match Γ.lookup t, st.ev x, st.ev y with
    | some ⟨_, _, _, _, .map kt et⟩, some (.v (.one (.mapp id))), some (.v (.one (.d k))) => match st.box id, Γ.lookup kt, Γ.lookup et with
      | some [.mapc kk va es], some tk, some te => match toDs te.zero with
        | some z => if kindK tk.kind = some kk ∧ kk.fits [k] = true ∧ te.agg = va then
            match mkT te.agg (((mget es [k]).getD z).map .d) with
            | some (.v r) => some ⟨bif commaOk then .tup [r, .one (.d (.bool (mget es [k]).isSome))] else .v r, [], [], [id]⟩
            | _ => none
          else none
        | none => none
      | _, _, _ => none
    | _, _, _ => none
  | .mapUpdate t m x y => match Γ.lookup t, st.ev m, st.ev x, st.ev y with
    | some ⟨_, _, _, _, .map kt _⟩, some (.v (.one (.mapp id))), some (.v (.one (.d k))), some (.v v) => match st.box id, Γ.lookup kt with
      | some [.mapc kk va es], some tk => match toDs v.cells with
        | some vs => if kindK tk.kind = some kk ∧ kk.fits [k] = true ∧ v.isAgg = va then some ⟨.undef, [], [(id, some [.mapc kk va (mput es [k] vs)])], [id]⟩ else none
        | none => none
      | _, _ => none
    | _, _, _, _ => none
  | .move x => (st.ev x).map pureE
  | .assign x => (st.ev x).map pureE
  | .pick c a b => match st.ev c, st.ev a, st.ev b with
    | some (.v (.one (.d (.bool c)))), some (.v (.one (.d (.bool a)))), some (.v (.one (.d (.bool b)))) => some (pureE (.b (bif c then a else b)))
    | some (.v (.one (.d (.bool true)))), some a, _ => some (pureE a)
    | some (.v (.one (.d (.bool false)))), _, some b => some (pureE b)
    | _, _, _ => none
  | .alloc t => match Γ.lookup t with
    | some ti => if ti.zero.all Cell.lies then some ⟨.c (.box base 0), [], [(base, some ti.zero)], [base]⟩ else none
    | none => none
  | .box _ x => match st.ev x with
    | some (.v t) => if t.cells.all Cell.lies then some ⟨.c (.box base 0), [], [(base, some t.cells)], [base]⟩ else none
    | _ => none
  | .build t parts => match Γ.lookup t with
    | some ⟨_, _, z, _, .struct fs⟩ => if fs.all (fun p => (Γ.lookup p.2).isSome) ∧ z.all Cell.lies then (fillC Γ fs st z parts.toList).map fun cs => pureE (.v (.agg cs)) else none
    | _ => none
  | .buildSlice t len parts => match Γ.lookup t with
    | some ⟨_, _, _, _, .slice et⟩ => match Γ.lookup et with
      | some te => match litRow te.sz st 0 parts.toList with
        | some xs => if xs.length = len ∧ 0 < te.sz ∧ len * te.sz ≤ 16777216 then
            some ⟨.c (.own base none), [(base, some ⟨et, te.sz, xs⟩)], [], [base]⟩ else none
        | none => none
      | none => none
    | _ => none
  | .load t x => match Γ.lookup t, st.ev x with
    | some ti, some (.v (.one (.box id off))) => match st.box id with
      | some cs => if off + ti.sz ≤ cs.length ∧ plainCs cs = true then (mkT ti.agg ((cs.drop off).take ti.sz)).map fun v => ⟨v, [], [], [id]⟩ else none
      | none => none
    | some ti, some (.v (.one (.ep id i off))) => match st.own id with
      | some e => match e.xs[i]? with
        | some ds => if off + ti.sz ≤ ds.length then (mkT ti.agg (((ds.drop off).take ti.sz).map .d)).map fun v => ⟨v, [], [], [id]⟩ else none
        | none => none
      | none => none
    | some ti, some (.v (.one (.cp ds))) => if ti.sz ≤ ds.length then (mkT ti.agg ((ds.take ti.sz).map .d)).map pureE else none
    | _, _ => none
  | .store t x y => match Γ.lookup t, st.ev x, st.ev y with
    | some ti, some (.v (.one (.box id off))), some (.v v) => match st.box id with
      | some cs => if v.cells.length = ti.sz ∧ off + ti.sz ≤ cs.length ∧ v.cells.all Cell.lies ∧ plainCs cs = true then
          some ⟨.undef, [], [(id, some (cs.take off ++ v.cells ++ cs.drop (off + ti.sz)))], [id]⟩ else none
      | none => none
    | some ti, some (.v (.one (.ep id i off))), some (.v v) => match st.own id, toDs v.cells with
      | some e, some vs => match e.xs[i]? with
        | some ds => if vs.length = ti.sz ∧ off + ti.sz ≤ ds.length then
            some ⟨.undef, [(id, some { e with xs := e.xs.set i (ds.take off ++ vs ++ ds.drop (off + ti.sz)) })], [], [id]⟩ else none
        | none => none
      | _, _ => none
    | _, _, _ => none
  | .nilCheck x => match st.ev x with
    | some (.v (.one c)) => if st.isPtr c then some ⟨.c c, [], [], c.refs⟩ else none
    | _ => none
  | .binOp op t x y _ => match Γ.lookup t, st.ev x, st.ev y with
    | some ti, some (.v (.one a)), some (.v (.one b)) => (abinC st ti.kind op a b).map fun c => ⟨.c c, [], [], a.refs ++ b.refs⟩
    | _, _, _ => none
  | .unOp op _ x => match st.ev x with
    | some (.v (.one (.d a))) => (aun op a).map fun c => pureE (.c (.d c))
    | _ => none
  | .convert src dst x => match Γ.lookup src with
    | some _ => match Γ.lookup dst, st.ev x with
      | some ⟨_, _, _, _, .int k⟩, some (.v (.one (.d (.int _ n)))) => some (pureE (.int k (k.wrap n)))
      | some ⟨_, _, _, _, .str⟩, some (.v (.one (.d (.str s)))) => some (pureE (.c (.d (.str s))))
      | some ⟨_, _, _, _, .str⟩, some (.v (.one (.d (.int _ n)))) => some (pureE (.c (.d (.str (runeS n)))))
      | _, _ => none
    | none => none
  | .extract x i => match st.ev x with
    | some (.tup xs) => (xs[i]?).map fun v => pureE (.v v)
    | _ => none
  | .makeFunc (.func f) ⟨[]⟩ caps => match st.evs caps.toList with
    | some vs => (boxes vs).map fun ids => pureE (.c (.fn f ids))
    | none => none
  | .slice t x lo hi none => match Γ.lookup t, st.ev x with
    | some ⟨_, _, _, _, .str⟩, some (.v (.one (.d (.str s)))) => match bnd st lo 0, bnd st hi s.length with
      | some l, some h => (sub? s l h).map fun r => pureE (.c (.d (.str r)))
      | _, _ => none
    | some ⟨_, _, _, _, .slice et⟩, some (.v (.one (.d (.lst xs)))) => match Γ.lookup et, bnd st lo 0, bnd st hi xs.length with
      | some te, some l, some h => if xs.all (fun c => c.length == te.sz) then (sub? xs l h).map fun r => pureE (.c (.d (.lst r))) else none
      | _, _, _ => none
    | some ⟨_, _, _, _, .slice et⟩, some (.v (.one (.own id p))) => match st.own id with
      | some e => match Γ.lookup et, lo, bnd st hi (p.getD e.xs.length) with
        | some _, none, some h => if 0 ≤ h ∧ h ≤ ((p.getD e.xs.length : Nat) : Int) then some ⟨.c (.own id (some h.toNat)), [], [], [id]⟩ else none
        | some te, some x, some h => match p, bnd st (some x) 0 with
          | none, some l => if 0 ≤ l ∧ l ≤ h ∧ h ≤ ((e.xs.length : Nat) : Int) ∧ te.sz = e.sz then some ⟨.c (.view id l.toNat (h.toNat - l.toNat)), [], [], [id]⟩ else none
          | _, _ => none
        | _, _, _ => none
      | none => none
    | some ⟨_, _, _, _, .slice et⟩, some (.v (.one (.view id lo0 n))) => match st.own id, Γ.lookup et, bnd st lo 0, bnd st hi n with
      | some e, some te, some l, some h => if 0 ≤ l ∧ l ≤ h ∧ h ≤ (n : Int) ∧ te.sz = e.sz then some ⟨.c (.view id (lo0 + l.toNat) (h.toNat - l.toNat)), [], [], [id]⟩ else none
      | _, _, _, _ => none
    | _, _ => none
  | .fieldAddr t x i => match Γ.lookup t, st.ev x with
    | some ⟨_, _, _, _, .struct fs⟩, some (.v (.one c)) => match fs[i]? with
      | some (foff, ft) => match Γ.lookup ft with
        | some ti => if ti.sz = 0 then none else match c with
          | .box id off => some (pureE (.c (.box id (off + foff))))
          | .ep id j off => match st.own id with
            | some _ => some ⟨.c (.ep id j (off + foff)), [], [], [id]⟩
            | none => none
          | .cp cs => some (pureE (.c (.cp (cs.drop foff))))
          | _ => none
        | none => none
      | none => none
    | _, _ => none
  | .field t x i => match Γ.lookup t, st.ev x with
    | some ⟨_, _, _, _, .struct fs⟩, some (.v (.agg cs)) => match fs[i]? with
      | some (foff, ft) => match Γ.lookup ft with
        | some ti => if foff + ti.sz ≤ cs.length then (mkT ti.agg ((cs.drop foff).take ti.sz)).map pureE else none
        | none => none
      | none => none
    | _, _ => none
  | .indexAddr t x i => match Γ.lookup t, st.ev x, st.ev i with
    | some ⟨_, _, _, _, .slice et⟩, some (.v (.one (.d (.lst xs)))), some (.v (.one (.d (.int _ n)))) => match Γ.lookup et, at? xs n with
      | some te, some ds => if ds.length = te.sz then some (pureE (.c (.cp ds))) else none
      | _, _ => none
    | some ⟨_, _, _, _, .slice et⟩, some (.v (.one (.own id p))), some (.v (.one (.d (.int _ n)))) => match Γ.lookup et with
      | some te => match ownEt st id et te.sz with
        | some e => if 0 ≤ n ∧ n < ((p.getD e.xs.length : Nat) : Int) then some ⟨.c (.ep id n.toNat 0), [], [], [id]⟩ else none
        | none => none
      | _ => none
    | some ⟨_, _, _, _, .slice et⟩, some (.v (.one (.view id lo m))), some (.v (.one (.d (.int _ n)))) => match Γ.lookup et with
      | some te => match ownEt st id et te.sz with
        | some _ => if 0 ≤ n ∧ n < (m : Int) then some ⟨.c (.ep id (lo + n.toNat) 0), [], [], [id]⟩ else none
        | none => none
      | _ => none
    | some ⟨_, _, _, _, .array len et⟩, some (.v (.one (.cp ds))), some (.v (.one (.d (.int _ n)))) => match Γ.lookup et with
      | some te => if 0 ≤ n ∧ n < (len : Int) ∧ te.sz ≠ 0 then some (pureE (.c (.cp (ds.drop (n.toNat * te.sz))))) else none
      | none => none
    | some ⟨_, _, _, _, .array len et⟩, some (.v (.one (.ep id 0 0))), some (.v (.one (.d (.int _ n)))) => match Γ.lookup et, st.own id with
      | some te, some e => if 0 ≤ n ∧ n < (len : Int) ∧ te.sz = e.sz then some ⟨.c (.ep id n.toNat 0), [], [], [id]⟩ else none
      | _, _ => none
    | _, _, _ => none
  | .index t x i => match Γ.lookup t, st.ev x, st.ev i with
    | some ⟨_, _, _, _, .str⟩, some (.v (.one (.d (.str s)))), some (.v (.one (.d (.int _ n)))) => (at? s n).map fun c => pureE (.int .u8 c.toNat)
    | _, _, _ => none
  | .makeSlice t l c => match Γ.lookup t, st.ev l, st.ev c with
    | some ⟨_, _, _, _, .slice et⟩, some (.v (.one (.d (.int .i64 n)))), some (.v (.one (.d (.int .i64 m)))) => match Γ.lookup et with
      | some te => match toDs te.zero with
        | some z => if 0 ≤ n ∧ n ≤ m ∧ m ≤ (LIM : Int) ∧ te.bytes ≤ 1024 ∧ 0 < te.sz ∧ z.length = te.sz then
            some ⟨.c (.own base none), [(base, some ⟨et, te.sz, List.replicate n.toNat z⟩)], [], [base]⟩ else none
        | none => none
      | none => none
    | _, _, _ => none
  | .call ⟨.builtin b, ⟨args⟩, ⟨tys⟩⟩ => match b, tys, st.evs args with
    | .len, [t], some [x] => match Γ.lookup t with
      | some ⟨_, _, _, _, .str⟩ => match x with
        | .v (.one (.d (.str s))) => some (pureE (.i s.length))
        | _ => none
      | some ⟨_, _, _, _, .slice _⟩ => (lenOf st x).map fun p => ⟨.i p.1, [], [], p.2⟩
      | _ => none
    | .max, _, some l => match ints l with
      | some (k, n :: ns) => some (pureE (.int k (ns.foldl imax n)))
      | _ => none
    | .min, _, some l => match ints l with
      | some (k, n :: ns) => some (pureE (.int k (ns.foldl imin n)))
      | _ => none
    | .append, [t, t'], some [x, y] => if t = t' then match st.elems y with
        | some (xs, uses) => aappend Γ base st t x xs uses
        | none => none
        else none
    | _, _, _ => none
  | _ => none
where
  bnd (st : St) : Option Operand → Int → Option Int
    | none, d => some d
    | some x, _ => match st.ev x with
      | some (.v (.one (.d (.int _ n)))) => some n
      | _ => none
  boxes : List TV → Option (List Nat)
    | [] => some []
    | .v (.one (.box id 0)) :: l => (boxes l).map (id :: ·)
    | _ => none
end Go.Eng
