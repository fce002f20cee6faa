/- What an operation does to an abstract state, reckoned. -/
import Derived.Test.YtiplmapndahmmaaAl3
namespace Go.Proofs.Ytiplmapndahmmaa
namespace Al
set_option linter.constructorNameAsVariable false
set_option linter.unusedVariables false

/-! ### Types -/

inductive DK where
  | sc | boo | str | itf | ptr | fnc
  | int (k : IntKind)
  | st (fs : List (Nat × TypeId))
  | ar (n : Nat) (e : TypeId)
  | sl (e : TypeId)
  | mp (k e : TypeId)

def dkOf : TypeDesc → DK
  | .bool => .boo
  | .string => .str
  | .int k => .int k
  | .struct fs => .st (fs.toList.map fun f => (f.offset, f.type))
  | .array n e => .ar n e
  | .slice e => .sl e
  | .map k e => .mp k e
  | .interface _ => .itf
  | .pointer _ => .ptr
  | .func _ _ _ => .fnc
  | _ => .sc

def DK.agg : DK → Bool
  | .st _ | .ar _ _ => true
  | _ => false

structure TI where
  size : Nat
  bytes : Nat
  zero : AV
  dk : DK
  el : Ty
  eqk : Bool := false

def zvC : CV → Value
  | .int k n => .int k n
  | .bool b => .bool b
  | .str s => .string s
  | .np => .pointer none
  | .nl => .slice none 0 0
  | .nf => .nilFunc
  | .ni => .nilIface
  | .nm => .map none
  | _ => undef

def CV.const : CV → Bool
  | .int _ _ | .bool _ | .str _ | .np | .nl | .nf | .ni | .nm => true
  | _ => false

/-- A value of which something is known. -/
def AV.known : AV → Bool
  | .c .un => false
  | _ => true

def zvA : AV → Value
  | .c x => zvC x
  | .ag cs => .agg (cs.map zvC).toArray

abbrev Tab := List (TypeId × TI)
def tget : Tab → TypeId → Option TI
  | [], _ => none
  | (k, i) :: r, t => if k = t then some i else tget r t

/-- Two structs of numbers are compared. -/
def EqFact (P : Program) (t : TypeId) (n : Nat) : Prop := ∀ (W : World) (x y : Operand) (as bs : List Int), as.length = n → bs.length = n →
  (eqGuard .eql t x y (.agg (as.map (Value.int .i64)).toArray) (.agg (bs.map (Value.int .i64)).toArray)).run P W = .ok () W ∧
  (eqGuard .neq t x y (.agg (as.map (Value.int .i64)).toArray) (.agg (bs.map (Value.int .i64)).toArray)).run P W = .ok () W ∧
  (binOp .eql t (.agg (as.map (Value.int .i64)).toArray) (.agg (bs.map (Value.int .i64)).toArray)).run P W = .ok (.bool (as == bs)) W ∧
  (binOp .neq t (.agg (as.map (Value.int .i64)).toArray) (.agg (bs.map (Value.int .i64)).toArray)).run P W = .ok (.bool (!(as == bs))) W

/-- What is to be known of the table's rows. -/
def TabOK (P : Program) : Tab → Prop
  | [] => True
  | (t, ti) :: r => ((P.info? t).map (fun i => (i.size, i.bytes, i.zero)) = some (ti.size, ti.bytes, some (zvA ti.zero)) ∧ (P.underlying t).map dkOf = some ti.dk ∧
      ti.zero.cvs.all CV.const = true ∧ ti.zero.cvs.length = ti.size ∧ (ti.eqk = true → EqFact P t ti.size) ∧ (ti.dk.agg = false → ti.size = 1)) ∧ TabOK P r

/-- A type's zero value, read as a list's element. -/
def Ty.zeroFits : Ty → List CV → Bool
  | .num k, [.int k' n] => decide (k = k') && n == 0
  | .boo, [.bool b] => !b
  | .st, [.str s] => s.size == 0
  | .sl _, [.nl] => true
  | .pr a b, cs => a.zeroFits (cs.take a.sz) && b.zeroFits (cs.drop a.sz)
  | _, _ => false

/-! ### Contents -/

def castL {t u : Ty} (xs : List t.den) : Option (List u.den) :=
  match t.same u with
  | some ⟨h⟩ => some (h ▸ xs)
  | none => none

/-- Cells as a value of a type, where they are one that stays. -/
def Ty.ofCvs (H : Hp) : (t : Ty) → List CV → Option t.den
  | .num k, [.int k' n] => if k = k' then some n else none
  | .boo, [.bool x] => some x
  | .st, [.str x] => some x
  | .sl _, [.nl] => some []
  | .sl t, [.ls _ u xs] => castL (t := u) (u := t) xs
  | .sl t, [.ho o] => match H o with | .vz u xs => castL (t := u) (u := t) xs | _ => none
  | .pr a b, cs => match Ty.ofCvs H a (cs.take a.sz), Ty.ofCvs H b (cs.drop a.sz) with | some x, some y => some (x, y) | _, _ => none
  | _, _ => none

/-- A list that can be read. -/
inductive Lst where
  | mk (t : Ty) (xs : List t.den)

def lstOf (H : Hp) : SV → Option Lst
  | .v (.c (.ls _ t xs)) => some ⟨t, xs⟩
  | .v (.c (.ho o)) => match H o with | .vc _ t xs => some ⟨t, xs⟩ | .vz t xs => some ⟨t, xs⟩ | _ => none
  | _ => none

/-- A list that stays. -/
def stayOf (H : Hp) : SV → Option Lst
  | .v (.c (.ls _ t xs)) => some ⟨t, xs⟩
  | .v (.c (.ho o)) => match H o with | .vz t xs => some ⟨t, xs⟩ | _ => none
  | _ => none

def lenOf (H : Hp) : DK → SV → Option Int
  | .sl _, .v (.c .nl) => some 0
  | .str, .v (.c (.str s)) => some s.size
  | .mp _ _, .v (.c .nm) => some 0
  | .mp _ _, .v (.c (.mp o)) => match H o with | .mp _ _ kvs => some kvs.length | _ => none
  | .sl _, x => match lstOf H x with | some ⟨_, xs⟩ => some xs.length | none => none
  | _, _ => none

def setCs (cs : List CV) (d : Nat) (xs : List CV) : List CV := cs.take d ++ xs ++ cs.drop (d + xs.length)

structure Eff where
  C : List Prop
  v : SV
  us : List (Nat × AObj)

def shlI (k : IntKind) (x y : Int) : Int := k.wrap (x * 2 ^ (min y.toNat k.bits))
def shrI (k : IntKind) (x y : Int) : Int := x.fdiv (2 ^ (min y.toNat k.bits))

/-- Numbers alone. -/
def binInt (op : BinOp) (k : IntKind) (a b : Int) : Option (List Prop × CV) :=
  match op with
  | .add => some ([], .int k (k.wrap (a + b)))
  | .sub => some ([], .int k (k.wrap (a - b)))
  | .mul => some ([], .int k (k.wrap (a * b)))
  | .quo => some ([b ≠ 0], .int k (k.wrap (a.tdiv b)))
  | .rem => some ([b ≠ 0], .int k (a.tmod b))
  | .and => some ([], .int k (bits .and k a b))
  | .or => some ([], .int k (bits .or k a b))
  | .xor => some ([], .int k (bits .xor k a b))
  | .eql => some ([], .bool (a == b))
  | .neq => some ([], .bool (a != b))
  | .lss => some ([], .bool (decide (a < b)))
  | .leq => some ([], .bool (decide (a ≤ b)))
  | .gtr => some ([], .bool (decide (a > b)))
  | .geq => some ([], .bool (decide (a ≥ b)))
  | _ => none

def isNilCmp (op : BinOp) (nil : Bool) : Option CV :=
  match op with
  | .eql => some (.bool nil)
  | .neq => some (.bool (!nil))
  | _ => none

def intsOf : List CV → Option (List Int)
  | [] => some []
  | .int .i64 n :: r => (intsOf r).map (n :: ·)
  | _ => none

/-- == and != of what is neither a number nor a text. -/
def evEq (H : Hp) (op : BinOp) (ti : TI) (x y : SV) : Option (List Prop × CV) :=
  match ti.dk with
  | .boo =>
    match x, y with
    | .v (.c (.bool a)), .v (.c (.bool b)) => (isNilCmp op (a == b)).map fun r => ([], r)
    | _, _ => none
  | .sl _ =>
    match y with
    | .v (.c .nl) =>
      match x with
      | .v (.c .nl) => (isNilCmp op true).map fun r => ([], r)
      | x => match lstOf H x with | some ⟨_, xs⟩ => (isNilCmp op false).map fun r => ([xs.length ≠ 0], r) | none => none
    | _ => none
  | .itf =>
    match x, y with
    | .v (.c .ie), .v (.c .ni) => (isNilCmp op false).map fun r => ([], r)
    | _, _ => none
  | .ptr =>
    match x, y with
    | .v (.c .np), .v (.c .np) => (isNilCmp op true).map fun r => ([], r)
    | .v (.c (.p _ _)), .v (.c .np) => (isNilCmp op false).map fun r => ([], r)
    | _, _ => none
  | .st _ =>
    match x, y with
    | .v (.ag cs), .v (.ag ds) =>
      match intsOf cs, intsOf ds with
      | some as, some bs => if ti.eqk = true ∧ as.length = ti.size ∧ bs.length = ti.size then (isNilCmp op (as == bs)).map fun r => ([], r) else none
      | _, _ => none
    | _, _ => none
  | _ => none

def evBin (tt : Tab) (H : Hp) (op : BinOp) (t : TypeId) (x y : SV) : Option (List Prop × CV) :=
  match x, y with
  | .v (.c (.int k a)), .v (.c (.int k' b)) =>
    match op with
    | .shl => some ([0 ≤ b], .int k (shlI k a b))
    | .shr => some ([0 ≤ b], .int k (shrI k a b))
    | op => if k = k' then binInt op k a b else none
  | .v (.c (.str a)), .v (.c (.str b)) =>
    match op with
    | .add => some ([a.size + b.size ≤ 9223372036854775807], .str (a ++ b))
    | .eql => some ([], .bool (a.toList == b.toList))
    | .neq => some ([], .bool (!(a.toList == b.toList)))
    | _ => none
  | x, y => match tget tt t with | some ti => evEq H op ti x y | none => none

def evUn (op : UnOp) (x : SV) : Option CV :=
  match op, x with
  | .neg, .v (.c (.int k n)) => some (.int k (k.wrap (0 - n)))
  | .not, .v (.c (.bool b)) => some (.bool (!b))
  | _, _ => none

/-- The fields of a struct laid in. -/
def fillCs (fs : List (Nat × TypeId)) (tt : Tab) : List CV → List (Nat × SV) → Option (List CV)
  | cs, [] => some cs
  | cs, (i, .v x) :: r =>
    match fs[i]? with
    | some (off, ft) =>
      match tget tt ft with
      | some fi => if x.known = true ∧ x.cvs.length = fi.size ∧ off + x.cvs.length ≤ cs.length then fillCs fs tt (setCs cs off x.cvs) r else none
      | none => none
    | none => none
  | _, _ => none

def evParts (H : Hp) (t : Ty) : Nat → List (Nat × SV) → Option (List t.den)
  | _, [] => some []
  | i, (j, .v x) :: r => if i = j ∧ x.known = true then match Ty.ofCvs H t x.cvs, evParts H t (i + 1) r with | some y, some ys => some (y :: ys) | _, _ => none else none
  | _, _ => none

def evLoad (tt : Tab) (H : Hp) (t : TypeId) (x : SV) : Option AV :=
  match tget tt t with
  | none => none
  | some ti =>
    match x with
    | .v (.c (.p o d)) =>
      match H o with
      | .bx cs => if ti.dk.agg then (if d + ti.size ≤ cs.length then some (.ag ((cs.drop d).take ti.size)) else none) else match cs[d]? with | some c => some (.c c) | none => none
      | _ => none
    | .v (.c (.cp u y)) =>
      if ti.dk.agg then (if u.sz = ti.size then some (.ag (u.cvs y)) else none) else match u.cvs y with | [c] => some (.c c) | _ => none
    | .el o sz i d =>
      match H o with
      | .vc _ u xs => if u.sz = sz then (if ti.dk.agg then (if d = 0 ∧ ti.size = sz then some (.ag (u.cvs (xs.getD i.toNat u.dflt))) else none)
          else match (u.cvs (xs.getD i.toNat u.dflt))[d]? with | some c => some (.c c) | none => none) else none
      | .vz u xs => if u.sz = sz then (if ti.dk.agg then (if d = 0 ∧ ti.size = sz then some (.ag (u.cvs (xs.getD i.toNat u.dflt))) else none)
          else match (u.cvs (xs.getD i.toNat u.dflt))[d]? with | some c => some (.c c) | none => none) else none
      | _ => none
    | _ => none

def evStore (tt : Tab) (H : Hp) (t : TypeId) (a x : SV) : Option (List (Nat × AObj)) :=
  match tget tt t, x with
  | some ti, .v y =>
    match a with
    | .v (.c (.p o d)) =>
      match H o with
      | .bx cs => if y.known = true ∧ y.cvs.length = ti.size ∧ d + ti.size ≤ cs.length then some [(o, .bx (setCs cs d y.cvs))] else none
      | _ => none
    | .el o sz i d =>
      match H o with
      | .vc e u xs => if y.known = true ∧ u.sz = sz ∧ y.cvs.length = ti.size ∧ d + ti.size ≤ sz then
          match Ty.ofCvs H u (setCs (u.cvs (xs.getD i.toNat u.dflt)) d y.cvs) with | some z => some [(o, .vc e u (xs.set i.toNat z))] | none => none
          else none
      | _ => none
    | _ => none
  | _, _ => none

/-- A part of a value that stays, by its cells. -/
def subT : (t : Ty) → t.den → Nat → Nat → Option CV
  | .pr a b, x, d, n => if d = 0 ∧ n = a.sz + b.sz then some (.cp (.pr a b) x)
      else if d < a.sz then subT a x.1 d n else subT b x.2 (d - a.sz) n
  | t, x, d, n => if d = 0 ∧ n = t.sz then some (.cp t x) else none

def evFieldAddr (tt : Tab) (s : TypeId) (x : SV) (f : Nat) : Option SV :=
  match tget tt s with
  | some ti =>
    match ti.dk with
    | .st fs =>
      match fs[f]? with
      | some (off, ft) =>
        match tget tt ft with
        | some fi => if fi.size = 0 then none else
          match x with
          | .v (.c (.p o d)) => some (.v (.c (.p o (d + off))))
          | .v (.c (.cp u y)) => (subT u y off fi.size).map fun c => .v (.c c)
          | .el o sz i d => some (.el o sz i (d + off))
          | _ => none
        | none => none
      | none => none
    | _ => none
  | none => none

def evField (tt : Tab) (s : TypeId) (x : SV) (f : Nat) : Option AV :=
  match tget tt s, x with
  | some ti, .v (.ag cs) =>
    match ti.dk with
    | .st fs =>
      match fs[f]? with
      | some (off, ft) =>
        match tget tt ft with
        | some fi => if fi.dk.agg then (if off + fi.size ≤ cs.length then some (.ag ((cs.drop off).take fi.size)) else none) else match cs[off]? with | some c => some (.c c) | none => none
        | none => none
      | none => none
    | _ => none
  | _, _ => none

def evIndexAddr (tt : Tab) (H : Hp) (t : TypeId) (x y : SV) : Option (List Prop × SV) :=
  match tget tt t, y with
  | some ti, .v (.c (.int _ i)) =>
    match ti.dk with
    | .sl e =>
      match tget tt e with
      | some te =>
        match x with
        | .v (.c (.ls _ u xs)) => if u.sz = te.size then some ([0 ≤ i ∧ i < xs.length], .v (.c (.cp u (xs.getD i.toNat u.dflt)))) else none
        | .v (.c (.ho o)) =>
          match H o with
          | .vc _ u xs => if u.sz = te.size then some ([0 ≤ i ∧ i < xs.length], .el o te.size i 0) else none
          | .vz u xs => if u.sz = te.size then some ([0 ≤ i ∧ i < xs.length], .v (.c (.cp u (xs.getD i.toNat u.dflt)))) else none
          | _ => none
        | _ => none
      | none => none
    | _ => none
  | _, _ => none

def optInt : Option SV → Option (Option Int)
  | none => some none
  | some (.v (.c (.int _ i))) => some (some i)
  | _ => none

/-- x[lo:hi] and x[lo:hi:mx] of strings and of lists that stay. -/
def evSlice (tt : Tab) (H : Hp) (t : TypeId) (x : SV) (lo hi mx : Option SV) : Option (List Prop × CV) :=
  match tget tt t, optInt lo, optInt hi, optInt mx with
  | some ti, some lo, some hi, some mx =>
    match ti.dk, x with
    | .str, .v (.c (.str s)) =>
      match mx with
      | none => some ([0 ≤ lo.getD 0 ∧ lo.getD 0 ≤ hi.getD s.size ∧ hi.getD s.size ≤ s.size], .str (s.extract (lo.getD 0).toNat (hi.getD s.size).toNat))
      | some _ => none
    | .sl e, x =>
      match tget tt e, stayOf H x with
      | some te, some ⟨u, xs⟩ => if u.sz = te.size then
          match mx with
          | none => some ([0 ≤ lo.getD 0 ∧ lo.getD 0 ≤ hi.getD xs.length ∧ hi.getD xs.length ≤ xs.length], .ls false u ((xs.take (hi.getD xs.length).toNat).drop (lo.getD 0).toNat))
          | some m => some ([0 ≤ lo.getD 0 ∧ lo.getD 0 ≤ hi.getD xs.length ∧ hi.getD xs.length ≤ xs.length ∧ m = hi.getD xs.length ∧ hi.isSome = true], .ls true u ((xs.take (hi.getD xs.length).toNat).drop (lo.getD 0).toNat))
          else none
      | _, _ => none
    | _, _ => none
  | _, _, _, _ => none

def osOf : List SV → Option (List Nat)
  | [] => some []
  | .v (.c (.p o 0)) :: r => (osOf r).map (o :: ·)
  | _ => none

def maxL : Int → List SV → Option Int
  | a, [] => some a
  | a, .v (.c (.int .i64 b)) :: r => maxL (if b > a then b else a) r
  | _, _ => none
def minL : Int → List SV → Option Int
  | a, [] => some a
  | a, .v (.c (.int .i64 b)) :: r => minL (if b < a then b else a) r
  | _, _ => none

/-- What is appended. -/
def appArg (H : Hp) (el : Ty) (y : SV) : Option (List el.den) :=
  match y with
  | .v (.c .nl) => some []
  | y => match lstOf H y with | some ⟨u, ys⟩ => castL (t := u) (u := el) ys | none => none

/-- append(x, y): the list x (its object, where it is one), the new object. -/
def evAppend (tt : Tab) (H : Hp) (t : TypeId) (o' : Nat) (x y : SV) : Option Eff :=
  match tget tt t with
  | some ti =>
    match ti.dk with
    | .sl e =>
      match tget tt e, H o' with
      | some te, .fr =>
        if te.size = ti.el.sz ∧ 0 < te.bytes ∧ ti.el.zeroFits te.zero.cvs = true then
          match appArg H ti.el y with
          | some ys =>
            match x with
            | .v (.c .nl) => some ⟨[ys.length * te.bytes ≤ 140737488355328], .v (.c (.ho o')), [(o', .vc e ti.el ys)]⟩
            | .v (.c (.ho o)) =>
              match H o with
              | .vc e' u xs => if e = e' then
                  match castL (t := u) (u := ti.el) xs with
                  | some xs => some ⟨[(xs.length + ys.length) * te.bytes ≤ 140737488355328], .v (.c (.ho o')), [(o, .dd), (o', .vc e ti.el (xs ++ ys))]⟩
                  | none => none
                  else none
              | _ => none
            | .v (.c (.ls true u xs)) =>
              match castL (t := u) (u := ti.el) xs with
              | some xs => some ⟨[xs.length = 0 ∨ 0 < ys.length, (xs.length + ys.length) * te.bytes ≤ 140737488355328], .v (.c (.ho o')), [(o', .vc e ti.el (xs ++ ys))]⟩
              | none => none
            | _ => none
          | none => none
        else none
      | _, _ => none
    | _ => none
  | none => none

def evMakeSlice (tt : Tab) (H : Hp) (t : TypeId) (o' : Nat) (l c : SV) : Option Eff :=
  match tget tt t, l, c with
  | some ti, .v (.c (.int .i64 n)), .v (.c (.int .i64 m)) =>
    match ti.dk with
    | .sl e =>
      match tget tt e, H o' with
      | some te, .fr =>
        if te.size = ti.el.sz ∧ 0 < te.bytes ∧ ti.el.zeroFits te.zero.cvs = true then
          some ⟨[0 ≤ n ∧ n ≤ m ∧ m * te.bytes ≤ 140737488355328], .v (.c (.ho o')), [(o', .vc e ti.el (List.replicate n.toNat ti.el.dflt))]⟩
        else none
      | _, _ => none
    | _ => none
  | _, _, _ => none

def evLen (H : Hp) (d : DK) (x : SV) : Option Eff := (lenOf H d x).map fun n => ⟨[], .v (.c (.int .i64 n)), []⟩

/-- An operation that calls no Go function. 'id': the number of the object that it makes. -/
def evOp (tt : Tab) (H : Hp) (id : Nat) (ev : Operand → SV) (o : Oper) : Option Eff :=
  match o.op with
  | .move x | .assign x => some ⟨[], ev x, []⟩
  | .alloc t => match tget tt t, H id with | some ti, .fr => some ⟨[], .v (.c (.p id 0)), [(id, .bx ti.zero.cvs)]⟩ | _, _ => none
  | .box _ x => match ev x, H id with | .v y, .fr => if y.known = true then some ⟨[], .v (.c (.p id 0)), [(id, .bx y.cvs)]⟩ else none | _, _ => none
  | .build t ps =>
    match tget tt t with
    | some ti => match ti.dk with
      | .st fs => if fs.all (fun p => (tget tt p.2).isSome) then
          match fillCs fs tt ti.zero.cvs (ps.toList.map fun (i, x) => (i, ev x)) with | some cs => some ⟨[], .v (.ag cs), []⟩ | none => none
          else none
      | _ => none
    | none => none
  | .buildSlice t n ps =>
    match tget tt t, H id with
    | some ti, .fr => match ti.dk with
      | .sl e => match tget tt e with
        | some te => if te.size = ti.el.sz ∧ n = ps.size ∧ n * te.size ≤ 16777216 then
            match evParts H ti.el 0 (ps.toList.map fun (i, x) => (i, ev x)) with | some xs => some ⟨[], .v (.c (.ho id)), [(id, .vc e ti.el xs)]⟩ | none => none
            else none
        | none => none
      | _ => none
    | _, _ => none
  | .load t a => match evLoad tt H t (ev a) with | some x => some ⟨[], .v x, []⟩ | none => none
  | .store t a x => match evStore tt H t (ev a) (ev x) with | some us => some ⟨[], .v (.c .un), us⟩ | none => none
  | .nilCheck x => match ev x with
    | .v (.c (.p o d)) => some ⟨[], .v (.c (.p o d)), []⟩
    | .v (.c (.cp u y)) => some ⟨[], .v (.c (.cp u y)), []⟩
    | .el o sz i d => some ⟨[], .el o sz i d, []⟩
    | _ => none
  | .binOp op t x y _ => match evBin tt H op t (ev x) (ev y) with | some (C, c) => some ⟨C, .v (.c c), []⟩ | none => none
  | .unOp op _ x => match evUn op (ev x) with | some c => some ⟨[], .v (.c c), []⟩ | none => none
  | .convert src dst x =>
    match tget tt src, tget tt dst, ev x with
    | some _, some td, .v (.c (.int _ n)) => match td.dk with | .int k => some ⟨[], .v (.c (.int k (k.wrap n))), []⟩ | _ => none
    | _, _, _ => none
  | .makeFunc (.func f) first cap => if first.size = 0 then match osOf (cap.toList.map ev) with | some os => some ⟨[], .v (.c (.fn f os)), []⟩ | none => none else none
  | .makeSlice t l c => evMakeSlice tt H t id (ev l) (ev c)
  | .slice t x lo hi mx => match evSlice tt H t (ev x) (lo.map ev) (hi.map ev) (mx.map ev) with | some (C, c) => some ⟨C, .v (.c c), []⟩ | none => none
  | .fieldAddr s x f => match evFieldAddr tt s (ev x) f with | some y => some ⟨[], y, []⟩ | none => none
  | .field s x f => match evField tt s (ev x) f with | some y => some ⟨[], .v y, []⟩ | none => none
  | .indexAddr t x i => match evIndexAddr tt H t (ev x) (ev i) with | some (C, y) => some ⟨C, y, []⟩ | none => none
  | .index t x i => match tget tt t, ev x, ev i with
    | some ti, .v (.c (.str s)), .v (.c (.int _ i)) => match ti.dk with
      | .str => some ⟨[0 ≤ i ∧ i < s.size], .v (.c (.int .u8 ((s.data.toList.getD i.toNat 0).toNat : Int))), []⟩
      | _ => none
    | _, _, _ => none
  | .extract t i => match ev t with
    | .tu xs => match xs[i]? with | some x => some ⟨[], .v x, []⟩ | none => none
    | _ => none
  | .call c =>
    match c.callee with
    | .builtin .len => match c.args.toList, c.argTypes[0]? with
      | [x], some t => (match tget tt t with | some ti => evLen H ti.dk (ev x) | none => none)
      | _, _ => none
    | .builtin .append => if c.argTypes[0]? = c.argTypes[1]? then match c.argTypes[0]?, c.args.toList with | some t, [x, y] => evAppend tt H t id (ev x) (ev y) | _, _ => none else none
    | .builtin .max => match c.args.toList.map ev with
      | .v (.c (.int .i64 a)) :: r => match maxL a r with | some n => some ⟨[], .v (.c (.int .i64 n)), []⟩ | none => none
      | _ => none
    | .builtin .min => match c.args.toList.map ev with
      | .v (.c (.int .i64 a)) :: r => match minL a r with | some n => some ⟨[], .v (.c (.int .i64 n)), []⟩ | none => none
      | _ => none
    | _ => none
  | _ => none
end Al
end Go.Proofs.Ytiplmapndahmmaa
