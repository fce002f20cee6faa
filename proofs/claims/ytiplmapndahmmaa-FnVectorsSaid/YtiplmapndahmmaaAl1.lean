/- Abstract values: what a slot, a cell, a list or an object reads as, in a world, with a set of stable cells. -/
import Derived.CallsIn
import Derived.RangeFuncIn
import Derived.OrdersIn
import Derived.DefersIn
import Derived.Laws.AppendOwn
import Derived.Laws.Cells
import Derived.Laws.Entries
import Derived.Laws.Rows
import Derived.KernelRfl
import Derived.RowKit
namespace Go.Proofs.Ytiplmapndahmmaa
namespace Al
set_option linter.constructorNameAsVariable false
set_option linter.unusedVariables false

/-- Types of what lists hold. -/
inductive Ty where
  | num (k : IntKind) | boo | st | sl (t : Ty) | pr (x y : Ty)

@[reducible] def Ty.den : Ty → Type
  | .num _ => Int
  | .boo => Bool
  | .st => ByteArray
  | .sl t => List t.den
  | .pr x y => x.den × y.den

def Ty.sz : Ty → Nat
  | .num _ | .boo | .st | .sl _ => 1
  | .pr x y => x.sz + y.sz

def Ty.dflt : (t : Ty) → t.den
  | .num _ => (0 : Int)
  | .boo => false
  | .st => ByteArray.empty
  | .sl _ => []
  | .pr x y => (x.dflt, y.dflt)

theorem Ty.sz_pos : (t : Ty) → 0 < t.sz
  | .num _ | .boo | .st | .sl _ => Nat.one_pos
  | .pr x _ => Nat.lt_of_lt_of_le x.sz_pos (Nat.le_add_right _ _)

def Ty.same : (t u : Ty) → Option (PLift (t = u))
  | .num k, .num k' => if h : k = k' then some ⟨by rw [h]⟩ else none
  | .boo, .boo => some ⟨rfl⟩
  | .st, .st => some ⟨rfl⟩
  | .sl t, .sl u => match t.same u with | some ⟨h⟩ => some ⟨by rw [h]⟩ | none => none
  | .pr a b, .pr c d => match a.same c, b.same d with | some ⟨h⟩, some ⟨h'⟩ => some ⟨by rw [h, h']⟩ | _, _ => none
  | _, _ => none

/-- What one cell reads as. 'ls f': a list that is seen and stays (f: its capacity is its length); 'ho o': the slice of object o; 'p o d': the address of cell d of object o; 'cp': the address of cells that stay. -/
inductive CV where
  | un
  | int (k : IntKind) (n : Int)
  | bool (b : Bool)
  | str (s : ByteArray)
  | np
  | p (o d : Nat)
  | cp (t : Ty) (x : t.den)
  | nl
  | ls (f : Bool) (t : Ty) (xs : List t.den)
  | ho (o : Nat)
  | fn (f : FuncId) (os : List Nat)
  | nf | ni | ie
  | mp (o : Nat)
  | nm

inductive AV where
  | c (x : CV)
  | ag (cs : List CV)

/-- What a slot reads as; 'el o sz i d': the address of cell d of element i (of sz cells) of the list that object o is; 'gd b x': x, if b. -/
inductive SV where
  | v (x : AV)
  | tu (xs : List AV)
  | el (o sz : Nat) (i : Int) (d : Nat)
  | gd (b : Bool) (x : SV)

/-- Objects: free (no value yet), dead, a block of cells of its own, a list in a block of its own (e: the block's element type), a list that stays, a map. -/
inductive AObj where
  | fr | dd
  | bx (cs : List CV)
  | vc (e : TypeId) (t : Ty) (xs : List t.den)
  | vz (t : Ty) (xs : List t.den)
  | mp (k v : Ty) (kvs : List (k.den × v.den))

def Ty.cvs : (t : Ty) → t.den → List CV
  | .num k, n => [.int k n]
  | .boo, x => [.bool x]
  | .st, x => [.str x]
  | .sl t, xs => [.ls false t xs]
  | .pr a b, x => a.cvs x.1 ++ b.cvs x.2

def Ty.av : (t : Ty) → t.den → AV
  | .num k, n => .c (.int k n)
  | .boo, x => .c (.bool x)
  | .st, x => .c (.str x)
  | .sl t, xs => .c (.ls false t xs)
  | .pr a b, x => .ag (a.cvs x.1 ++ b.cvs x.2)

def AV.cvs : AV → List CV
  | .c x => [x]
  | .ag cs => cs

abbrev Env := Nat → SV
abbrev Hp := Nat → AObj
def upd {α : Type} (f : Nat → α) (k : Nat) (v : α) : Nat → α := fun j => if j = k then v else f j

theorem upd_same {α : Type} (f : Nat → α) (k : Nat) (v : α) : upd f k v k = v := by simp [upd]
theorem upd_other {α : Type} (f : Nat → α) {k j : Nat} (v : α) (h : j ≠ k) : upd f k v j = f j := by simp [upd, h]
theorem upd_comm {α : Type} (f : Nat → α) {k j : Nat} (u v : α) (h : j ≠ k) : upd (upd f k u) j v = upd (upd f j v) k u := by
  funext i
  simp only [upd]
  by_cases h1 : i = j
  · subst h1; simp [h]
  · simp [h1]

section
variable (W : World) (St : Nat → Nat → Prop)

/-- The cells 'us' stand at A, and stay. -/
def Seen (A : Option Addr) (us : List Value) : Prop :=
  ∀ (j : Nat) (u : Value), us[j]? = some u → ∃ b o, A = some ⟨b, o, none⟩ ∧ W.cell? ⟨b, o + j, none⟩ = some u ∧ St b (o + j)

def RepL {α : Type} (sz : Nat) (R : α → List Value → Prop) (xs : List α) (A : Option Addr) (c : Nat) : Prop :=
  xs.length ≤ c ∧ c ≤ maxLen ∧ (A = none → c = 0) ∧ ∃ us : List Value, us.length = xs.length * sz ∧
    (∀ i x, xs[i]? = some x → R x ((us.drop (i * sz)).take sz)) ∧ Seen W St A us

def RepT : (t : Ty) → t.den → List Value → Prop
  | .num k, n, cs => cs = [.int k n]
  | .boo, x, cs => cs = [.bool x]
  | .st, x, cs => cs = [.string x]
  | .sl t, xs, cs => ∃ A c, cs = [.slice A (List.length xs) c] ∧ RepL W St t.sz (fun x us => RepT t x us) xs A c
  | .pr a b, x, cs => ∃ c1 c2, cs = c1 ++ c2 ∧ RepT a x.1 c1 ∧ RepT b x.2 c2

/-- An owned list: with no room at all, or at the head of a block of its own. -/
def RepX (t : Ty) (e : TypeId) (xs : List t.den) (A : Option Addr) (c : Nat) (F : Option Nat) : Prop :=
  (xs = [] ∧ c = 0 ∧ F = none) ∨
  ∃ b cur, A = some ⟨b, 0, none⟩ ∧ W.heap[b]? = some (.cells cur e (0, 0)) ∧ xs.length ≤ c ∧ c ≤ maxLen ∧ cur.size = c * t.sz ∧
    (∀ i x, xs[i]? = some x → RepT W St t x ((cur.toList.drop (i * t.sz)).take t.sz)) ∧ F = some b

variable (ρ : Nat → Option Value)

def RepC : CV → Value → Prop
  | .un, _ => True
  | .int k n, u => u = .int k n
  | .bool b, u => u = .bool b
  | .str s, u => u = .string s
  | .np, u => u = .pointer none
  | .p o d, u => ∃ b, ρ o = some (.pointer (some ⟨b, 0, none⟩)) ∧ u = .pointer (some ⟨b, d, none⟩)
  | .cp t x, u => ∃ b o us, u = .pointer (some ⟨b, o, none⟩) ∧ RepT W St t x us ∧ Seen W St (some ⟨b, o, none⟩) us
  | .nl, u => u = .slice none 0 0
  | .ls f t xs, u => ∃ A c, u = .slice A xs.length c ∧ RepL W St t.sz (fun x us => RepT W St t x us) xs A c ∧ (f = true → c = xs.length)
  | .ho o, u => ρ o = some u ∧ ∃ A n c, u = .slice A n c
  | .fn f os, u => ∃ vs : List Value, os.map ρ = vs.map some ∧ u = .func (.func f) #[] vs.toArray
  | .nf, u => u = .nilFunc
  | .ni, u => u = .nilIface
  | .ie, u => ∃ t x, u = .iface t x
  | .mp o, u => ρ o = some u ∧ ∃ b, u = .map (some b)
  | .nm, u => u = .map none

def RepCs : List CV → List Value → Prop
  | [], us => us = []
  | c :: cs, us => ∃ u us', us = u :: us' ∧ u.oneCell' = true ∧ RepC W St ρ c u ∧ RepCs cs us'

def RepA : AV → Value → Prop
  | .c .un, _ => True
  | .c x, u => u.oneCell' = true ∧ RepC W St ρ x u
  | .ag cs, u => ∃ us : List Value, u = .agg us.toArray ∧ RepCs W St ρ cs us

def RepAs : List AV → List Value → Prop
  | [], us => us = []
  | c :: cs, us => ∃ u us', us = u :: us' ∧ RepA W St ρ c u ∧ RepAs cs us'

def RepS : SV → Value → Prop
  | .v x, u => RepA W St ρ x u
  | .tu xs, u => ∃ us : List Value, u = .tuple us.toArray ∧ RepAs W St ρ xs us
  | .el o sz i d, u => ∃ b n c, ρ o = some (.slice (some ⟨b, 0, none⟩) n c) ∧ 0 ≤ i ∧ i < n ∧ u = .pointer (some ⟨b, i.toNat * sz + d, none⟩)
  | .gd b x, u => (b = true → RepS x u) ∧ (b = false → u = undef)

def RepO : AObj → Option Value → Option Nat → Prop
  | .fr, r, F => r = none ∧ F = none
  | .dd, _, F => F = none
  | .bx cs, r, F => ∃ b cur e, r = some (.pointer (some ⟨b, 0, none⟩)) ∧ W.heap[b]? = some (.cells cur e (0, 0)) ∧ RepCs W St ρ cs cur.toList ∧ F = some b
  | .vc e t xs, r, F => ∃ A c, r = some (.slice A xs.length c) ∧ RepX W St t e xs A c F
  | .vz t xs, r, F => (∃ A c, r = some (.slice A xs.length c) ∧ RepL W St t.sz (fun x us => RepT W St t x us) xs A c) ∧ F = none
  | .mp kt vt kvs, r, F => ∃ b es clk, r = some (.map (some b)) ∧ W.heap[b]? = some (.map es clk) ∧ F = some b ∧ es.size = kvs.length ∧
      ∀ (i : Nat) (kv : kt.den × vt.den), kvs[i]? = some kv → ∃ en : MapEntry, es[i]? = some en ∧ RepT W St kt kv.1 en.key.cells.toList ∧ RepT W St vt kv.2 en.val.cells.toList ∧
        (en.key.oneCell' = true ∨ en.key = .agg en.key.cells) ∧ (en.val.oneCell' = true ∨ en.val = .agg en.val.cells)
end
end Al
end Go.Proofs.Ytiplmapndahmmaa
