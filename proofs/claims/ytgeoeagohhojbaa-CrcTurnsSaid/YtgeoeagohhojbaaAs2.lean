import Derived.Test.YtgeoeagohhojbaaAs1
namespace Go.AS
open Go
set_option linter.unusedVariables false
set_option linter.unusedSimpArgs false

/-- Operations whose types have been looked up. -/
inductive AOp where
  | mov (x : Operand)
  | pick (c a b : Operand)
  | new (z : List Value)
  | box (x : Operand)
  | build (z : List Value) (ps : List (Nat × Nat × Operand))
  | lit (z : List Value) (sz len : Nat) (ps : List (Nat × Nat × Operand))
  | load1 (a : Operand)
  | loadn (a : Operand) (n : Nat)
  | store (a x : Operand) (n : Nat)
  | nilc (x : Operand)
  | bin (op : BinOp) (x y : Operand)
  | un (op : UnOp) (x : Operand)
  | conv (k : IntKind) (x : Operand)
  | b2s (x : Operand)
  | s2b (x : Operand)
  | field1 (x : Operand) (off : Nat)
  | fieldn (x : Operand) (off n : Nat)
  | faddr (x : Operand) (off : Nat)
  | iaddr (x i : Operand) (sz : Nat)
  | iarr (x i : Operand) (n sz : Nat)
  | idxs (x i : Operand)
  | idxa1 (x i : Operand) (n : Nat)
  | idxan (x i : Operand) (n sz : Nat)
  | sls (x : Operand) (lo hi : Option Operand)
  | sll (x : Operand) (lo hi mx : Option Operand) (sz : Nat)
  | sla (x : Operand) (lo hi mx : Option Operand) (n sz : Nat)
  | mk (z : List Value) (bytes : Nat) (len cap : Operand)
  | ext (x : Operand) (i : Nat)
  | fn (f : Fn) (first captured : List Operand)
  | ifc (t : TypeId) (x : Operand)
  | lens (str : Bool) (x : Operand)
  | lenc (n : Nat)
  | app (s x : Operand) (sz bytes : Nat)
  | apps (s x : Operand) (bytes : Nat)
  | copy (d s : Operand) (sz : Nat)
  | mn (x y : Operand)
  | mx (x y : Operand)
  | isnil (d : TypeDesc) (x : Operand) (neg : Bool)
  | strc (x : Operand)
  | mks (x : Operand)
  | fail
  | capn (x : Operand)
  | appz (s n : Operand) (z : List Value) (bytes : Nat)
  | eqagg (neg : Bool) (L : List Value → Option (List Lit)) (x y : Operand)
  | beq (neg : Bool) (x y : Operand)
  | call (f : FuncId) (args : List Operand)
  | calld (f : Operand) (args : List Operand)

structure IOp where
  dst : Option Nat
  guard : Option (Nat × Bool)
  le : Bool
  op : AOp

inductive IC where
  | skip
  | ops (l : List IOp)
  | draw (l : List IOp)
  | seq (a b : IC)
  | cond (c : Operand) (a b : IC)
  | block (id : Nat) (a : IC)
  | loop (a : IC)
  | exit (id : Nat)
  | ret
  | scope (a : IC)

def ev (a : AT) : Operand → Value
  | .tmp t => a t
  | .const v => v
  | .global g => .pointer (some ⟨g, 0, none⟩)
  | .func f => .func (.func f) #[] #[]

def upd (a : AT) (j : Nat) (v : Value) : AT := fun k => if k = j then v else a k
def put (a : AT) (d : Option Nat) (v : Value) : AT := match d with | some j => upd a j v | none => a

def getRow (A : AH) (i : Nat) : Option (List Value × St × Nat × Bool) :=
  match A[i]? with
  | some (.row cs st sz ex) => if st = .dead then none else some (cs, st, sz, ex)
  | _ => none

/-- n cells from o on. -/
def cut (cs : List Value) (o n : Nat) : Option (List Value) := if o + n ≤ cs.length then some ((cs.drop o).take n) else none
/-- The cells of a slice. -/
def rdSl (A : AH) (sz : Nat) : Value → Option (List Value)
  | .slice none 0 _ => some []
  | .slice (some ⟨_, _, some _⟩) 0 _ => some []
  | .slice (some ⟨i, o, none⟩) n _ => if n = 0 then some [] else (getRow A i).bind fun r => cut r.1 o (n * sz)
  | _ => none

def setAll (cs : List Value) (o : Nat) (vs : List Value) : List Value := cs.take o ++ vs ++ cs.drop (o + vs.length)
def ones (vs : List Value) : Bool := vs.all (·.oneCell')

def fillA (z : List Value) : List (Nat × Nat × Value) → Option (List Value)
  | [] => some z
  | (off, n, v) :: r => if v.cells.size = n ∧ off + n ≤ z.length ∧ ones v.cells.toList = true then fillA (setAll z off v.cells.toList) r else none

def wr (A : AH) (i o : Nat) (vs : List Value) : Option AH :=
  match A[i]? with
  | some (.row cs .own sz ex) => if o + vs.length ≤ cs.length ∧ ones vs = true then some (A.set i (.row (setAll cs o vs) .own sz ex)) else none
  | _ => none

def binA : BinOp → Value → Value → Option Value
  | .shl, .int k a, .int _ b => if b < 0 then none else some (.int k (k.wrap (a * 2 ^ min b.toNat k.bits)))
  | .shr, .int k a, .int _ b => if b < 0 then none else some (.int k (a.fdiv (2 ^ min b.toNat k.bits)))
  | .add, .int k a, .int k' b => if k = k' then some (.int k (k.wrap (a + b))) else none
  | .sub, .int k a, .int k' b => if k = k' then some (.int k (k.wrap (a - b))) else none
  | .mul, .int k a, .int k' b => if k = k' then some (.int k (k.wrap (a * b))) else none
  | .quo, .int k a, .int k' b => if k = k' ∧ b ≠ 0 then some (.int k (k.wrap (a.tdiv b))) else none
  | .rem, .int k a, .int k' b => if k = k' ∧ b ≠ 0 then some (.int k (a.tmod b)) else none
  | .and, .int k a, .int k' b => if k = k' then some (.int k (k.wrap (BitVec.ofInt k.bits a &&& BitVec.ofInt k.bits b).toNat)) else none
  | .or, .int k a, .int k' b => if k = k' then some (.int k (k.wrap (BitVec.ofInt k.bits a ||| BitVec.ofInt k.bits b).toNat)) else none
  | .xor, .int k a, .int k' b => if k = k' then some (.int k (k.wrap (BitVec.ofInt k.bits a ^^^ BitVec.ofInt k.bits b).toNat)) else none
  | .andNot, .int k a, .int k' b => if k = k' then some (.int k (k.wrap (BitVec.ofInt k.bits a &&& ~~~ BitVec.ofInt k.bits b).toNat)) else none
  | .eql, .int k a, .int k' b => if k = k' then some (.bool (a == b)) else none
  | .neq, .int k a, .int k' b => if k = k' then some (.bool (a != b)) else none
  | .lss, .int k a, .int k' b => if k = k' then some (.bool (decide (a < b))) else none
  | .leq, .int k a, .int k' b => if k = k' then some (.bool (decide (a ≤ b))) else none
  | .gtr, .int k a, .int k' b => if k = k' then some (.bool (decide (a > b))) else none
  | .geq, .int k a, .int k' b => if k = k' then some (.bool (decide (a ≥ b))) else none
  | .add, .string a, .string b => if ((a.size + b.size : Nat) : Int) > IntKind.i64.max then none else some (.string (a ++ b))
  | .eql, .string a, .string b => some (.bool (a.toList == b.toList))
  | .neq, .string a, .string b => some (.bool !(a.toList == b.toList))
  | .lss, .string a, .string b => some (.bool (Op.bytesLess a.toList b.toList))
  | .leq, .string a, .string b => some (.bool (Op.bytesLess a.toList b.toList || a.toList == b.toList))
  | .gtr, .string a, .string b => some (.bool !(Op.bytesLess a.toList b.toList || a.toList == b.toList))
  | .geq, .string a, .string b => some (.bool !(Op.bytesLess a.toList b.toList))
  | _, _, _ => none

def unA : UnOp → Value → Option Value
  | .neg, .int k n => some (.int k (k.wrap (0 - n)))
  | .xor, .int k n => some (.int k (k.wrap (BitVec.ofInt k.bits (if k.signed then -1 else k.max) ^^^ BitVec.ofInt k.bits n).toNat))
  | .not, .bool b => some (.bool !b)
  | _, _ => none

def asI : Value → Option Int
  | .int _ n => some n
  | _ => none

/-- A slice's bounds: none where the machine would panic, or where more than what is known to be there is asked. -/
def boundsA (len cap : Nat) (lo hi mx : Option Value) : Option (Nat × Nat × Nat) :=
  let at_ (v : Value) (y : Nat) : Option Nat := (asI v).bind fun i => if 0 ≤ i ∧ i ≤ y then some i.toNat else none
  (match mx with | some v => at_ v cap | none => some cap).bind fun m =>
  (match hi, mx with | some v, some _ => at_ v m | some v, none => at_ v m | none, none => some len | none, some _ => none).bind fun h =>
  (match lo with | some v => at_ v h | none => some 0).bind fun l => some (l, h, m)

def u8s (s : ByteArray) : List Value := s.data.toList.map fun b => .int .u8 (b.toNat : Int)
def asByte : Value → Option UInt8
  | .int .u8 n => some (UInt8.ofNat n.toNat)
  | _ => none
def bytesA : List Value → Option (List UInt8)
  | [] => some []
  | v :: r => (asByte v).bind fun b => (bytesA r).map (b :: ·)

/-- What is taken along by an append: the old elements' cells, the heap without what is given up, how many there are. -/
def appBase (A : AH) (s : Value) (sz : Nat) : Option (List Value × AH × Nat) :=
  match s with
  | .slice none 0 0 => some ([], A, 0)
  | .slice (some ⟨i, o, none⟩) n _ =>
    match A[i]? with
    | some (Blk.row cs .own bsz ex) => if bsz = sz ∧ 0 < sz ∧ o + n * sz ≤ cs.length then some ((cs.drop o).take (n * sz), (if ex = true ∧ o + n * sz = cs.length then A else A.set i (Blk.row cs .dead bsz ex)), n) else none
    | _ => none
  | .slice (some ⟨0, 0, some 0⟩) 0 0 => some ([], A, 0)
  | _ => none

/-- New elements behind a slice: where there are none, nothing happens. -/
def appA (A : AH) (s : Value) (new : List Value) (k sz bytes : Nat) : Option (Value × AH) :=
  if k = 0 then (match s with | .slice none 0 _ => some (s, A) | .slice (some _) _ _ => some (s, A) | _ => none)
  else (appBase A s sz).bind fun r =>
    if 2 * ((r.2.2 + k) * bytes) ≤ 2 ^ 48 ∧ 0 < bytes ∧ new.length = k * sz ∧ ones new = true then
      some (.slice (some ⟨r.2.1.length, 0, none⟩) (r.2.2 + k) (r.2.2 + k), r.2.1 ++ [Blk.row (r.1 ++ new) .own sz false]) else none

/- What an operation that is no call gives, each for itself. -/
def sPick (A : AH) (c a b : Value) : Option (Value × AH) := match c with | .bool t => some (if t then a else b, A) | _ => none
def sBox (A : AH) (x : Value) : Option (Value × AH) := if ones x.cells.toList then some (.pointer (some ⟨A.length, 0, none⟩), A ++ [.row x.cells.toList .own 0 true]) else none
def sBuild (A : AH) (z : List Value) (ps : List (Nat × Nat × Value)) : Option (Value × AH) := (fillA z ps).map fun cs => (.agg cs.toArray, A)
def sLit (A : AH) (z : List Value) (sz len : Nat) (ps : List (Nat × Nat × Value)) : Option (Value × AH) :=
  (fillA ((List.replicate len z).flatten) ps).map fun cs => (.slice (some ⟨A.length, 0, none⟩) len len, A ++ [.row cs .own sz true])
def sLoad1 (A : AH) (a : Value) : Option (Value × AH) := match a with
  | .pointer (some ⟨i, o, none⟩) => (getRow A i).bind fun r => r.1[o]?.map fun v => (v, A)
  | _ => none
def sLoadn (A : AH) (a : Value) (n : Nat) : Option (Value × AH) := match a with
  | .pointer (some ⟨i, o, none⟩) => (getRow A i).bind fun r => (cut r.1 o n).map fun cs => (.agg cs.toArray, A)
  | _ => none
def sStore (A : AH) (a x : Value) (n : Nat) : Option (Value × AH) := match a with
  | .pointer (some ⟨i, o, none⟩) => if x.cells.size = n then (wr A i o x.cells.toList).map fun A' => (undef, A') else none
  | _ => none
def sNilc (A : AH) (x : Value) : Option (Value × AH) := match x with | .pointer (some a) => some (.pointer (some a), A) | _ => none
def sConv (A : AH) (k : IntKind) (x : Value) : Option (Value × AH) := match x with | .int _ n => some (.int k (k.wrap n), A) | _ => none
def sB2s (A : AH) (x : Value) : Option (Value × AH) := (rdSl A 1 x).bind fun cs => (bytesA cs).map fun bs => (.string ⟨bs.toArray⟩, A)
def sS2b (A : AH) (x : Value) : Option (Value × AH) := match x with | .string s => some (.slice (some ⟨A.length, 0, none⟩) s.size s.size, A ++ [.row (u8s s) .own 1 false]) | _ => none
def sField1 (A : AH) (x : Value) (off : Nat) : Option (Value × AH) := match x with | .agg cs => cs[off]?.map fun v => (v, A) | _ => none
def sFieldn (A : AH) (x : Value) (off n : Nat) : Option (Value × AH) := match x with | .agg cs => some (.agg (cs.extract off (off + n)), A) | _ => none
def sFaddr (A : AH) (x : Value) (off : Nat) : Option (Value × AH) := match x with | .pointer (some ⟨i, o, none⟩) => some (.pointer (some ⟨i, o + off, none⟩), A) | _ => none
def sIaddr (A : AH) (x i : Value) (sz : Nat) : Option (Value × AH) := match x with
  | .slice (some ⟨b, o, none⟩) n _ => (asI i).bind fun j => if 0 ≤ j ∧ j < n then some (.pointer (some ⟨b, o + j.toNat * sz, none⟩), A) else none
  | _ => none
def sIarr (A : AH) (x i : Value) (n sz : Nat) : Option (Value × AH) := match x with
  | .pointer (some ⟨b, o, none⟩) => (asI i).bind fun j => if 0 ≤ j ∧ j < n then some (.pointer (some ⟨b, o + j.toNat * sz, none⟩), A) else none
  | _ => none
def sIdxs (A : AH) (x i : Value) : Option (Value × AH) := match x with
  | .string s => (asI i).bind fun j => if 0 ≤ j then s[j.toNat]?.map fun b => (.int .u8 b.toNat, A) else none
  | _ => none
def sIdxa1 (A : AH) (x i : Value) (n : Nat) : Option (Value × AH) := match x with
  | .agg cs => (asI i).bind fun j => if 0 ≤ j ∧ j < n then cs[j.toNat]?.map fun v => (v, A) else none
  | _ => none
def sIdxan (A : AH) (x i : Value) (n sz : Nat) : Option (Value × AH) := match x with
  | .agg cs => (asI i).bind fun j => if 0 ≤ j ∧ j < n then some (.agg (cs.extract (j.toNat * sz) (j.toNat * sz + sz)), A) else none
  | _ => none
def sSls (A : AH) (x : Value) (lo hi : Option Value) : Option (Value × AH) := match x with
  | .string s => (boundsA s.size s.size lo hi none).map fun r => (.string (s.extract r.1 r.2.1), A)
  | _ => none
def rowSz (A : AH) (i : Nat) : Option Nat := match A[i]? with | some (.row _ _ sz _) => some sz | _ => none
def sSll (A : AH) (x : Value) (lo hi mx : Option Value) (sz : Nat) : Option (Value × AH) := match x with
  | .slice none 0 0 => (boundsA 0 0 lo hi mx).map fun _ => (.slice none 0 0, A)
  | .slice (some ⟨_, _, some _⟩) 0 0 => (boundsA 0 0 lo hi mx).map fun _ => (.slice (some zmk) 0 0, A)
  | .slice (some ⟨i, o, none⟩) n c => (boundsA n c lo hi mx).bind fun r => (rowSz A i).bind fun bsz =>
    if mx.isSome = true ∧ r.2.2 = r.1 then some (.slice (some zmk) 0 0, A)
    else if bsz = sz then some (.slice (some ⟨i, o + r.1 * sz, none⟩) (r.2.1 - r.1) (r.2.2 - r.1), A) else none
  | _ => none
def sSla (A : AH) (x : Value) (lo hi mx : Option Value) (n sz : Nat) : Option (Value × AH) := match x with
  | .pointer (some ⟨i, o, none⟩) => (boundsA n n lo hi mx).bind fun r =>
    (getRow A i).bind fun q => if q.2.2.1 = 0 ∧ o + n * sz ≤ q.1.length then (if r.2.2 = r.1 then some (.slice (some zmk) 0 0, A) else some (.slice (some ⟨i, o + r.1 * sz, none⟩) (r.2.1 - r.1) (r.2.2 - r.1), A)) else none
  | _ => none
def sMk (A : AH) (z : List Value) (bytes : Nat) (len cap : Value) : Option (Value × AH) := (asI len).bind fun l => (asI cap).bind fun c =>
  if 0 ≤ l ∧ l ≤ c ∧ bytes * c ≤ 2 ^ 48 ∧ c < 2 ^ 62 ∧ 0 < z.length then
    some (.slice (some ⟨A.length, 0, none⟩) l.toNat c.toNat, A ++ [.row ((List.replicate l.toNat z).flatten) .own z.length (decide (l = c))]) else none
def sExt (A : AH) (x : Value) (i : Nat) : Option (Value × AH) := match x with | .tuple vs => vs[i]?.map fun v => (v, A) | _ => none
def sLens (A : AH) (str : Bool) (x : Value) : Option (Value × AH) := match x with | .slice _ n _ => if str then none else some (.int .i64 n, A) | .string s => if str then some (.int .i64 s.size, A) else none | _ => none
def sApp (A : AH) (s x : Value) (sz bytes : Nat) : Option (Value × AH) := match x with
  | .slice _ k _ => (rdSl A sz x).bind fun new => appA A s new k sz bytes
  | _ => none
def sApps (A : AH) (s x : Value) (bytes : Nat) : Option (Value × AH) := match x with
  | .string t => appA A s (u8s t) t.size 1 bytes
  | _ => none
def copyTo (A : AH) (d : Value) (m : Nat) (vs : List Value) : Option (Value × AH) :=
  if m = 0 then some (.int .i64 0, A) else
  match d with
  | .slice (some ⟨i, o, none⟩) _ _ => (wr A i o vs).map fun A' => (.int .i64 m, A')
  | _ => none
def sCopy (A : AH) (d s : Value) (sz : Nat) : Option (Value × AH) := match d with
  | .slice _ n _ => match s with
    | .slice _ k _ => (rdSl A sz s).bind fun src => copyTo A d (min k n) (src.take (min k n * sz))
    | .string t => if sz = 1 then copyTo A d (min t.size n) ((u8s t).take (min t.size n)) else none
    | _ => none
  | _ => none
def sMn (A : AH) (x y : Value) : Option (Value × AH) := match x with
  | .int k a => (asI y).map fun b => (.int k (if b < a then b else a), A)
  | _ => none
def sMx (A : AH) (x y : Value) : Option (Value × AH) := match x with
  | .int k a => (asI y).map fun b => (.int k (if b > a then b else a), A)
  | _ => none
def kindOf : TypeDesc → Value → Bool
  | .slice _, .slice _ _ _ => true
  | .pointer _, .pointer _ => true
  | .map _ _, .map _ => true
  | .func _ _ _, .nilFunc => true
  | .func _ _ _, .func _ _ _ => true
  | _, _ => false
def sStr (A : AH) (x : Value) : Option (Value × AH) := match x with | .string s => some (.string s, A) | _ => none
def sIsnil (A : AH) (x : Value) (neg : Bool) : Option (Value × AH) := match x with
  | .slice a _ _ => some (.bool (a.isNone != neg), A)
  | .pointer a => some (.bool (a.isNone != neg), A)
  | .map a => some (.bool (a.isNone != neg), A)
  | .func _ _ _ => some (.bool neg, A)
  | .nilFunc => some (.bool !neg, A)
  | _ => none
def sBeq (A : AH) (neg : Bool) (x y : Value) : Option (Value × AH) := match x with
  | .bool a => match y with | .bool b => some (.bool ((a == b) != neg), A) | _ => none
  | _ => none

/-- A literal of bytes, marked. -/
def sMks (A : AH) (x : Value) : Option (Value × AH) := match x with
  | .slice (some ⟨i, o, none⟩) n c => match A[i]? with
    | some (.row _ .own _ _) => if 0 < n then some (.slice (some ⟨i, o, none⟩) n c, A) else none
    | _ => none
  | _ => none
def sCapn (A : AH) (x : Value) : Option (Value × AH) := match x with | .slice none 0 0 => some (.int .i64 0, A) | _ => none
def sAppz (A : AH) (s n : Value) (z : List Value) (bytes : Nat) : Option (Value × AH) :=
  (asI n).bind fun l => if 0 ≤ l ∧ l < 2 ^ 62 then appA A s ((List.replicate l.toNat z).flatten) l.toNat z.length bytes else none
open Classical in
/-- Two rows of numbers, texts and bools, as a type tells them (L). -/
noncomputable def sEqagg (A : AH) (neg : Bool) (L : List Value → Option (List Lit)) (x y : Value) : Option (Value × AH) := match x with
  | .agg a => match y with
    | .agg b => if a.toList.all flatV = true ∧ b.toList.all flatV = true then (L a.toList).bind fun la => (L b.toList).map fun lb => (.bool (decide (la = lb) != neg), A) else none
    | _ => none
  | _ => none

/-- What an operation that is no call gives. -/
noncomputable def step (ρ : Operand → Value) (A : AH) : AOp → Option (Value × AH)
  | .mov x => some (ρ x, A)
  | .pick c a b => sPick A (ρ c) (ρ a) (ρ b)
  | .new z => some (.pointer (some ⟨A.length, 0, none⟩), A ++ [.row z .own 0 true])
  | .box x => sBox A (ρ x)
  | .build z ps => sBuild A z (ps.map fun p => (p.1, p.2.1, ρ p.2.2))
  | .lit z sz len ps => sLit A z sz len (ps.map fun p => (p.1, p.2.1, ρ p.2.2))
  | .load1 a => sLoad1 A (ρ a)
  | .loadn a n => sLoadn A (ρ a) n
  | .store a x n => sStore A (ρ a) (ρ x) n
  | .nilc x => sNilc A (ρ x)
  | .bin op x y => (binA op (ρ x) (ρ y)).map fun v => (v, A)
  | .un op x => (unA op (ρ x)).map fun v => (v, A)
  | .conv k x => sConv A k (ρ x)
  | .b2s x => sB2s A (ρ x)
  | .s2b x => sS2b A (ρ x)
  | .field1 x off => sField1 A (ρ x) off
  | .fieldn x off n => sFieldn A (ρ x) off n
  | .faddr x off => sFaddr A (ρ x) off
  | .iaddr x i sz => sIaddr A (ρ x) (ρ i) sz
  | .iarr x i n sz => sIarr A (ρ x) (ρ i) n sz
  | .idxs x i => sIdxs A (ρ x) (ρ i)
  | .idxa1 x i n => sIdxa1 A (ρ x) (ρ i) n
  | .idxan x i n sz => sIdxan A (ρ x) (ρ i) n sz
  | .sls x lo hi => sSls A (ρ x) (lo.map ρ) (hi.map ρ)
  | .sll x lo hi mx sz => sSll A (ρ x) (lo.map ρ) (hi.map ρ) (mx.map ρ) sz
  | .sla x lo hi mx n sz => sSla A (ρ x) (lo.map ρ) (hi.map ρ) (mx.map ρ) n sz
  | .mk z bytes len cap => sMk A z bytes (ρ len) (ρ cap)
  | .ext x i => sExt A (ρ x) i
  | .fn f first captured => some (.func f (first.map ρ).toArray (captured.map ρ).toArray, A)
  | .ifc t x => some (.iface t (ρ x), A)
  | .lens str x => sLens A str (ρ x)
  | .lenc n => some (.int .i64 n, A)
  | .app s x sz bytes => sApp A (ρ s) (ρ x) sz bytes
  | .apps s x bytes => sApps A (ρ s) (ρ x) bytes
  | .copy d s sz => sCopy A (ρ d) (ρ s) sz
  | .mn x y => sMn A (ρ x) (ρ y)
  | .mx x y => sMx A (ρ x) (ρ y)
  | .isnil d x neg => if kindOf d (ρ x) then sIsnil A (ρ x) neg else none
  | .strc x => sStr A (ρ x)
  | .beq neg x y => sBeq A neg (ρ x) (ρ y)
  | .mks x => sMks A (ρ x)
  | .fail => none
  | .capn x => sCapn A (ρ x)
  | .appz s n z bytes => sAppz A (ρ s) (ρ n) z bytes
  | .eqagg neg L x y => sEqagg A neg L (ρ x) (ρ y)
  | .call _ _ => none
  | .calld _ _ => none

end Go.AS
