/-
  THE ABSTRACT MACHINE: plain Lean functions over abstract values and an abstract heap, and the translation of the model's code into its own small code. Nothing is proved here.
-/
import GoSem.Step
import Derived.KernelRfl
namespace Go.Proofs.Ytocoadpepofbbaa.AM
open Go

/-- An address: a block, its generation (the number of its cells when the address was made), the cell. -/
structure Ad where
  b : Nat
  g : Nat
  o : Nat
  deriving DecidableEq, Inhabited

/-- The capacity of a slice: known, or not (then the size of its elements, 0 where nothing is known of it). -/
inductive Cap where
  | k (n : Nat)
  | u (size : Nat)
  deriving DecidableEq, Inhabited

inductive AV where
  | int (k : IntKind) (n : Int)
  | bool (b : Bool)
  | str (s : ByteArray)
  | ptr (a : Option Ad)
  | sl (a : Option Ad) (len : Nat) (cap : Cap)
  | map (r : Option Nat)
  | fn (f : FuncId) (cap : List AV)
  | yld (l : Nat)
  | nilFn
  | agg (cs : List AV)
  | tup (vs : List AV)
  deriving Inhabited

def undefA : AV := .tup []
def nilSl : AV := .sl none 0 (.k 0)

inductive AOpd where
  | t (i : Nat)
  | c (v : AV)
  deriving Inhabited

inductive Tgt where
  | f (f : FuncId)
  | y (l : Nat)
  deriving Inhabited

inductive AOp where
  | mv (x : AOpd)
  | pick (c a b : AOpd)
  | new (zs : List AV)
  | box (x : AOpd)
  | build (zs : List AV) (ps : List (Nat × Nat × AOpd))
  | buildSl (zs : List AV) (len : Nat) (ps : List (Nat × Nat × AOpd))
  | load (n : Option Nat) (a : AOpd)
  | store (n : Nat) (a x : AOpd)
  | nilCheck (x : AOpd)
  | bin (op : BinOp) (x y : AOpd)
  | binB (op : BinOp) (x y : AOpd)
  | eqAgg (ks : List (Option IntKind)) (ne : Bool) (x y : AOpd)
  | isNil (ne : Bool) (x : AOpd)
  | un (op : UnOp) (x : AOpd)
  | conv (k : IntKind) (x : AOpd)
  | bytesStr (x : AOpd)
  | mkFn (f : FuncId) (cap : List AOpd)
  | mkMap (ag : Bool) (ks : List (Option IntKind))
  | mkSl (zs : List AV) (bytes : Nat) (len cap : AOpd)
  | slice (size : Nat) (x : AOpd) (lo hi : Option AOpd)
  | sliceS (x : AOpd) (lo hi : Option AOpd)
  | sliceA (n size : Nat) (x : AOpd)
  | slice3 (size : Nat) (x : AOpd) (lo hi : Option AOpd) (mx : AOpd)
  | field (n : Option Nat) (off : Nat) (x : AOpd)
  | fieldAddr (off : Nat) (x : AOpd)
  | idxArr (len size : Nat) (x i : AOpd)
  | idxSl (size : Nat) (x i : AOpd)
  | index (len size : Nat) (n : Option Nat) (x i : AOpd)
  | indexS (x i : AOpd)
  | lookup (ag : Bool) (ks : List (Option IntKind)) (z : AV) (m k : AOpd) (ok : Bool)
  | mapUpd (ag : Bool) (ks : List (Option IntKind)) (m k x : AOpd)
  | extract (x : AOpd) (i : Nat)
  | call (f : FuncId) (args : List AOpd)
  | callV (f : AOpd) (args : List AOpd)
  | len (x : AOpd)
  | lenS (x : AOpd)
  | mx (xs : List AOpd)
  | mn (xs : List AOpd)
  | append (size bytes : Nat) (s x : AOpd)
  | copy (size : Nat) (d s : AOpd)
  deriving Inhabited

structure AOper where
  dst : Option Nat
  op : AOp
  guard : Option (Nat × Bool)
  deriving Inhabited

inductive ACode where
  | skip
  | region (ops : List AOper) (chk : List (Nat × Nat)) (draw : Bool)
  | seq (a b : ACode)
  | cond (c : AOpd) (t e : ACode)
  | block (id : Nat) (b : ACode)
  | loop (b : ACode)
  | exit (id : Nat)
  | ret
  | rangeF (f : AOpd) (params : List Nat) (assign body : ACode)
  deriving Inhabited

inductive AExit where
  | normal
  | exit (id : Nat)
  | ret
  deriving Inhabited, DecidableEq

structure ALoop where
  st : LoopState
  pend : Option AExit
  e : List AV
  params : List Nat
  assign : ACode
  body : ACode
  deriving Inhabited

inductive ABlk where
  | row (ro : Bool) (cs : List AV)
  | map (ag : Bool) (ks : List (Option IntKind)) (es : List (AV × AV))
  | defr
  | loop (l : ALoop)
  deriving Inhabited

structure Ret where
  v : AV
  h : List ABlk
  wr : List Nat
  lk : Option (Nat × Nat)
  deriving Inhabited

structure OpR where
  v : AV
  h : List ABlk
  wr : List Nat
  lk : Option (Nat × Nat)
  acc : Option (List Nat)
  deriving Inhabited

/-! ### temporaries -/
def eget : List AV → Nat → AV
  | [], _ => undefA
  | x :: _, 0 => x
  | _ :: l, n + 1 => eget l n
def eset : List AV → Nat → AV → List AV
  | [], 0, v => [v]
  | [], n + 1, v => undefA :: eset [] n v
  | _ :: l, 0, v => v :: l
  | x :: l, n + 1, v => x :: eset l n v
def av (e : List AV) : AOpd → AV
  | .t i => eget e i
  | .c v => v

/-! ### references -/
mutual
def refs : AV → List Nat
  | .ptr (some a) => [a.b]
  | .sl (some a) _ _ => [a.b]
  | .map (some r) => [r]
  | .yld l => [l]
  | .fn _ cs => refsL cs
  | .agg cs => refsL cs
  | .tup cs => refsL cs
  | _ => []
def refsL : List AV → List Nat
  | [] => []
  | v :: vs => refs v ++ refsL vs
end

def AV.cells : AV → List AV
  | .agg cs => cs
  | v => [v]
def AV.one : AV → Bool
  | .agg _ => false
  | .tup _ => false
  | _ => true

/-! ### reading and writing rows -/
def rdN (h : List ABlk) (p : Ad) (n : Nat) : Option (List AV) :=
  match h[p.b]? with
  | some (.row _ cs) => if cs.length = p.g ∧ p.o + n ≤ cs.length then some ((cs.drop p.o).take n) else none
  | _ => none
def rd1 (h : List ABlk) (p : Ad) : Option AV :=
  match h[p.b]? with
  | some (.row _ cs) => if cs.length = p.g then cs[p.o]? else none
  | _ => none
def wrN : List AV → Nat → List AV → List AV
  | cs, _, [] => cs
  | cs, o, v :: vs => wrN (cs.set o v) (o + 1) vs

def lkOf (b : Nat) (v : List AV) : Option (Nat × Nat) :=
  match (refsL v).filter (b < ·) with
  | [] => none
  | r :: rs => some (b, (r :: rs).foldl max 0)
def mrg : Option (Nat × Nat) → Option (Nat × Nat) → Option (Nat × Nat)
  | none, x => x
  | x, none => x
  | some (b, r), some (c, s) => some (min b c, max r s)
def adj (lo : Nat) (lk : Option (Nat × Nat)) (len : Nat) : Nat :=
  match lk with
  | some (b, r) => if b < lo ∧ lo ≤ r then len else lo
  | none => lo
def cut (base : Nat) : Option (Nat × Nat) → Option (Nat × Nat)
  | some (b, r) => if b < base then some (b, r) else none
  | none => none
def addAll : List Nat → List Nat → List Nat
  | l, [] => l
  | l, x :: xs => addAll (if x ∈ l then l else l ++ [x]) xs

/-! ### aggregates -/
def aFill (cells : List AV) : List (Nat × Nat × AV) → Option (List AV)
  | [] => some cells
  | (off, size, v) :: rest =>
    if v.cells.length = size ∧ off + size ≤ cells.length then aFill (wrN cells off v.cells) rest else none
def aPart (n : Option Nat) (off : Nat) (cs : List AV) : Option AV :=
  match n with
  | some n => some (.agg ((cs.drop off).take n))
  | none => cs[off]?

/-! ### numbers -/
def aBin (op : BinOp) : AV → AV → Option AV
  | .int k a, .int k' b =>
    match op with
    | .shl => if b < 0 then none else some (.int k (k.wrap (a * 2 ^ (min b.toNat k.bits))))
    | .shr => if b < 0 then none else some (.int k (a.fdiv (2 ^ (min b.toNat k.bits))))
    | _ => if k ≠ k' then none else
      match op with
      | .add => some (.int k (k.wrap (a + b)))
      | .sub => some (.int k (k.wrap (a - b)))
      | .mul => some (.int k (k.wrap (a * b)))
      | .quo => if b = 0 then none else some (.int k (k.wrap (a.tdiv b)))
      | .rem => if b = 0 then none else some (.int k (a.tmod b))
      | .and => some (.int k (k.wrap (BitVec.ofInt k.bits a &&& BitVec.ofInt k.bits b).toNat))
      | .or => some (.int k (k.wrap (BitVec.ofInt k.bits a ||| BitVec.ofInt k.bits b).toNat))
      | .andNot => some (.int k (k.wrap (BitVec.ofInt k.bits a &&& ~~~(BitVec.ofInt k.bits b)).toNat))
      | .eql => some (.bool (a == b))
      | .neq => some (.bool (a != b))
      | .lss => some (.bool (a < b))
      | .leq => some (.bool (a ≤ b))
      | .gtr => some (.bool (a > b))
      | .geq => some (.bool (a ≥ b))
      | _ => none
  | .str a, .str b =>
    match op with
    | .eql => some (.bool (a.toList == b.toList))
    | .neq => some (.bool !(a.toList == b.toList))
    | .add => if ((a.size + b.size : Nat) : Int) > IntKind.i64.max then none else some (.str (a ++ b))
    | _ => none
  | _, _ => none
def aBinB (op : BinOp) : AV → AV → Option AV
  | .bool a, .bool b =>
    match op with
    | .eql => some (.bool (a == b))
    | .neq => some (.bool (!(a == b)))
    | _ => none
  | _, _ => none
def aUn (op : UnOp) : AV → Option AV
  | .int k a => match op with
    | .neg => some (.int k (k.wrap (0 - a)))
    | _ => none
  | .bool b => match op with
    | .not => some (.bool !b)
    | _ => none
  | _ => none
/-- The plain numbers of a value of whole numbers and bools (for comparing values of one type). -/
def code1 : AV → Option Int
  | .int _ n => some n
  | .bool b => some (if b then 1 else 0)
  | _ => none
def codeL : List AV → Option (List Int)
  | [] => some []
  | v :: vs => match code1 v, codeL vs with
    | some n, some ns => some (n :: ns)
    | _, _ => none
def code : AV → Option (List Int)
  | .agg cs => codeL cs
  | v => codeL [v]
def shape1 : Option IntKind → AV → Bool
  | some k, .int k' _ => k == k'
  | none, .bool _ => true
  | _, _ => false
def shapeL : List (Option IntKind) → List AV → Bool
  | [], [] => true
  | k :: ks, v :: vs => shape1 k v && shapeL ks vs
  | _, _ => false
def shapeK (ag : Bool) (ks : List (Option IntKind)) (v : AV) : Bool :=
  match v with
  | .agg cs => ag && shapeL ks cs
  | v => !ag && shapeL ks [v]
def codeD (v : AV) : List Int := (code v).getD []
def aEqAgg (ks : List (Option IntKind)) (ne : Bool) : AV → AV → Option AV
  | .agg xs, .agg ys =>
    if shapeL ks xs && shapeL ks ys then
      match codeL xs, codeL ys with
      | some a, some b => some (.bool (if ne then !(a == b) else a == b))
      | _, _ => none
    else none
  | _, _ => none

def aFind (k : List Int) : List (AV × AV) → Nat → Option (Nat × AV)
  | [], _ => none
  | (x, v) :: es, i => if codeD x = k then some (i, v) else aFind k es (i + 1)

def asI : AV → Option Int
  | .int _ n => some n
  | _ => none
def asN (v : AV) : Option Nat :=
  match v with
  | .int _ n => if 0 ≤ n then some n.toNat else none
  | _ => none
def aBound (e : List AV) (d : Nat) : Option AOpd → Option Nat
  | none => some d
  | some x => asN (av e x)
def aMax : AV → AV → Option AV
  | .int k x, .int _ y => some (.int k (if y > x then y else x))
  | _, _ => none
def aMin : AV → AV → Option AV
  | .int k x, .int _ y => some (.int k (if y < x then y else x))
  | _, _ => none
def foldO (f : AV → AV → Option AV) : AV → List AV → Option AV
  | x, [] => some x
  | x, y :: ys => match f x y with
    | some z => foldO f z ys
    | none => none

def capMax (len : Nat) : Cap → Nat
  | .k n => n
  | .u _ => len
def capCut (size l : Nat) : Cap → Option Cap
  | .k n => some (.k (n - l))
  | .u s => if s = 0 ∨ s = size then some (.u s) else none
def slCells (h : List ABlk) (size n : Nat) : AV → Option (List AV × List Nat)
  | .sl none _ _ => if n = 0 then some ([], []) else none
  | .sl (some p) len _ => if n ≤ len then (rdN h p (n * size)).map (·, [p.b]) else none
  | _ => none

/-! ### one operation -/
def aOp (call : Tgt → List AV → List ABlk → Option Ret) (e : List AV) (h : List ABlk) : AOp → Option OpR
  | .mv x => some ⟨av e x, h, [], none, some []⟩
  | .pick c a b =>
    match av e c with
    | .bool t => some ⟨if t then av e a else av e b, h, [], none, some []⟩
    | _ => none
  | .new zs => some ⟨.ptr (some ⟨h.length, zs.length, 0⟩), h ++ [.row false zs], [], none, some []⟩
  | .box x => some ⟨.ptr (some ⟨h.length, (av e x).cells.length, 0⟩), h ++ [.row false (av e x).cells], [], none, some []⟩
  | .build zs ps =>
    match aFill zs (ps.map fun p => (p.1, p.2.1, av e p.2.2)) with
    | some cs => some ⟨.agg cs, h, [], none, some []⟩
    | none => none
  | .buildSl zs len ps =>
    match aFill zs (ps.map fun p => (p.1, p.2.1, av e p.2.2)) with
    | some cs => some ⟨.sl (some ⟨h.length, cs.length, 0⟩) len (.k len), h ++ [.row false cs], [], none, some []⟩
    | none => none
  | .load n a =>
    match av e a with
    | .ptr (some p) =>
      match n with
      | some n => (rdN h p n).map fun cs => ⟨.agg cs, h, [], none, some [p.b]⟩
      | none => (rd1 h p).map fun v => ⟨v, h, [], none, some [p.b]⟩
    | _ => none
  | .store n a x =>
    match av e a with
    | .ptr (some p) =>
      match h[p.b]? with
      | some (.row false cs) =>
        if cs.length = p.g ∧ p.o + n ≤ cs.length ∧ (av e x).cells.length = n ∧ (av e x).cells.all AV.one then
          some ⟨undefA, h.set p.b (.row false (wrN cs p.o (av e x).cells)), [p.b], lkOf p.b (av e x).cells, some [p.b]⟩
        else none
      | _ => none
    | _ => none
  | .nilCheck x =>
    match av e x with
    | .ptr (some p) => some ⟨.ptr (some p), h, [], none, some []⟩
    | .fn f cs => some ⟨.fn f cs, h, [], none, some []⟩
    | .yld l => some ⟨.yld l, h, [], none, some []⟩
    | _ => none
  | .bin op x y => (aBin op (av e x) (av e y)).map fun v => ⟨v, h, [], none, some []⟩
  | .binB op x y => (aBinB op (av e x) (av e y)).map fun v => ⟨v, h, [], none, some []⟩
  | .eqAgg ks ne x y => (aEqAgg ks ne (av e x) (av e y)).map fun v => ⟨v, h, [], none, some []⟩
  | .isNil ne x =>
    match av e x with
    | .sl a _ _ => some ⟨.bool (if ne then !a.isNone else a.isNone), h, [], none, some []⟩
    | _ => none
  | .un op x => (aUn op (av e x)).map fun v => ⟨v, h, [], none, some []⟩
  | .conv k x =>
    match av e x with
    | .int _ n => some ⟨.int k (k.wrap n), h, [], none, some []⟩
    | _ => none
  | .bytesStr x =>
    match av e x with
    | .sl none _ _ => some ⟨.str .empty, h, [], none, some []⟩
    | .sl (some p) len _ =>
      match rdN h p len with
      | some cs =>
        match cs.mapM (fun | .int .u8 n => some (UInt8.ofNat n.toNat) | _ => none) with
        | some bs => some ⟨.str ⟨bs.toArray⟩, h, [], none, some [p.b]⟩
        | none => none
      | none => none
    | _ => none
  | .mkFn f cap => some ⟨.fn f (cap.map (av e)), h, [], none, some []⟩
  | .mkMap ag ks => some ⟨.map (some h.length), h ++ [.map ag ks []], [], none, some []⟩
  | .mkSl zs bytes len cap =>
    match av e len, av e cap with
    | .int _ l, .int _ c =>
      let l := IntKind.i64.wrap l
      let c := IntKind.i64.wrap c
      if 0 ≤ l ∧ l ≤ c ∧ bytes * c ≤ 2 ^ 48 then
        some ⟨.sl (some ⟨h.length, c.toNat * zs.length, 0⟩) l.toNat (.k c.toNat), h ++ [.row false (List.replicate c.toNat zs).flatten], [], none, some []⟩
      else none
    | _, _ => none
  | .slice size x lo hi =>
    match av e x with
    | .sl a len cap =>
      match aBound e 0 lo, aBound e len hi with
      | some l, some k =>
        if l ≤ k ∧ k ≤ capMax len cap then
          match capCut size l cap with
          | some cap => some ⟨.sl (a.map fun p => { p with o := p.o + l * size }) (k - l) cap, h, [], none, some []⟩
          | none => none
        else none
      | _, _ => none
    | _ => none
  | .sliceS x lo hi =>
    match av e x with
    | .str s =>
      match aBound e 0 lo, aBound e s.size hi with
      | some l, some k => if l ≤ k ∧ k ≤ s.size then some ⟨.str (s.extract l k), h, [], none, some []⟩ else none
      | _, _ => none
    | _ => none
  | .slice3 size x lo hi mx =>
    match av e x with
    | .sl a len cap =>
      match aBound e 0 lo, aBound e len hi, asN (av e mx) with
      | some l, some k, some m =>
        if l ≤ k ∧ k ≤ m ∧ m ≤ capMax len cap then
          some ⟨.sl (a.map fun p => { p with o := p.o + l * size }) (k - l) (.k (m - l)), h, [], none, some []⟩
        else none
      | _, _, _ => none
    | _ => none
  | .sliceA n size x =>
    match av e x with
    | .ptr (some p) => if 0 < n ∧ 0 < size then some ⟨.sl (some p) n (.k n), h, [], none, some []⟩ else none
    | _ => none
  | .field n off x =>
    match av e x with
    | .agg cs => (aPart n off cs).map fun v => ⟨v, h, [], none, some []⟩
    | _ => none
  | .fieldAddr off x =>
    match av e x with
    | .ptr (some p) => some ⟨.ptr (some { p with o := p.o + off }), h, [], none, some []⟩
    | _ => none
  | .idxArr len size x i =>
    match av e x, av e i with
    | .ptr (some p), .int _ n => if 0 ≤ n ∧ n < len then some ⟨.ptr (some { p with o := p.o + n.toNat * size }), h, [], none, some []⟩ else none
    | _, _ => none
  | .idxSl size x i =>
    match av e x, av e i with
    | .sl (some p) len _, .int _ n => if 0 ≤ n ∧ n < len then some ⟨.ptr (some { p with o := p.o + n.toNat * size }), h, [], none, some []⟩ else none
    | _, _ => none
  | .index len size n x i =>
    match av e x, av e i with
    | .agg cs, .int _ j => if 0 ≤ j ∧ j < len then (aPart n (j.toNat * size) cs).map fun v => ⟨v, h, [], none, some []⟩ else none
    | _, _ => none
  | .indexS x i =>
    match av e x, av e i with
    | .str s, .int _ j =>
      match (if 0 ≤ j then s[j.toNat]? else none) with
      | some b => some ⟨.int .u8 b.toNat, h, [], none, some []⟩
      | none => none
    | _, _ => none
  | .lookup ag ks z m k ok =>
    if shapeK ag ks (av e k) then
      match av e m with
      | .map none => some ⟨if ok then .tup [z, .bool false] else z, h, [], none, some []⟩
      | .map (some r) =>
        match h[r]? with
        | some (.map ag' ks' es) =>
          if ag' = ag ∧ ks' = ks then
            match aFind (codeD (av e k)) es 0 with
            | some (_, v) => some ⟨if ok then .tup [v, .bool true] else v, h, [], none, some [r]⟩
            | none => some ⟨if ok then .tup [z, .bool false] else z, h, [], none, some [r]⟩
          else none
        | _ => none
      | _ => none
    else none
  | .mapUpd ag ks m k x =>
    if shapeK ag ks (av e k) then
      match av e m with
      | .map (some r) =>
        match h[r]? with
        | some (.map ag' ks' es) =>
          if ag' = ag ∧ ks' = ks then
            match aFind (codeD (av e k)) es 0 with
            | some (i, _) => some ⟨undefA, h.set r (.map ag ks (es.set i (av e k, av e x))), [r], lkOf r [av e x], some [r]⟩
            | none => some ⟨undefA, h.set r (.map ag ks (es ++ [(av e k, av e x)])), [r], lkOf r [av e x], some [r]⟩
          else none
        | _ => none
      | _ => none
    else none
  | .extract x i =>
    match av e x with
    | .tup vs => (vs[i]?).map fun v => ⟨v, h, [], none, some []⟩
    | _ => none
  | .call f args => (call (.f f) (args.map (av e)) h).map fun r => ⟨r.v, r.h, r.wr, r.lk, none⟩
  | .callV f args =>
    match av e f with
    | .fn g cap => (call (.f g) (args.map (av e) ++ cap) h).map fun r => ⟨r.v, r.h, r.wr, r.lk, none⟩
    | .yld l => (call (.y l) (args.map (av e)) h).map fun r => ⟨r.v, r.h, r.wr, r.lk, none⟩
    | _ => none
  | .len x =>
    match av e x with
    | .sl _ len _ => some ⟨.int .i64 len, h, [], none, some []⟩
    | _ => none
  | .lenS x =>
    match av e x with
    | .str s => some ⟨.int .i64 s.size, h, [], none, some []⟩
    | _ => none
  | .mx xs =>
    match xs.map (av e) with
    | x :: rest => (foldO aMax x rest).map fun v => ⟨v, h, [], none, some []⟩
    | [] => none
  | .mn xs =>
    match xs.map (av e) with
    | x :: rest => (foldO aMin x rest).map fun v => ⟨v, h, [], none, some []⟩
    | [] => none
  | .append size bytes s x =>
    match av e s, av e x with
    | .sl a len cap, .sl b n c =>
      match slCells h size n (.sl b n c) with
      | none => none
      | some (new, acc) =>
        if n = 0 then some ⟨.sl a len cap, h, [], none, some []⟩
        else if (len + n) * bytes ≤ 140737488355328 ∧ new.all AV.one then
          match a with
          | none => some ⟨.sl (some ⟨h.length, new.length, 0⟩) n (.u size), h ++ [.row false new], [], none, some acc⟩
          | some p =>
            match h[p.b]? with
            | some (.row ro cs) =>
              if cs.length = p.g then
                match cap with
                | .k cp =>
                  if len + n ≤ cp then
                    if ro = false ∧ p.o = 0 ∧ (len + n) * size ≤ cs.length then
                      some ⟨.sl (some p) (len + n) (.k cp), h.set p.b (.row false (wrN cs (len * size) new)), [p.b], lkOf p.b new, some (p.b :: acc)⟩
                    else none
                  else if len ≤ cp ∧ p.o + len * size ≤ cs.length then
                    if ro = false ∧ p.o = 0 ∧ cs.length = cp * size then
                      some ⟨.sl (some ⟨p.b, (cs.take (len * size) ++ new).length, 0⟩) (len + n) (.u size), h.set p.b (.row false (cs.take (len * size) ++ new)), [p.b], lkOf p.b new, some (p.b :: acc)⟩
                    else some ⟨.sl (some ⟨h.length, ((cs.drop p.o).take (len * size) ++ new).length, 0⟩) (len + n) (.u size), h ++ [.row false ((cs.drop p.o).take (len * size) ++ new)], [], none, some (p.b :: acc)⟩
                  else none
                | .u sz =>
                  if ro = false ∧ p.o = 0 ∧ cs.length = len * size ∧ sz = size then
                    some ⟨.sl (some ⟨p.b, (cs ++ new).length, 0⟩) (len + n) (.u size), h.set p.b (.row false (cs ++ new)), [p.b], lkOf p.b new, some (p.b :: acc)⟩
                  else none
              else none
            | _ => none
        else none
    | _, _ => none
  | .copy size d s =>
    match av e d, av e s with
    | .sl (some p) dl _, .sl b n c =>
      match slCells h size (min n dl) (.sl b n c) with
      | none => none
      | some (new, acc) =>
        match h[p.b]? with
        | some (.row false cs) =>
          if cs.length = p.g ∧ p.o + new.length ≤ cs.length ∧ new.all AV.one then
            some ⟨.int .i64 (min n dl : Nat), h.set p.b (.row false (wrN cs p.o new)), [p.b], lkOf p.b new, some (p.b :: acc)⟩
          else none
        | _ => none
    | _, _ => none

structure St where
  e : List AV
  h : List ABlk
  lo : Nat
  wr : List Nat
  lk : Option (Nat × Nat)
  deriving Inhabited

/-- What an operation wrote, and what it looked at (none: whatever can be reached). -/
structure FP where
  wr : List Nat
  acc : Option (List Nat)
  deriving Inhabited

def wantedA (e : List AV) : Option (Nat × Bool) → Bool
  | none => true
  | some (t, w) => match eget e t with
    | .bool b => b == w
    | _ => false

def stepOp (call : Tgt → List AV → List ABlk → Option Ret) (base : Nat) (o : AOper) (s : St) : Option (St × FP) :=
  if wantedA s.e o.guard then
    match aOp call s.e s.h o.op with
    | some r => some (⟨match o.dst with | some d => eset s.e d r.v | none => s.e, r.h, adj s.lo r.lk r.h.length, addAll s.wr (r.wr.filter (· < base)), mrg s.lk (cut base r.lk)⟩, ⟨r.wr, r.acc⟩)
    | none => none
  else some (⟨match o.dst with | some d => eset s.e d undefA | none => s.e, s.h, s.lo, s.wr, s.lk⟩, ⟨[], some []⟩)

def runOps (call : Tgt → List AV → List ABlk → Option Ret) (base : Nat) : List AOper → St → Option St
  | [], s => some s
  | o :: os, s => match stepOp call base o s with
    | some (s', _) => runOps call base os s'
    | none => none
def runOpsF (call : Tgt → List AV → List ABlk → Option Ret) (base : Nat) : List AOper → St → Option (St × List FP)
  | [], s => some (s, [])
  | o :: os, s => match stepOp call base o s with
    | some (s', f) => match runOpsF call base os s' with
      | some (s'', fs) => some (s'', f :: fs)
      | none => none
    | none => none

/-- Neither of two operations looks at what the other one wrote. -/
def apartFP (f g : FP) : Bool :=
  (match g.acc with | some l => l.all fun b => !f.wr.contains b | none => f.wr.isEmpty) &&
  (match f.acc with | some l => l.all fun b => !g.wr.contains b | none => g.wr.isEmpty)
def chkFP (fs : List FP) (ps : List (Nat × Nat)) : Bool :=
  ps.all fun (i, j) => match fs[i]?, fs[j]? with
    | some f, some g => apartFP f g
    | _, _ => false

def iter (f : St → Option (AExit × St)) : Nat → St → Option (AExit × St)
  | 0, _ => none
  | n + 1, s => match f s with
    | some (.normal, s') => iter f n s'
    | r => r

def pushTmps : List AV → List Nat → List AV → List AV
  | e, t :: ts, v :: vs => pushTmps (eset e t v) ts vs
  | e, _, _ => e

def exec (call : Tgt → List AV → List ABlk → Option Ret) (N base : Nat) (inR : Bool) : ACode → St → Option (AExit × St)
  | .skip, s => some (.normal, s)
  | .region ops chk draw, s =>
    if draw = true ∧ chk ≠ [] then
      match runOpsF call base ops s with
      | some (s', fs) => if chkFP fs chk then some (.normal, s') else none
      | none => none
    else match runOps call base ops s with
      | some s' => some (.normal, s')
      | none => none
  | .seq a b, s =>
    match exec call N base inR a s with
    | some (.normal, s') => exec call N base inR b s'
    | r => r
  | .cond c t e, s =>
    match av s.e c with
    | .bool true => exec call N base inR t s
    | .bool false => exec call N base inR e s
    | _ => none
  | .block id b, s =>
    match exec call N base inR b s with
    | some (.exit i, s') => if i = id then some (.normal, s') else some (.exit i, s')
    | r => r
  | .loop b, s => iter (exec call N base inR b) N s
  | .exit id, s => some (.exit id, s)
  | .ret, s => some (.ret, s)
  | .rangeF f params assign body, s =>
    if inR then none else
    let h1 := s.h ++ [.defr]
    let l := h1.length
    let h2 := h1 ++ [.loop ⟨.ready, none, s.e, params, assign, body⟩]
    match av s.e f with
    | .fn g cap =>
      match call (.f g) (.yld l :: cap) h2 with
      | some r =>
        match r.h[l]? with
        | some (.loop lp) =>
          if lp.st = .busy then none else
          let s' : St := ⟨s.e, r.h.set l (.loop { lp with st := .exhausted }), adj s.lo r.lk r.h.length, addAll s.wr (r.wr.filter (· < base)), mrg s.lk (cut base r.lk)⟩
          match lp.pend with
          | none => some (.normal, s')
          | some x => some (x, s')
        | _ => none
      | none => none
    | _ => none

/-! ### compaction -/
mutual
def ren (ρ : Nat → Option Nat) : AV → Option AV
  | .int k n => some (.int k n)
  | .bool b => some (.bool b)
  | .str s => some (.str s)
  | .ptr none => some (.ptr none)
  | .ptr (some a) => match ρ a.b with | some b => some (.ptr (some { a with b })) | none => none
  | .sl none l c => some (.sl none l c)
  | .sl (some a) l c => match ρ a.b with | some b => some (.sl (some { a with b }) l c) | none => none
  | .map none => some (.map none)
  | .map (some r) => match ρ r with | some b => some (.map (some b)) | none => none
  | .fn f cs => match renL ρ cs with | some cs => some (.fn f cs) | none => none
  | .yld l => match ρ l with | some b => some (.yld b) | none => none
  | .nilFn => some .nilFn
  | .agg cs => match renL ρ cs with | some cs => some (.agg cs) | none => none
  | .tup cs => match renL ρ cs with | some cs => some (.tup cs) | none => none
def renL (ρ : Nat → Option Nat) : List AV → Option (List AV)
  | [] => some []
  | v :: vs => match ren ρ v, renL ρ vs with
    | some v, some vs => some (v :: vs)
    | _, _ => none
end
def renE (ρ : Nat → Option Nat) : List (AV × AV) → Option (List (AV × AV))
  | [] => some []
  | (k, v) :: es => match ren ρ k, ren ρ v, renE ρ es with
    | some k, some v, some es => some ((k, v) :: es)
    | _, _, _ => none
def renBlk (ρ : Nat → Option Nat) : ABlk → Option ABlk
  | .row ro cs => match renL ρ cs with | some cs => some (.row ro cs) | none => none
  | .map ag ks es => match renE ρ es with | some es => some (.map ag ks es) | none => none
  | .defr => none
  | .loop _ => none
def renBlks (ρ : Nat → Option Nat) (h : List ABlk) : List Nat → Option (List ABlk)
  | [] => some []
  | b :: bs => match h[b]? with
    | some k => match renBlk ρ k, renBlks ρ h bs with
      | some k, some ks => some (k :: ks)
      | _, _ => none
    | none => none
def refsE : List (AV × AV) → List Nat
  | [] => []
  | (k, v) :: es => refs k ++ refs v ++ refsE es
def blkRefs (h : List ABlk) (b : Nat) : List Nat :=
  match h[b]? with
  | some (.row _ cs) => refsL cs
  | some (.map _ _ es) => refsE es
  | _ => []
def dd : List Nat → List Nat → List Nat
  | acc, [] => acc
  | acc, x :: xs => dd (if x ∈ acc then acc else acc ++ [x]) xs
def idx (lo : Nat) : List Nat → Nat → Option Nat
  | [], _ => none
  | x :: xs, b => if x = b then some lo else idx (lo + 1) xs b
def gc (lo : Nat) (v : AV) (h : List ABlk) : Option (AV × List ABlk) :=
  let new := fun l : List Nat => l.filter (lo ≤ ·)
  let k0 := new (refs v)
  let k1 := new (k0.flatMap (blkRefs h))
  let k2 := new (k1.flatMap (blkRefs h))
  let k := dd [] (k0 ++ k1 ++ k2)
  let ρ := fun b => if b < lo then some b else idx lo k b
  match ren ρ v, renBlks ρ h k with
  | some v, some ks => some (v, h.take lo ++ ks)
  | _, _ => none

/-- No block for deferred calls among the new blocks that stay as they are. -/
def okDefr (base lo : Nat) (h : List ABlk) : Bool :=
  if lo = base then true else ((h.drop base).take (lo - base)).all fun | .defr => false | _ => true

def gcD (base lo : Nat) (v : AV) (h : List ABlk) : Option (AV × List ABlk) := if okDefr base lo h then gc lo v h else none

/-! ### functions -/
inductive ARes where
  | tmp (t : Nat)
  | cell (n : Option Nat) (t : Nat)
  deriving Inhabited
structure AFunc where
  body : ACode
  res : List ARes
  ntmps : Nat
  deriving Inhabited

def aRes (s : St) : ARes → Option AV
  | .tmp t => some (eget s.e t)
  | .cell n t => match eget s.e t with
    | .ptr (some p) => match n with
      | some n => (rdN s.h p n).map .agg
      | none => rd1 s.h p
    | _ => none
def aResL (s : St) : List ARes → Option (List AV)
  | [] => some []
  | r :: rs => match aRes s r, aResL s rs with
    | some v, some vs => some (v :: vs)
    | _, _ => none
def tupOf : List AV → AV
  | [v] => v
  | vs => .tup vs

def aCall (pr : FuncId → Option AFunc) : Nat → Tgt → List AV → List ABlk → Option Ret
  | 0, _, _, _ => none
  | n + 1, .f f, args, h =>
    match pr f with
    | none => none
    | some fn =>
      if args.length ≤ fn.ntmps then
        match exec (aCall pr n) n h.length false fn.body ⟨args, h, h.length, [], none⟩ with
        | some (.exit _, _) => none
        | some (_, s) =>
          match aResL s fn.res with
          | some vs =>
            match gcD h.length s.lo (tupOf vs) s.h with
            | some (v, h') => some ⟨v, h', s.wr, s.lk⟩
            | none => none
          | none => none
        | none => none
      else none
  | n + 1, .y l, args, h =>
    match h[l]? with
    | some (.loop lp) =>
      if args.length = lp.params.length ∧ lp.st = .ready then
        match exec (aCall pr n) n h.length true lp.assign ⟨pushTmps lp.e lp.params args, h, h.length, [], none⟩ with
        | some (.normal, s) =>
          match s.h[l]? with
          | some (.loop lp1) =>
            if lp1.st = .ready then
              match exec (aCall pr n) n h.length true lp.body { s with h := s.h.set l (.loop { lp1 with st := .busy }), wr := addAll s.wr [l] } with
              | some (x, s2) =>
                match s2.h[l]? with
                | some (.loop lp2) =>
                  let go := x == .normal
                  let h3 := s2.h.set l (.loop { lp2 with st := if go then .ready else .done, pend := if go then none else some x })
                  match gcD h.length s2.lo (.bool go) h3 with
                  | some (v, h') => some ⟨v, h', s2.wr, s2.lk⟩
                  | none => none
                | _ => none
              | none => none
            else none
          | _ => none
        | _ => none
      else none
    | _ => none

end Go.Proofs.Ytocoadpepofbbaa.AM

/-
  THE TRANSLATION of the model's code into the abstract machine's code. Nothing is proved here.
-/
namespace Go.Proofs.Ytocoadpepofbbaa.AM
open Go

mutual
def toAV : Value → Option AV
  | .int k n => some (.int k n)
  | .bool b => some (.bool b)
  | .string s => some (.str s)
  | .pointer none => some (.ptr none)
  | .slice none 0 0 => some nilSl
  | .map none => some (.map none)
  | .nilFunc => some .nilFn
  | .agg ⟨cs⟩ => match toAVL cs with | some cs => some (.agg cs) | none => none
  | .tuple ⟨cs⟩ => match toAVL cs with | some cs => some (.tup cs) | none => none
  | _ => none
def toAVL : List Value → Option (List AV)
  | [] => some []
  | v :: vs => match toAV v, toAVL vs with
    | some v, some vs => some (v :: vs)
    | _, _ => none
end

def opd : Operand → Option AOpd
  | .tmp t => some (.t t)
  | .const v => (toAV v).map .c
  | .func f => some (.c (.fn f []))
  | .global _ => none
def opdO : Option Operand → Option (Option AOpd)
  | none => some none
  | some x => (opd x).map some
def opds : List Operand → Option (List AOpd)
  | [] => some []
  | x :: xs => match opd x, opds xs with
    | some x, some xs => some (x :: xs)
    | _, _ => none

def isAggD : TypeDesc → Bool
  | .struct _ => true
  | .array _ _ => true
  | _ => false
def sizeT (P : Program) (t : TypeId) : Option Nat := (P.info? t).map (·.size)
def zeroT (P : Program) (t : TypeId) : Option (List AV) :=
  match P.info? t with
  | some i => match i.zero with
    | some z => toAVL z.cells.toList
    | none => none
  | none => none
/-- How a type is loaded: as one cell, or as an aggregate of so many. -/
def wayT (P : Program) (t : TypeId) : Option (Option Nat) :=
  match P.underlying t, P.info? t with
  | some d, some i => some (if isAggD d then some i.size else none)
  | _, _ => none

/-- Types of whole numbers and bools, flat; the kinds of their cells. -/
def flatFs (rec : TypeId → Option (List (Option IntKind))) (P : Program) (off : Nat) : List Field → Option (List (Option IntKind))
  | [] => some []
  | f :: fs => match rec f.type, sizeT P f.type with
    | some ks, some s => if f.name = "_" ∨ f.offset ≠ off ∨ s ≠ ks.length then none else
      match flatFs rec P (off + s) fs with
      | some r => some (ks ++ r)
      | none => none
    | _, _ => none
def flatT (P : Program) (arr : Bool) : Nat → TypeId → Option (List (Option IntKind))
  | 0, _ => none
  | d + 1, t =>
    match P.underlying t with
    | some (.int k) => some [some k]
    | some .bool => some [none]
    | some (.struct fs) => if P.stoodInHeld t then none else flatFs (flatT P arr d) P 0 fs.toList
    | some (.array n e) => if arr then
        match flatT P arr d e, sizeT P e with
        | some ks, some s => if s = ks.length then some (List.replicate n ks).flatten else none
        | _, _ => none
      else none
    | _ => none

def partsOf (place : Nat → Option (Nat × Nat)) : List (Nat × Operand) → Option (List (Nat × Nat × AOpd))
  | [] => some []
  | (i, x) :: ps => match place i, opd x, partsOf place ps with
    | some (o, s), some x, some r => some ((o, s, x) :: r)
    | _, _, _ => none
def placesT (P : Program) (t : TypeId) : Option (Nat → Option (Nat × Nat)) :=
  match P.underlying t with
  | some (.struct fs) => some fun i => match fs[i]? with
    | some f => match sizeT P f.type with
      | some s => some (f.offset, s)
      | none => none
    | none => none
  | some (.array _ e) => match sizeT P e with
    | some s => some fun i => some (i * s, s)
    | none => none
  | _ => none
/-- All fields of a struct type have a size. -/
def sized (P : Program) (t : TypeId) : Bool :=
  match P.underlying t with
  | some (.struct fs) => fs.toList.all fun f => (sizeT P f.type).isSome
  | _ => true

/-- The shape of a map's keys. -/
def keyT (P : Program) (t : TypeId) : Option (Bool × List (Option IntKind)) :=
  match P.underlying t with
  | some d => (flatT P false 20 t).map fun ks => (isAggD d, ks)
  | none => none

def compCall (P : Program) (c : Call) : Option AOp :=
  match c.callee with
  | .value (.func f) => (opds c.args.toList).map (.call f)
  | .value f => match opd f, opds c.args.toList with
    | some f, some xs => some (.callV f xs)
    | _, _ => none
  | .builtin .len =>
    match c.args.toList, c.argTypes.toList with
    | [x], [t] => match P.underlying t with
      | some (.slice _) => (opd x).map .len
      | some .string => (opd x).map .lenS
      | _ => none
    | _, _ => none
  | .builtin .max => (opds c.args.toList).map .mx
  | .builtin .min => (opds c.args.toList).map .mn
  | .builtin .append =>
    match c.args.toList, c.argTypes.toList with
    | [s, x], [t, u] => if t ≠ u then none else match P.underlying t, P.underlying u with
      | some (.slice e), some (.slice _) => match P.info? e, opd s, opd x with
        | some i, some s, some x => if 0 < i.bytes ∧ 0 < i.size ∧ (i.zero.map fun z => z.cells.size) = some i.size then some (.append i.size i.bytes s x) else none
        | _, _, _ => none
      | _, _ => none
    | _, _ => none
  | .builtin .copy =>
    match c.args.toList, c.argTypes.toList with
    | [d, s], [t, _] => match P.underlying t with
      | some (.slice e) => match sizeT P e, opd d, opd s with
        | some n, some d, some s => if n = 1 then some (.copy n d s) else none
        | _, _, _ => none
      | _ => none
    | _, _ => none
  | _ => none

def compOp (P : Program) (o : Op) : Option AOp :=
  match o with
  | .move x => (opd x).map .mv
  | .assign x => (opd x).map .mv
  | .pick c a b => match opd c, opd a, opd b with
    | some c, some a, some b => some (.pick c a b)
    | _, _, _ => none
  | .alloc e => (zeroT P e).map .new
  | .box _ x => (opd x).map .box
  | .build t ps => match zeroT P t, placesT P t with
    | some zs, some pl => if sized P t then (partsOf pl ps.toList).map (.build zs) else none
    | _, _ => none
  | .buildSlice t len ps => match P.underlying t with
    | some (.slice e) => match sizeT P e, zeroT P e with
      | some s, some z => if len * s ≤ 2 ^ 24 ∧ z.length = s ∧ 0 < s then (partsOf (fun i => some (i * s, s)) ps.toList).map (.buildSl (List.replicate len z).flatten len) else none
      | _, _ => none
    | _ => none
  | .load t a => match wayT P t, opd a with
    | some w, some a => some (.load w a)
    | _, _ => none
  | .store t a x => match sizeT P t, opd a, opd x with
    | some n, some a, some x => some (.store n a x)
    | _, _, _ => none
  | .nilCheck x => (opd x).map .nilCheck
  | .binOp op t x y _ => match P.underlying t, opd x, opd y with
    | some (.int _), some x, some y => some (.bin op x y)
    | some .bool, some x, some y => some (.binB op x y)
    | some .string, some x, some y => some (.bin op x y)
    | some (.struct _), some x, some y | some (.array _ _), some x, some y =>
      match flatT P true 20 t with
      | some ks => if P.eqGuardType P.depth t = false then
          match op with
          | .eql => some (.eqAgg ks false x y)
          | .neq => some (.eqAgg ks true x y)
          | _ => none
        else none
      | none => none
    | some (.slice _), some x, some (.c (.sl none 0 (.k 0))) => match op with
      | .eql => some (.isNil false x)
      | .neq => some (.isNil true x)
      | _ => none
    | _, _, _ => none
  | .unOp op _ x => (opd x).map (.un op)
  | .convert s d x => match P.underlying s, P.underlying d, opd x with
    | some (.int _), some (.int k), some x => some (.conv k x)
    | some (.slice e), some .string, some x => match P.underlying e with
      | some (.int .u8) => some (.bytesStr x)
      | _ => none
    | _, _, _ => none
  | .makeFunc (.func f) first cap => if first.size = 0 then (opds cap.toList).map (.mkFn f) else none
  | .makeMap t r => match r with
    | none => match P.underlying t with
      | some (.map kt _) => (keyT P kt).map fun k => .mkMap k.1 k.2
      | _ => none
    | _ => none
  | .makeSlice t l c => match P.underlying t with
    | some (.slice e) => match P.info? e, zeroT P e, opd l, opd c with
      | some i, some z, some l, some c => if z.length = i.size ∧ 0 < i.size then some (.mkSl z i.bytes l c) else none
      | _, _, _, _ => none
    | _ => none
  | .slice t x lo hi mx => match mx with
    | some m => match P.underlying t, opd x, opdO lo, opdO hi, opd m with
      | some (.slice e), some x, some lo, some (some hi), some m => (sizeT P e).map fun s => .slice3 s x lo (some hi) m
      | _, _, _, _, _ => none
    | none => match P.underlying t, opd x, opdO lo, opdO hi with
      | some (.slice e), some x, some lo, some hi => (sizeT P e).map fun s => .slice s x lo hi
      | some .string, some x, some lo, some hi => some (.sliceS x lo hi)
      | some (.array n e), some x, some none, some none => (sizeT P e).map fun s => .sliceA n s x
      | _, _, _, _ => none
  | .fieldAddr s x f => match P.underlying s with
    | some (.struct fs) => match fs[f]?, opd x with
      | some fd, some x => match sizeT P fd.type with
        | some n => if n = 0 then none else some (.fieldAddr fd.offset x)
        | none => none
      | _, _ => none
    | _ => none
  | .field t x f => match P.underlying t with
    | some (.struct fs) => match fs[f]?, opd x with
      | some fd, some x => (wayT P fd.type).map fun w => .field w fd.offset x
      | _, _ => none
    | _ => none
  | .indexAddr t x i => match P.underlying t, opd x, opd i with
    | some (.array n e), some x, some i => (sizeT P e).map fun s => .idxArr n s x i
    | some (.slice e), some x, some i => (sizeT P e).map fun s => .idxSl s x i
    | _, _, _ => none
  | .index t x i => match P.underlying t, opd x, opd i with
    | some (.array n e), some x, some i => match sizeT P e, wayT P e with
      | some s, some w => some (.index n s w x i)
      | _, _ => none
    | some .string, some x, some i => some (.indexS x i)
    | _, _, _ => none
  | .lookup t m k ok => match P.underlying t with
    | some (.map kt e) => match keyT P kt, P.info? e, opd m, opd k with
      | some kk, some i, some m, some k => match i.zero with
        | some z => (toAV z).map fun z => .lookup kk.1 kk.2 z m k ok
        | none => none
      | _, _, _, _ => none
    | _ => none
  | .mapUpdate t m k x => match P.underlying t with
    | some (.map kt _) => match keyT P kt, opd m, opd k, opd x with
      | some kk, some m, some k, some x => some (.mapUpd kk.1 kk.2 m k x)
      | _, _, _, _ => none
    | _ => none
  | .extract x i => (opd x).map fun x => .extract x i
  | .call c => compCall P c
  | _ => none

/-- The operands of an operation. -/
def aOpnds : AOp → List AOpd
  | .mv x | .box x | .load _ x | .nilCheck x | .isNil _ x | .un _ x | .conv _ x | .bytesStr x | .sliceA _ _ x | .field _ _ x | .fieldAddr _ x | .extract x _ | .len x | .lenS x => [x]
  | .pick c a b => [c, a, b]
  | .new _ => []
  | .build _ ps | .buildSl _ _ ps => ps.map (·.2.2)
  | .store _ a x => [a, x]
  | .bin _ x y | .binB _ x y | .eqAgg _ _ x y | .idxArr _ _ x y | .idxSl _ x y | .index _ _ _ x y | .indexS x y | .append _ _ x y | .copy _ x y => [x, y]
  | .mkFn _ cap => cap
  | .mkMap _ _ => []
  | .mkSl _ _ l c => [l, c]
  | .slice _ x lo hi | .sliceS x lo hi => x :: (lo.toList ++ hi.toList)
  | .slice3 _ x lo hi m => x :: m :: (lo.toList ++ hi.toList)
  | .lookup _ _ _ m k _ => [m, k]
  | .mapUpd _ _ m k x => [m, k, x]
  | .call _ xs => xs
  | .callV f xs => f :: xs
  | .mx xs | .mn xs => xs
def aSlots (o : AOp) : List Nat := (aOpnds o).filterMap fun | .t i => some i | _ => none
/-! ### regions -/
def uni : List Nat → List Nat → List Nat
  | l, [] => l
  | l, x :: xs => uni (if l.contains x then l else x :: l) xs
/-- What each operation must follow, directly or not. -/
def ancs : List Oper → List (List Nat) → List (List Nat)
  | [], acc => acc
  | o :: os, acc => ancs os (acc ++ [o.after.toList.foldl (fun l e => if Region.binds .any e then uni l (e.on :: acc.getD e.on []) else l) []])
def slotsOf (os : List Oper) (o : Oper) (ao : AOper) : List Nat :=
  o.dst.toList ++ (o.op.operands.toList.filterMap fun | .tmp t => some t | _ => none) ++
    (match o.guard with
     | some (j, _) => (match os[j]? with | some g => g.dst.toList | none => [])
     | none => []) ++ aSlots ao.op
def slotsApart (os : List Oper) (x y : Oper) (ax ay : AOper) : Bool :=
  (match x.dst with | some d => !(slotsOf os y ay).contains d | none => true) &&
  (match y.dst with | some d => !(slotsOf os x ax).contains d | none => true)
def writesOp : AOp → Bool
  | .store .. | .mapUpd .. | .append .. | .copy .. | .call .. | .callV .. => true
  | _ => false
def readsOp : AOp → Bool
  | .load .. | .lookup .. | .bytesStr .. | .store .. | .mapUpd .. | .append .. | .copy .. | .call .. | .callV .. => true
  | _ => false
def pairsOf (n : Nat) : List (Nat × Nat) := (List.range n).flatMap fun i => (List.range n).filterMap fun j => if i < j then some (i, j) else none

/-- The constants of an operation. -/
def opndCs : AOpd → List AV
  | .t _ => []
  | .c v => [v]
def opndsCs : List AOpd → List AV
  | [] => []
  | x :: xs => opndCs x ++ opndsCs xs
def opndOCs : Option AOpd → List AV
  | none => []
  | some x => opndCs x
def partsCs : List (Nat × Nat × AOpd) → List AV
  | [] => []
  | p :: ps => opndCs p.2.2 ++ partsCs ps
def opCs : AOp → List AV
  | .mv x | .box x | .load _ x | .nilCheck x | .isNil _ x | .un _ x | .conv _ x | .bytesStr x | .sliceA _ _ x | .field _ _ x | .fieldAddr _ x | .extract x _ | .len x | .lenS x => opndCs x
  | .pick c a b => opndCs c ++ opndCs a ++ opndCs b
  | .new zs => zs
  | .build zs ps => zs ++ partsCs ps
  | .buildSl zs _ ps => zs ++ partsCs ps
  | .store _ a x => opndCs a ++ opndCs x
  | .bin _ x y | .binB _ x y | .eqAgg _ _ x y | .idxArr _ _ x y | .idxSl _ x y | .index _ _ _ x y | .indexS x y | .append _ _ x y | .copy _ x y => opndCs x ++ opndCs y
  | .mkFn _ cap => opndsCs cap
  | .mkMap _ _ => []
  | .mkSl zs _ l c => zs ++ opndCs l ++ opndCs c
  | .slice _ x lo hi | .sliceS x lo hi => opndCs x ++ opndOCs lo ++ opndOCs hi
  | .slice3 _ x lo hi m => opndCs x ++ opndOCs lo ++ opndOCs hi ++ opndCs m
  | .lookup _ _ z m k _ => z :: opndCs m ++ opndCs k
  | .mapUpd _ _ m k x => opndCs m ++ opndCs k ++ opndCs x
  | .call _ xs => opndsCs xs
  | .callV f xs => opndCs f ++ opndsCs xs
  | .mx xs | .mn xs => opndsCs xs
/-- No constant holds a reference. -/
def clOp (o : AOp) : Bool := (refsL (opCs o)).isEmpty

def dstOk (nt : Nat) : Option Nat → Bool
  | some d => decide (d < nt)
  | none => true
def compOper (P : Program) (os : List Oper) (nt : Nat) (o : Oper) : Option AOper :=
  match compOp P o.op with
  | none => none
  | some a =>
    if dstOk nt o.dst && clOp a then
      match o.guard with
      | none => some ⟨o.dst, a, none⟩
      | some (j, w) => match os[j]? with
        | some g => match g.dst with
          | some t => some ⟨o.dst, a, some (t, w)⟩
          | none => none
        | none => none
    else none
def compOpers (P : Program) (all : List Oper) (nt : Nat) : List Oper → Option (List AOper)
  | [] => some []
  | o :: os => match compOper P all nt o, compOpers P all nt os with
    | some a, some r => some (a :: r)
    | _, _ => none

def chkOf (os : List Oper) (as : List AOper) : Option (List (Nat × Nat)) :=
  let an := ancs os []
  let free := (pairsOf os.length).filter fun (i, j) => !(an.getD j []).contains i
  if (os.zipIdx.all fun (o, i) => o.after.toList.all fun e => !Region.binds .any e || decide (e.on < i)) &&
     (free.all fun (i, j) => match os[i]?, os[j]?, as[i]?, as[j]? with | some x, some y, some ax, some ay => slotsApart os x y ax ay | _, _, _, _ => false)
  then some (free.filter fun (i, j) => match as[i]?, as[j]? with
    | some x, some y => (writesOp x.op && readsOp y.op) || (readsOp x.op && writesOp y.op)
    | _, _ => true)
  else none

def comp (P : Program) (nt : Nat) : Code → Option ACode
  | .skip => some .skip
  | .region _ ops draw =>
    match compOpers P ops.toList nt ops.toList with
    | none => none
    | some as =>
      if draw then (chkOf ops.toList as).map fun ck => .region as ck true
      else some (.region as [] false)
  | .seq a b => match comp P nt a, comp P nt b with
    | some a, some b => some (.seq a b)
    | _, _ => none
  | .cond c t e => match opd c, comp P nt t, comp P nt e with
    | some c, some t, some e => some (.cond c t e)
    | _, _, _ => none
  | .block id b => (comp P nt b).map (.block id)
  | .loop b => (comp P nt b).map .loop
  | .exit id => some (.exit id)
  | .ret => some .ret
  | .rangeFunc f ps as b => match opd f, comp P nt as, comp P nt b with
    | some f, some as, some b => if ps.toList.all (· < nt) && (refsL (opndCs f)).isEmpty then some (.rangeF f ps.toList as b) else none
    | _, _, _ => none
  | _ => none

def compRes (P : Program) : List ResultVar → Option (List ARes)
  | [] => some []
  | r :: rs => match (match r with
      | .tmp t => some (ARes.tmp t)
      | .cell a t => (wayT P t).map fun w => ARes.cell w a), compRes P rs with
    | some r, some rs => some (r :: rs)
    | _, _ => none

def compFunc (P : Program) (fn : Func) : Option AFunc :=
  match fn.body with
  | none => none
  | some b => if fn.name = "runtime.NumGoroutine" then none else
    match comp P fn.ntmps b, compRes P fn.results.toList with
    | some b, some rs => some ⟨b, rs, fn.ntmps⟩
    | _, _ => none

def prOf (P : Program) (f : FuncId) : Option AFunc :=
  match P.funcs[f]? with
  | some fn => compFunc P fn
  | none => none

end Go.Proofs.Ytocoadpepofbbaa.AM
