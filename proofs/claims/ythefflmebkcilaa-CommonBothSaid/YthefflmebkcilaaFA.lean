import Derived.Calls
import Derived.Orders
import Derived.Scope
import Derived.Below
import Derived.Laws.AppendOwn
import Derived.Laws.AppendOwnNone
import Derived.Laws.MakeOwn
import Derived.Laws.CopyRow
import Derived.Laws.IdiomCopy
set_option linter.unusedVariables false
namespace Go.Proofs.Ythefflmebkcilaa.Fw
open Go

/-! ### Data -/
inductive D where
  | bool (b : Bool)
  | int (k : IntKind) (n : Int)
  | words (l : List Int)
  | rows (sz : Nat) (l : List (List D))

def wd (x : Int) : D := .int .u32 x

/-- Of a slice: the size of an element, how many there are, all cells. -/
def D.sl? : D → Option (Nat × Nat × List D)
  | .words l => some (1, l.length, l.map wd)
  | .rows sz l => if l.all (fun x => x.length == sz) then some (sz, l.length, l.flatten) else none
  | _ => none

def AllR {α β : Type} (R : α → β → Prop) (l : List α) (vs : List β) : Prop := l.length = vs.length ∧ ∀ (j : Nat) x u, l[j]? = some x → vs[j]? = some u → R x u

/-- A datum as it lies in memory; what it leads to lies in blocks of F. -/
inductive RepL (w : World) (F : Nat → Prop) : D → Value → Prop where
  | bool (b : Bool) : RepL w F (.bool b) (.bool b)
  | int (k : IntKind) (n : Int) : RepL w F (.int k n) (.int k n)
  | sl {d : D} {sz n : Nat} {fl : List D} (hd : d.sl? = some (sz, n, fl)) (A : Option Addr) (c : Nat) (cs : List Value) (hn : n ≤ c) (hc : c ≤ maxLen) (hl : cs.length = fl.length)
      (hcell : ∀ (j : Nat) u, cs[j]? = some u → ∃ ad, A = some ad ∧ F ad.block ∧ w.cell? (ad.add j) = some u)
      (hr : ∀ (j : Nat) x u, fl[j]? = some x → cs[j]? = some u → RepL w F x u) : RepL w F d (.slice A n c)

/-! ### Values of temporaries, memory -/
inductive V where
  | d (x : D)
  | agg (n : Nat) (l : List D)
  | own (o off len : Nat)
  | addr (o off : Nat)
  | ela (o j q : Nat)
  | ro (n : Nat) (l : List D)
  | nils
  | nilp
  | undef
  | tup (l : List V)

inductive MO where
  | words (e : TypeId) (l : List Int)
  | rows (e : TypeId) (sz : Nat) (l : List (List D))
  | box (l : List D)

def MO.row? : MO → Option (TypeId × Nat × Nat × List D)
  | .words e l => some (e, 1, l.length, l.map wd)
  | .rows e sz l => if l.all (fun x => x.length == sz) then some (e, sz, l.length, l.flatten) else none
  | .box _ => none

def MO.esz : MO → Nat
  | .words _ _ => 1
  | .rows _ sz _ => sz
  | .box _ => 0

abbrev Mem := Nat → Option MO
structure St where
  env : Nat → V
  mem : Mem

def St.put (s : St) (d : Option Tmp) (v : V) : St :=
  match d with
  | some t => ⟨fun x => bif Nat.beq x t then v else s.env x, s.mem⟩
  | none => s
def St.upd (s : St) (i : Nat) (o : MO) : St := ⟨s.env, fun x => bif Nat.beq x i then some o else s.mem x⟩

/-! ### What is known of types -/
inductive TK where
  | int (k : IntKind) | bool | ptr | sl (e : TypeId) | st (fs : List (Nat × TypeId)) | arr (n : Nat) (e : TypeId) | none
structure TI where
  sz : Nat
  bytes : Nat
  zero : List D
  k : TK
abbrev TT := TypeId → TI
def TK.agg : TK → Bool | .st _ => true | .arr _ _ => true | _ => false
def TK.ok : TK → Bool | .none => false | _ => true
def zval : D → Value
  | .bool b => .bool b
  | .int k n => .int k n
  | _ => .slice none 0 0
def TK.fits (P : Program) : TK → TypeDesc → Prop
  | .int k, d => d = .int k
  | .bool, d => d = .bool
  | .ptr, d => ∃ e, d = .pointer e
  | .sl e, d => d = .slice e
  | .st fs, d => ∃ f, d = .struct f ∧ f.toList.map (fun x => (x.offset, x.type)) = fs
  | .arr n e, d => d = .array n e
  | .none, _ => False
structure TOK (P : Program) (T : TT) (t : TypeId) : Prop where
  info : (P.info? t).map (fun i => (i.size, i.bytes, i.zero.map (·.cells))) = some ((T t).sz, (T t).bytes, some ((T t).zero.map zval).toArray)
  und : ∃ d, P.underlying t = some d ∧ (T t).k.fits P d

/-! ### Operations, purely -/
inductive R1 where
  | fail
  | val (v : V)
  | nval (v : V)
  | sval (p : Prop) (v : V)
  | idxw (l : List Int) (i : Int) (f : D → V)
  | idxr (l : List (List D)) (i : Int) (f : List D → V)
  | upd (i : Nat) (o : MO) (v : V)
  | call (g : FuncId) (args : List V)
  | sem

def cv : Value → V
  | .int k n => .d (.int k n)
  | .bool b => .d (.bool b)
  | .slice none 0 0 => .nils
  | .pointer none => .nilp
  | _ => .undef
def St.ev (s : St) : Operand → V
  | .tmp t => s.env t
  | .const v => cv v
  | _ => .undef

def emptyOf (T : TT) (t : TypeId) : V :=
  match (T t).k with
  | .sl e => match (T e).k with
    | .int .u32 => .d (.words [])
    | _ => .d (.rows (T e).sz [])
  | _ => .undef
/-- A value as its type has it: nil as an empty slice. -/
def coe (T : TT) (t : TypeId) (v : V) : V :=
  match v with
  | .nils => emptyOf T t
  | v => v

def pickV (t : Bool) (a b : V) : V :=
  match a, b with
  | .d (.bool x), .d (.bool y) => .d (.bool (bif t then x else y))
  | a, b => bif t then a else b

def binI (op : BinOp) (k : IntKind) (m n : Int) : R1 :=
  match op with
  | .add => .val (.d (.int k (k.wrap (m + n))))
  | .sub => .val (.d (.int k (k.wrap (m - n))))
  | .mul => .val (.d (.int k (k.wrap (m * n))))
  | .quo => .sval (n ≠ 0) (.d (.int k (k.wrap (m.tdiv n))))
  | .rem => .sval (n ≠ 0) (.d (.int k (m.tmod n)))
  | .and => .val (.d (.int k (k.wrap (BitVec.ofInt k.bits m &&& BitVec.ofInt k.bits n).toNat)))
  | .or => .val (.d (.int k (k.wrap (BitVec.ofInt k.bits m ||| BitVec.ofInt k.bits n).toNat)))
  | .eql => .val (.d (.bool (m == n)))
  | .neq => .val (.d (.bool (m != n)))
  | .lss => .val (.d (.bool (decide (m < n))))
  | .leq => .val (.d (.bool (decide (m ≤ n))))
  | .gtr => .val (.d (.bool (decide (m > n))))
  | .geq => .val (.d (.bool (decide (m ≥ n))))
  | _ => .fail
def shI (op : BinOp) (k : IntKind) (m n : Int) : R1 :=
  match op with
  | .shl => .sval (0 ≤ n) (.d (.int k (k.wrap (m * 2 ^ (min n.toNat k.bits)))))
  | .shr => .sval (0 ≤ n) (.d (.int k (m.fdiv (2 ^ (min n.toNat k.bits)))))
  | _ => .fail
def isSh : BinOp → Bool | .shl => true | .shr => true | _ => false
def kEq : IntKind → IntKind → Bool
  | .i8, .i8 => true | .i16, .i16 => true | .i32, .i32 => true | .i64, .i64 => true
  | .u8, .u8 => true | .u16, .u16 => true | .u32, .u32 => true | .u64, .u64 => true
  | _, _ => false
def bin (T : TT) (op : BinOp) (xt : TypeId) (x y : V) : R1 :=
  match x, y with
  | .d (.int k m), .d (.int k' n) => bif isSh op then shI op k m n else bif kEq k k' then binI op k m n else .fail
  | .d (.bool b), .d (.bool c) =>
    match (T xt).k, op with
    | .bool, .eql => .val (.d (.bool (b == c)))
    | .bool, .neq => .val (.d (.bool (!(b == c))))
    | _, _ => .fail
  | .addr _ _, .nilp =>
    match (T xt).k, op with
    | .ptr, .eql => .val (.d (.bool false))
    | .ptr, .neq => .val (.d (.bool true))
    | _, _ => .fail
  | .agg _ _, .agg _ _ => .sem
  | _, _ => .fail

def unV (op : UnOp) (v : V) : R1 :=
  match op, v with
  | .not, .d (.bool b) => .val (.d (.bool !b))
  | .neg, .d (.int k n) => .val (.d (.int k (k.wrap (0 - n))))
  | _, _ => .fail
/-- The cells that a value is, as one of type t. -/
def cellsV (T : TT) (t : TypeId) (v : V) : Option (List D) :=
  match v with
  | .d x => bif (T t).k.agg then none else some [x]
  | .agg n l => bif (T t).k.agg && Nat.beq n (T t).sz then some l else none
  | .nils => match emptyOf T t with
    | .d x => some [x]
    | _ => none
  | _ => none
def ofCells (T : TT) (t : TypeId) (l : List D) : V :=
  bif (T t).k.agg then .agg (T t).sz l else .d (l.getD 0 (.bool false))
def loadV (T : TT) (s : St) (t : TypeId) (v : V) : R1 :=
  match v with
  | .addr o off =>
    match s.mem o with
    | some (.box l) => bif Nat.ble (off + (T t).sz) l.length then .val (ofCells T t (bif Nat.beq off 0 && Nat.beq (T t).sz l.length then l else (l.drop off).take (T t).sz)) else .fail
    | _ => .fail
  | .ela o j q =>
    match s.mem o with
    | some (.words _ l) => bif Nat.beq q 0 && Nat.beq (T t).sz 1 && !(T t).k.agg then .idxw l j (fun x => .d x) else .fail
    | some (.rows _ sz l) => bif Nat.beq q 0 && Nat.beq (T t).sz sz then .idxr l j (fun x => ofCells T t x) else .fail
    | _ => .fail
  | .ro n l => bif Nat.ble (T t).sz n then .val (ofCells T t (bif Nat.beq (T t).sz n then l else l.take (T t).sz)) else .fail
  | _ => .fail
def repl (l : List D) (off : Nat) (c : List D) : List D := l.take off ++ (c ++ l.drop (off + c.length))
def storeV (T : TT) (s : St) (t : TypeId) (p v : V) : R1 :=
  match cellsV T t v with
  | none => .fail
  | some c =>
    match p with
    | .addr o off =>
      match s.mem o with
      | some (.box l) => bif Nat.ble (off + (T t).sz) l.length && Nat.beq c.length (T t).sz then .upd o (.box (bif Nat.beq off 0 && Nat.beq (T t).sz l.length then c else repl l off c)) .undef else .fail
      | _ => .fail
    | .ela o j q =>
      match s.mem o with
      | some (.words e l) =>
        match c with
        | [.int .u32 x] => bif Nat.beq q 0 && Nat.beq (T t).sz 1 then .upd o (.words e (l.set j x)) .undef else .fail
        | _ => .fail
      | some (.rows e sz l) => bif Nat.beq q 0 && Nat.beq (T t).sz sz && Nat.beq c.length sz then .upd o (.rows e sz (l.set j c)) .undef else .fail
      | _ => .fail
    | _ => .fail
def fieldOf (T : TT) (t : TypeId) (f : Nat) : Option (Nat × TypeId) :=
  match (T t).k with
  | .st fs => fs[f]?
  | _ => none
def fieldA (T : TT) (t : TypeId) (p : V) (f : Nat) : R1 :=
  match fieldOf T t f with
  | some (off, ft) =>
    bif Nat.beq (T ft).sz 0 || !(T ft).k.ok then .fail else
    match p with
    | .addr o q => .val (.addr o (q + off))
    | .ela o j q => .val (.ela o j (q + off))
    | .ro n l => bif Nat.ble off n then .val (.ro (n - off) (l.drop off)) else .fail
    | _ => .fail
  | none => .fail
def fieldV (T : TT) (t : TypeId) (x : V) (f : Nat) : R1 :=
  match fieldOf T t f, x with
  | some (off, ft), .agg n l => bif Nat.ble (off + (T ft).sz) n && (T ft).k.ok && !Nat.beq (T ft).sz 0 then .val (ofCells T ft ((l.drop off).take (T ft).sz)) else .fail
  | _, _ => .fail
def fillB (T : TT) (fs : List (Nat × TypeId)) (acc : List D) : List (Nat × V) → Option (List D)
  | [] => some acc
  | (i, v) :: r =>
    match fs[i]? with
    | some (off, ft) =>
      match cellsV T ft v with
      | some c => bif Nat.beq c.length (T ft).sz && Nat.ble (off + c.length) acc.length then fillB T fs (repl acc off c) r else none
      | none => none
    | none => none
def buildV (T : TT) (t : TypeId) (ps : List (Nat × V)) : R1 :=
  match (T t).k with
  | .st fs => bif fs.all (fun x => (T x.2).k.ok) then match fillB T fs (T t).zero ps with
      | some l => .val (.agg (T t).sz l)
      | none => .fail
    else .fail
  | _ => .fail
/-- The elements of a slice's literal, each one given, in order. -/
def elems (T : TT) (e : TypeId) : Nat → List (Nat × V) → Option (List (List D))
  | _, [] => some []
  | i, (j, v) :: r =>
    bif Nat.beq i j then
      match cellsV T e v with
      | some c => bif Nat.beq c.length (T e).sz then
          match elems T e (i + 1) r with
          | some l => some (c :: l)
          | none => none
        else none
      | none => none
    else none
def wordsOf : List (List D) → Option (List Int)
  | [] => some []
  | [.int .u32 x] :: r => match wordsOf r with
    | some l => some (x :: l)
    | none => none
  | _ => none
def isW (T : TT) (e : TypeId) : Bool := match (T e).k with | .int .u32 => true | _ => false
def rowV (T : TT) (e : TypeId) (l : List (List D)) : Option D :=
  bif isW T e then match wordsOf l with
    | some x => some (.words x)
    | none => none
  else some (.rows (T e).sz l)
def buildSl (T : TT) (t : TypeId) (n : Nat) (ps : List (Nat × V)) : R1 :=
  match (T t).k with
  | .sl e =>
    match elems T e 0 ps with
    | some l => bif Nat.beq l.length n && Nat.ble (n * (T e).sz) 1000 && (T e).k.ok && !Nat.beq (T e).sz 0 then match rowV T e l with
        | some x => .nval (.d x)
        | none => .fail
      else .fail
    | none => .fail
  | _ => .fail
def natLit : V → Option Nat
  | .d (.int _ (.ofNat n)) => some n
  | _ => none
def indexV (T : TT) (s : St) (t : TypeId) (x i : V) : R1 :=
  match (T t).k with
  | .sl e => bif (T e).k.ok then
      match i with
      | .d (.int _ n) =>
        match x with
        | .d (.words l) => bif Nat.beq (T e).sz 1 then .idxw l n (fun x => .ro 1 [x]) else .fail
        | .d (.rows sz l) => bif Nat.beq (T e).sz sz && !Nat.beq sz 0 then .idxr l n (fun x => .ro sz x) else .fail
        | .own o off len => match s.mem o with
          | some m => bif Nat.beq (T e).sz m.esz then .sval (0 ≤ n ∧ n < len) (.ela o (off + n.toNat) 0) else .fail
          | none => .fail
        | _ => .fail
      | _ => .fail
    else .fail
  | .arr m e => bif (T e).k.ok then
      match x, natLit i with
      | .addr o off, some n => bif Nat.blt n m then .val (.addr o (off + n * (T e).sz)) else .fail
      | _, _ => .fail
    else .fail
  | _ => .fail
def sliceV (T : TT) (s : St) (t : TypeId) (x : V) (lo hi : Option V) : R1 :=
  match (T t).k with
  | .sl e => bif (T e).k.ok && !Nat.beq (T e).sz 0 then
      match lo, hi with
      | none, some (.d (.int _ h)) =>
        match x with
        | .d (.words l) => .sval (0 ≤ h ∧ h ≤ l.length) (.d (.words (l.take h.toNat)))
        | .d (.rows sz l) => bif Nat.beq (T e).sz sz then .sval (0 ≤ h ∧ h ≤ l.length) (.d (.rows sz (l.take h.toNat))) else .fail
        | .own o off len => bif Nat.beq off 0 then .sval (0 ≤ h ∧ h ≤ len) (.own o off h.toNat) else .sval (0 < h ∧ h ≤ len) (.own o off h.toNat)
        | _ => .fail
      | some (.d (.int _ b)), none =>
        match x with
        | .d (.words l) => bif Nat.beq (T e).sz 1 then .sval (0 ≤ b ∧ b ≤ l.length) (.d (.words (l.drop b.toNat))) else .fail
        | .d (.rows sz l) => bif Nat.beq (T e).sz sz then .sval (0 ≤ b ∧ b ≤ l.length) (.d (.rows sz (l.drop b.toNat))) else .fail
        | .own o off len => match s.mem o with
          | some m => bif Nat.beq (T e).sz m.esz then .sval (0 ≤ b ∧ b < len) (.own o (off + b.toNat) (len - b.toNat)) else .fail
          | none => .fail
        | _ => .fail
      | _, _ => .fail
    else .fail
  | _ => .fail
def lenV (v : V) : R1 :=
  match v with
  | .d (.words l) => .val (.d (.int .i64 (l.length : Int)))
  | .d (.rows _ l) => .val (.d (.int .i64 (l.length : Int)))
  | .own _ _ n => .val (.d (.int .i64 (n : Int)))
  | .nils => .val (.d (.int .i64 0))
  | _ => .fail
def plainV : V → Bool
  | .d _ => true
  | .agg _ _ => true
  | _ => false
def isSome' {α : Type} : Option α → Bool | some _ => true | none => false
def coeL (T : TT) : List V → List TypeId → List V
  | v :: r, t :: ts => coe T t v :: coeL T r ts
  | v :: r, [] => v :: coeL T r []
  | [], _ => []
def callV (T : TT) (s : St) (c : Call) : R1 :=
  match c.callee with
  | .value (.func g) =>
    let as := coeL T (c.args.toList.map s.ev) c.argTypes.toList
    bif as.all plainV then .call g as else .sem
  | .builtin .len => match c.args.toList.map s.ev, c.argTypes.toList with
    | [x], [t] => match (T t).k with
      | .sl _ => lenV x
      | _ => .fail
    | _, _ => .fail
  | .builtin .max => match c.args.toList.map s.ev with
    | [.d (.int k x), .d (.int k' y)] => .val (.d (.int k (if y > x then y else x)))
    | _ => .fail
  | .builtin .min => match c.args.toList.map s.ev with
    | [.d (.int k x), .d (.int k' y)] => .val (.d (.int k (if y < x then y else x)))
    | _ => .fail
  | .builtin .append => .sem
  | .builtin .copy => .sem
  | _ => .fail

def eval1 (T : TT) (keep : List Nat) (o : Oper) (s : St) : R1 :=
  match o.op with
  | .move x => .val (s.ev x)
  | .assign x => .val (s.ev x)
  | .pick c a b => match s.ev c with
    | .d (.bool t) => .val (pickV t (s.ev a) (s.ev b))
    | _ => .fail
  | .binOp op xt x y _ => bin T op xt (s.ev x) (s.ev y)
  | .unOp op _ x => unV op (s.ev x)
  | .convert src dst x => bif (T src).k.ok then (match (T dst).k, s.ev x with
    | .int k, .d (.int _ n) => .val (.d (.int k (k.wrap n)))
    | _, _ => .fail) else .fail
  | .load t p => bif (T t).k.ok then loadV T s t (s.ev p) else .fail
  | .store t p v => bif (T t).k.ok && !isSome' o.dst then storeV T s t (s.ev p) (s.ev v) else .fail
  | .fieldAddr t p f => fieldA T t (s.ev p) f
  | .field t x f => fieldV T t (s.ev x) f
  | .alloc t => match o.dst, (T t).k.ok with
    | some d, true => match s.mem d with
      | none => .upd d (.box (T t).zero) (.addr d 0)
      | some _ => .fail
    | _, _ => .fail
  | .box t x => match o.dst, (T t).k.ok with
    | some d, true => match s.mem d, cellsV T t (s.ev x) with
      | none, some c => .upd d (.box c) (.addr d 0)
      | _, _ => .fail
    | _, _ => .fail
  | .build t ps => bif (T t).k.ok then buildV T t (ps.toList.map fun (i, x) => (i, s.ev x)) else .fail
  | .buildSlice t n ps => bif keep.any (fun k => match o.dst with | some d => Nat.beq d k | none => false) then .sem else bif (T t).k.ok then buildSl T t n (ps.toList.map fun (i, x) => (i, s.ev x)) else .fail
  | .makeSlice _ _ _ => .sem
  | .slice t x lo hi none => sliceV T s t (s.ev x) (lo.map s.ev) (hi.map s.ev)
  | .indexAddr t x i => indexV T s t (s.ev x) (s.ev i)
  | .extract x i => match s.ev x with
    | .tup l => bif Nat.blt i l.length then .val (l.getD i .undef) else .fail
    | _ => .fail
  | .nilCheck x => match s.ev x with
    | .addr o q => .val (.addr o q)
    | .ela o j q => .val (.ela o j q)
    | .ro n l => .val (.ro n l)
    | _ => .fail
  | .call c => bif keep.any (fun k => match o.dst with | some d => Nat.beq d k | none => false) then .sem else callV T s c
  | _ => .fail


/-! ### What stands for the machine -/
structure Keep (B : Nat) (S : Nat → Prop) (w w' : World) : Prop where
  os : w'.os = w.os
  tape : w'.tape = w.tape
  output : w'.output = w.output
  size : w.heap.size ≤ w'.heap.size
  block : ∀ k, k < B → ¬ S k → w'.heap[k]? = w.heap[k]?

def blk : Value → Option Nat
  | .slice (some a) _ _ => some a.block
  | .pointer (some a) => some a.block
  | _ => none

def VR1 (w : World) (F : Nat → Prop) (ν : Nat → Value) (m : Mem) : V → Value → Prop
  | .d x, v => RepL w F x v
  | .agg n l, v => l.length = n ∧ ∃ vs, v = .agg vs ∧ AllR (RepL w F) l vs.toList
  | .own o off len, v => ∃ obj e sz n fl A n' c, m o = some obj ∧ obj.row? = some (e, sz, n, fl) ∧ off + len ≤ n ∧ (off = 0 ∨ 0 < len) ∧ ν o = .slice A n' c ∧ v = .slice (A.map (·.add (off * sz))) len (c - off)
  | .addr o off, v => ∃ l a, m o = some (.box l) ∧ ν o = .pointer (some a) ∧ v = .pointer (some (a.add off))
  | .ela o j q, v => ∃ obj e sz n fl a n' c, m o = some obj ∧ obj.row? = some (e, sz, n, fl) ∧ j < n ∧ ν o = .slice (some a) n' c ∧ v = .pointer (some (a.add (j * sz + q)))
  | .ro n l, v => l.length = n ∧ ∃ ad cs, v = .pointer (some ad) ∧ AllR (RepL w F) l cs ∧ ∀ (j : Nat) u, cs[j]? = some u → F ad.block ∧ w.cell? (ad.add j) = some u
  | .nils, v => v = .slice none 0 0
  | .nilp, v => v = .pointer none
  | .undef, _ => True
  | .tup _, _ => False
def VR (w : World) (F : Nat → Prop) (ν : Nat → Value) (m : Mem) : V → Value → Prop
  | .tup l, v => ∃ vs, v = .tuple vs ∧ AllR (VR1 w F ν m) l vs.toList
  | x, v => VR1 w F ν m x v

def MRep (w : World) (F : Nat → Prop) : MO → Value → Prop
  | .box l, v => ∃ b cur t, v = .pointer (some ⟨b, 0, none⟩) ∧ w.heap[b]? = some (.cells cur t (0, 0)) ∧ AllR (RepL w F) l cur.toList
  | obj, v => ∃ e sz n fl cs, obj.row? = some (e, sz, n, fl) ∧ 0 < sz ∧ w.ownsRow 0 e sz v n cs ∧ AllR (RepL w F) fl cs

/-- What a call knows from its begin on: how many temporaries it has, where its own blocks begin, what it may write, what it may read, the world. -/
structure Ctx where
  N : Nat
  B : Nat
  S : Nat → Prop
  F0 : Nat → Prop
  w0 : World
  V0 : Nat → Value

structure SRep (c : Ctx) (F : Nat → Prop) (ν : Nat → Value) (s : St) (a : Act) (w : World) : Prop where
  sz : a.tmps.size = c.N
  dfr : a.defers = []
  env : ∀ t, VR w F ν s.mem (s.env t) (a.tmps.getD t undef)
  mem : ∀ o obj, s.mem o = some obj → MRep w F obj (ν o)
  sep : ∀ o obj b, s.mem o = some obj → blk (ν o) = some b → ¬ F b ∧ (c.B ≤ b ∨ (c.S b ∧ c.N ≤ o))
  inj : ∀ o o' obj obj' b, s.mem o = some obj → s.mem o' = some obj' → blk (ν o) = some b → blk (ν o') = some b → o = o'
  fin : ∀ b, F b → b < w.heap.size ∧ (c.F0 b ∨ c.B ≤ b)
  keep : Keep c.B c.S c.w0 w
  base : c.B = c.w0.heap.size
  nu : ∀ o, c.N ≤ o → ν o = c.V0 o
def SR (c : Ctx) (s : St) (a : Act) (w : World) : Prop := ∃ F ν, SRep c F ν s a w

/-- The function can be called. -/
def FOK (P : Program) (g : FuncId) : Prop := ∃ fn, P.funcs[g]? = some fn ∧ (fn.name == "runtime.NumGoroutine") = false ∧ fn.body.isNone = false
/-- Function g, called with what these data are, hands back what r is; of what was there nothing turns. -/
@[irreducible] def Runs (P : Program) (g : FuncId) (args : List V) (r : V) : Prop :=
  FOK P g ∧ ∀ (F : Nat → Prop) (w : World) (vals : List Value), (∀ b, F b → b < w.heap.size) → AllR (VR1 w F (fun _ => undef) (fun _ => none)) args vals →
    Calls P g vals.toArray w fun e w' => ∃ v F', e = .returned v ∧ VR w' F' (fun _ => undef) (fun _ => none) r v ∧ (∀ b, F' b → b < w'.heap.size ∧ (F b ∨ w.heap.size ≤ b)) ∧ Keep w.heap.size (fun _ => False) w w'

/-! ### Events: what a proof is asked for -/
@[irreducible] def SideP (p : Prop) (X : Prop) : Prop := p ∧ X
@[irreducible] def SplitP (c : Bool) (f : Bool → Prop) : Prop := (c = true → f true) ∧ (c = false → f false)
@[irreducible] def IdxP {α : Type} (l : List α) (i : Int) (k : α → Prop) : Prop := ∃ x, 0 ≤ i ∧ l[i.toNat]? = some x ∧ k x
@[irreducible] def CallS (P : Program) (g : FuncId) (args : List V) (K : V → Prop) : Prop := ∃ r, Runs P g args r ∧ K r
@[irreducible] def OpP (P : Program) (c : Ctx) (o : Oper) (s : St) (K : St → Prop) : Prop :=
  ∀ (Q : Exit → Act → World → Prop) a w, SR c s a w → o.wp P a w (fun a' w' => ∃ s', K s' ∧ SR c s' a' w') Q
/-- s0 says no more than s. -/
@[irreducible] def Weak (c : Ctx) (s0 s : St) : Prop := ∀ a w, SR c s a w → SR c s0 a w

def defd : V → Bool
  | .undef => false
  | .tup l => l.all fun v => match v with | .undef => false | _ => true
  | _ => true
@[irreducible] def RetP (x r : V) : Prop := x = r ∧ defd r = true

inductive Ex where
  | normal | exit (id : Nat) | ret

def kseq (f : St → Prop) (K : Ex → St → Prop) (e : Ex) (s : St) : Prop :=
  match e with
  | .normal => f s
  | .exit id => K (.exit id) s
  | .ret => K .ret s
def kblk (id : Nat) (K : Ex → St → Prop) (e : Ex) (s : St) : Prop :=
  match e with
  | .normal => K .normal s
  | .exit id' => K (bif Nat.beq id' id then .normal else .exit id') s
  | .ret => K .ret s
@[irreducible] def LoopP (c : Ctx) (body : (Ex → St → Prop) → St → Prop) (K : Ex → St → Prop) (s : St) : Prop :=
  ∃ (α : Type) (f : α → St) (μ : α → Nat) (I : α → Prop) (x0 : α), I x0 ∧ Weak c (f x0) s ∧
    ∀ x, I x → body (kseq (fun s' => ∃ y, I y ∧ μ y < μ x ∧ Weak c (f y) s') K) (f x)

def fv (v : V) (k : V → Prop) : Prop :=
  match v with
  | .d x => k (.d x)
  | .agg n l => k (.agg n l)
  | .own o a b => k (.own o a b)
  | .addr o a => k (.addr o a)
  | .ela o a b => k (.ela o a b)
  | .ro n l => k (.ro n l)
  | .nils => k .nils
  | .nilp => k .nilp
  | .undef => k .undef
  | .tup l => k (.tup l)

/-- Is this operation's answer a guard of a later one? -/
def isGuard (ops : List Oper) (i : Nat) : Bool := ops.any fun o => match o.guard with | some (j, _) => Nat.beq j i | none => false
def fin (ops : List Oper) (i : Nat) (o : Oper) (v : V) (K : St → Prop) (s : St) : Prop :=
  fv v fun v => match v with
    | .d (.bool t) => bif isGuard ops i then SplitP t (fun t => K (s.put o.dst (.d (.bool t)))) else K (s.put o.dst (.d (.bool t)))
    | v => K (s.put o.dst v)
inductive Want where | yes | no | bad
def boolEq : Bool → Bool → Bool | true, true => true | false, false => true | _, _ => false
def wants (ops : List Oper) (o : Oper) (s : St) : Want :=
  match o.guard with
  | none => .yes
  | some (j, want) => match ops[j]? with
    | some g => match g.dst with
      | some d => match s.env d with
        | .d (.bool t) => bif boolEq t want then .yes else .no
        | .tup [] => .no
        | _ => .bad
      | none => .bad
    | none => .bad
def dstOk (N : Nat) (o : Oper) : Bool := match o.dst with | some d => Nat.blt d N | none => true

def evalK (P : Program) (T : TT) (keep : List Nat) (c : Ctx) (ops : List Oper) (i : Nat) (o : Oper) (K : St → Prop) (s : St) : Prop :=
  match eval1 T keep o s with
  | .fail => False
  | .val v => fin ops i o v K s
  | .nval v => fin ops i o v K s
  | .sval p v => SideP p (fin ops i o v K s)
  | .idxw l j f => IdxP l j (fun x => K (s.put o.dst (f (wd x))))
  | .idxr l j f => IdxP l j (fun x => K (s.put o.dst (f x)))
  | .upd j obj v => K ((s.upd j obj).put o.dst v)
  | .call g args => CallS P g args (fun r => K (s.put o.dst r))
  | .sem => OpP P c o s K
def stepO (P : Program) (T : TT) (keep : List Nat) (c : Ctx) (N : Nat) (ops : List Oper) (i : Nat) (o : Oper) (K : St → Prop) (s : St) : Prop :=
  bif dstOk N o then
    match wants ops o s with
    | .no => K (s.put o.dst (.tup []))
    | .bad => False
    | .yes => evalK P T keep c ops i o K s
  else False
def exO (P : Program) (T : TT) (keep : List Nat) (c : Ctx) (N : Nat) (ops : List Oper) : Nat → List Oper → (St → Prop) → St → Prop
  | _, [], K, s => K s
  | i, o :: r, K, s => stepO P T keep c N ops i o (exO P T keep c N ops (i + 1) r K) s

/-! ### Regions in whatever order -/
structure Foot where
  rd : List Nat
  wr : List Nat
def objOf : V → List Nat
  | .own o _ _ => [o]
  | .addr o _ => [o]
  | .ela o _ _ => [o]
  | _ => []
def rdsOf (o : Oper) (s : St) : List Nat := (o.op.operands.toList.map fun x => objOf (s.ev x)).flatten
def wrsOf (r : R1) : List Nat := match r with | .upd i _ _ => [i] | _ => []
def memN (x : Nat) : List Nat → Bool
  | [] => false
  | y :: r => Nat.beq x y || memN x r
def apartL (a b : List Nat) : Bool := a.all fun x => !memN x b
def Foot.apart (x y : Foot) : Bool := apartL x.wr y.rd && apartL x.wr y.wr && apartL y.wr x.rd
def befores (ops : List Oper) : List (List Nat) := ops.map fun o => o.after.toList.filterMap fun e => bif Region.binds .any e then some e.on else none
/-- Does number i wait for number j, by a chain? -/
def waits (bs : List (List Nat)) : Nat → Nat → Nat → Bool
  | 0, _, _ => false
  | n + 1, i, j => (bs.getD i []).any fun k => Nat.beq k j || waits bs n k j
def tmpsOf (ops : List Oper) (o : Oper) : List Nat := o.looksAt ops.toArray
def dstL (o : Oper) : List Nat := match o.dst with | some d => [d] | none => []
def slotsApart (ops : List Oper) (x y : Oper) : Bool := apartL (dstL x) (tmpsOf ops y) && apartL (dstL x) (dstL y) && apartL (dstL y) (tmpsOf ops x)
def heavy (r : R1) : Bool := match r with | .sem => true | _ => false

def okDone (bs : List (List Nat)) (n i : Nat) (f : Foot) (done : List (Nat × Foot)) : Bool := done.all fun (j, g) => waits bs n i j || f.apart g
/-- All pairs that may come up in either order name no temporary in common, of which one is written. -/
def slotsOkB (ops : List Oper) : Bool :=
  let bs := befores ops
  let n := ops.length
  (bs.zipIdx.all fun (l, i) => l.all fun k => Nat.blt k i) &&
  ops.zipIdx.all fun (y, i) => ops.zipIdx.all fun (x, j) => !(Nat.blt j i) || waits bs n i j || slotsApart ops x y
def evalW (T : TT) (keep : List Nat) (ops : List Oper) (o : Oper) (s : St) : R1 := match wants ops o s with | .yes => eval1 T keep o s | _ => .fail
def footOf (T : TT) (keep : List Nat) (ops : List Oper) (o : Oper) (s : St) : Foot := ⟨rdsOf o s, wrsOf (evalW T keep ops o s)⟩
def exD (P : Program) (T : TT) (keep : List Nat) (c : Ctx) (N : Nat) (ops : List Oper) (bs : List (List Nat)) : Nat → List Oper → List (Nat × Foot) → (St → Prop) → St → Prop
  | _, [], _, K, s => K s
  | i, o :: r, done, K, s =>
    bif heavy (evalW T keep ops o s) then
      -- a barrier: all that stand ahead are waited for, all behind wait for it
      bif (List.range i).all (fun j => waits bs ops.length i j) && (List.range r.length).all (fun j => waits bs ops.length (i + 1 + j) i) then
        stepO P T keep c N ops i o (exD P T keep c N ops bs (i + 1) r [] K) s
      else False
    else
      bif okDone bs ops.length i (footOf T keep ops o s) done then
        stepO P T keep c N ops i o (exD P T keep c N ops bs (i + 1) r ((i, footOf T keep ops o s) :: done) K) s
      else False

def ex (P : Program) (T : TT) (keep : List Nat) (c : Ctx) (N : Nat) : Code → (Ex → St → Prop) → St → Prop
  | .skip, K, s => K .normal s
  | .region _ ops draw, K, s =>
    bif draw then SideP (slotsOkB ops.toList = true) (exD P T keep c N ops.toList (befores ops.toList) 0 ops.toList [] (K .normal) s)
    else exO P T keep c N ops.toList 0 ops.toList (K .normal) s
  | .seq x y, K, s => ex P T keep c N x (kseq (ex P T keep c N y K) K) s
  | .cond x a b, K, s => match s.ev x with
    | .d (.bool t) => SplitP t (fun t => bif t then ex P T keep c N a K s else ex P T keep c N b K s)
    | _ => False
  | .block id x, K, s => ex P T keep c N x (kblk id K) s
  | .loop x, K, s => LoopP c (ex P T keep c N x) K s
  | .scope x, K, s => ex P T keep c N x K s
  | .exit id, K, s => K (.exit id) s
  | .label _, K, s => K .normal s
  | .ret, K, s => K .ret s
  | _, _, _ => False

/-! ### A call -/
def initE : List V → Nat → V
  | [], _ => .undef
  | v :: r, n => match n with
    | 0 => v
    | n + 1 => initE r n
def initS (args : List V) : St := ⟨initE args, fun _ => none⟩
def snapM (o : MO) (off len : Nat) : V :=
  match o with
  | .words _ l => .d (.words ((l.drop off).take len))
  | .rows _ sz l => .d (.rows sz ((l.drop off).take len))
  | .box _ => .undef
def retV1 (T : TT) (s : St) (rv : ResultVar) (t : TypeId) : V :=
  match rv with
  | .tmp x => match s.env x with
    | .d y => .d y
    | .agg n l => .agg n l
    | .nils => emptyOf T t
    | .own o off len => match s.mem o with
      | some m => snapM m off len
      | none => .undef
    | _ => .undef
  | .cell x ct => match s.env x with
    | .addr o 0 => match s.mem o with
      | some (.box l) => bif Nat.beq (T ct).sz l.length && (T ct).k.ok then ofCells T ct l else .undef
      | _ => .undef
    | _ => .undef
def retVs (T : TT) (s : St) : List ResultVar → List TypeId → List V
  | [], _ => []
  | r :: rs, ts => retV1 T s r (ts.headD 0) :: retVs T s rs ts.tail
def retV (T : TT) (s : St) (rs : List ResultVar) (ts : List TypeId) : V :=
  match retVs T s rs ts with
  | [v] => v
  | l => .tup l
def kret (T : TT) (fn : Func) (r : V) (e : Ex) (s : St) : Prop :=
  match e with
  | .exit _ => False
  | .normal => RetP (retV T s fn.results.toList fn.resultTypes.toList) r
  | .ret => RetP (retV T s fn.results.toList fn.resultTypes.toList) r
def exF (P : Program) (T : TT) (keep : List Nat) (c : Ctx) (fn : Func) (args : List V) (r : V) : Prop :=
  match fn.body with
  | some b => ex P T keep c fn.ntmps b (kret T fn r) (initS args)
  | none => False

end Go.Proofs.Ythefflmebkcilaa.Fw
