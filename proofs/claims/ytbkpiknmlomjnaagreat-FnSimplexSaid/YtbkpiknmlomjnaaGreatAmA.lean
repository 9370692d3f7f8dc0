/- The abstract machine: its values and operations. No condition: what is proved here holds of every program of the model. -/
import Derived.Calls
import Derived.WalkKit
import Derived.Lib.LaidTab
import Derived.Lib.ItoaNum
import Derived.Laws.StructEq
import Derived.Laws.OwnMore
import Derived.Laws.BytesString
import Derived.Lib.SliceRun
import Derived.Laws.BytesArg
import Derived.Laws.Small
import Derived.Laws.MakeOwn
import Derived.Great.BuildSlice
import Derived.Maps.AppendAt
import Derived.Deep.Upon
import Derived.ArgAppend
namespace Go.AM
structure Q where
 num : Int
 den : Int
inductive Pay where
 | ints (l : List Int)
 | bytes (l : List UInt8)
 | rats (l : List Q)
 | strs (l : List (List UInt8))
 | intss (l : List (List Int))
 | ratss (l : List (List Q))
namespace Pay
def len : Pay → Nat
 | .ints l => l.length | .bytes l => l.length | .rats l => l.length | .strs l => l.length | .intss l => l.length | .ratss l => l.length
def size : Pay → Nat
 | .rats _ => 2
 | _ => 1
def drop (n : Nat) : Pay → Pay
 | .ints l => .ints (l.drop n) | .bytes l => .bytes (l.drop n) | .rats l => .rats (l.drop n) | .strs l => .strs (l.drop n) | .intss l => .intss (l.drop n) | .ratss l => .ratss (l.drop n)
def take (n : Nat) : Pay → Pay
 | .ints l => .ints (l.take n) | .bytes l => .bytes (l.take n) | .rats l => .rats (l.take n) | .strs l => .strs (l.take n) | .intss l => .intss (l.take n) | .ratss l => .ratss (l.take n)
def subs : Pay → Option (List Pay)
 | .intss l => some (l.map .ints)
 | .ratss l => some (l.map .rats)
 | _ => none
def isDeep : Pay → Bool
 | .intss _ | .ratss _ => true
 | _ => false
def sub : Pay → Nat → Pay
 | .intss l,i => .ints (l.getD i [])
 | .ratss l,i => .rats (l.getD i [])
 | p,_ => p
def vals : Pay → List Value
 | .ints l => l.map (.int .i64)
 | .bytes l => l.map fun b => .int .u8 b.toNat
 | .rats l => l.flatMap fun q => [.int .i64 q.num,.int .i64 q.den]
 | .strs l => l.map fun s => .string ⟨s.toArray⟩
 | _ => []
def app : Pay → Pay → Option Pay
 | .ints l,.ints r => some (.ints (l ++ r))
 | .bytes l,.bytes r => some (.bytes (l ++ r))
 | .rats l,.rats r => some (.rats (l ++ r))
 | .strs l,.strs r => some (.strs (l ++ r))
 | .intss l,.intss r => some (.intss (l ++ r))
 | .ratss l,.ratss r => some (.ratss (l ++ r))
 | _,_ => none
def zeros : Pay → Nat → Pay
 | .ints _,n => .ints (List.replicate n 0)
 | .bytes _,n => .bytes (List.replicate n 0)
 | .rats _,n => .rats (List.replicate n ⟨0,0⟩)
 | .strs _,n => .strs (List.replicate n [])
 | .intss _,n => .intss (List.replicate n [])
 | .ratss _,n => .ratss (List.replicate n [])
end Pay
inductive AV where
 | dead
 | undf
 | anyb (p : Pay)
 | lst (x : Value) (p : Pay)
 | int (k : IntKind) (n : Int)
 | bool (b : Bool)
 | blit (b : Bool)
 | str (l : List UInt8)
 | agg (cs : List AV)
 | tuple (vs : List AV)
 | nilp
 | ptr (o i : Nat)
 | sl (o ver : Nat)
 | slp (o ver off len : Nat)
 | sub (o ver rv k : Nat)
 | eptr (o ver e fo : Nat)
 | selt (o ver rv k e fo : Nat)
 | subp (o ver rv k off len : Nat)
 | list (p : Pay)
 | nil (p : Pay)
 | pelt (p : Pay) (e fo : Nat)
 | pbox (cs : List AV) (i : Nat)
 | func (f : FuncId) (first captured : List AV)
abbrev AV.i (n : Int) : AV := .int .i64 n
inductive AObj where
 | box (cs : List AV)
 | arr (e ver rv : Nat) (p : Pay)
 | hol (e ver rv : Nat) (p : Pay) (k : Nat)
inductive Sh where
 | int (k : IntKind)
 | bool
 | str
 | ptr
 | func
 | slice (e : TypeId) (p : Pay)
 | struct (fs : List (Nat × Nat)) (z : List AV) (rat : Bool)
abbrev TEnv := List (Nat × Sh)
def getT : TEnv → Nat → Option Sh
 | [],_ => none
 | (j,v) :: r,i => if j = i then some v else getT r i
structure ASt where
 sl : List (Nat × AV)
 ob : List (Nat × AObj)
def getS : List (Nat × AV) → Nat → AV
 | [],_ => .dead
 | (j,v) :: r,i => if j = i then v else getS r i
def getO : List (Nat × AObj) → Nat → Option AObj
 | [],_ => none
 | (j,v) :: r,i => if j = i then some v else getO r i
def Sh.isSt : Sh → Bool
 | .struct .. => true
 | _ => false
def Sh.size : Sh → Nat
 | .struct _ z _ => z.length
 | _ => 1
def Sh.zero : Sh → List AV
 | .int k => [.int k 0]
 | .bool => [.bool false]
 | .str => [.str []]
 | .ptr => [.nilp]
 | .func => [.dead]
 | .slice _ p => [.nil p]
 | .struct _ z _ => z
def pack : Sh → List AV → AV
 | .struct ..,cs => .agg cs
 | _,c :: _ => c
 | _,[] => .dead
def cellsOf : AV → Option (List AV)
 | .agg cs => some cs
 | .tuple _ => none
 | .dead => none
 | .undf => none
 | v => some [v]
def opv (σ : ASt) (ty : Option Sh) : Operand → AV
 | .tmp t => getS σ.sl t
 | .const (.int k n) => .int k n
 | .const (.bool b) => .bool b
 | .const (.string s) => .str s.data.toList
 | .const (.slice none 0 0) => match ty with
  | some (.slice _ p) => .nil p
  | _ => .dead
 | .const (.pointer none) => .nilp
 | .func f => .func f [] []
 | _ => .dead
def elemCells : Pay → Nat → List AV
 | .ints l,i => [.int .i64 (l.getD i 0)]
 | .bytes l,i => [.int .u8 (l.getD i 0).toNat]
 | .rats l,i => [.int .i64 (l.getD i ⟨0,0⟩).num,.int .i64 (l.getD i ⟨0,0⟩).den]
 | .strs l,i => [.str (l.getD i [])]
 | .intss l,i => [.list (.ints (l.getD i []))]
 | .ratss l,i => [.list (.rats (l.getD i []))]
def setElem : Pay → Nat → Nat → AV → Option Pay
 | .ints l,e,0,.int .i64 n => some (.ints (l.set e n))
 | .rats l,e,0,.int .i64 n => some (.rats (l.set e ⟨n,(l.getD e ⟨0,0⟩).den⟩))
 | .rats l,e,1,.int .i64 n => some (.rats (l.set e ⟨(l.getD e ⟨0,0⟩).num,n⟩))
 | .rats l,e,0,.agg [.int .i64 n,.int .i64 d] => some (.rats (l.set e ⟨n,d⟩))
 | .strs l,e,0,.str s => some (.strs (l.set e s))
 | _,_,_,_ => none
def setRow : Pay → Nat → Pay → Option Pay
 | .intss l,k,.ints r => some (.intss (l.set k r))
 | .ratss l,k,.rats r => some (.ratss (l.set k r))
 | _,_,_ => none
def payLit : Pay → List AV → Option Pay
 | p,[] => some p
 | .ints l,.int .i64 n :: r => payLit (.ints (l ++ [n])) r
 | .rats l,.agg [.int .i64 a,.int .i64 b] :: r => payLit (.rats (l ++ [⟨a,b⟩])) r
 | .strs l,.str s :: r => payLit (.strs (l ++ [s])) r
 | .bytes l,.int .u8 n :: r => payLit (.bytes (l ++ [UInt8.ofNat n.toNat])) r
 | _,_ => none
def outLit (p : Pay) (n : Nat) (vs : List AV) (ix : Bool) : Option Pay := match p with
 | .ints [] => match ix,Nat.ble 5 n,Nat.ble n 1000 with
  | true,true,true => match payLit (.ints []) vs with
   | some p' => match Nat.beq p'.len n with
    | true => some p'
    | false => none
   | none => none
  | _,_,_ => none
 | _ => none
def byteConds : Pay → List AV → List Prop
 | .bytes l,.int .u8 n :: r => (0 ≤ n ∧ n < 256) :: byteConds (.bytes l) r
 | _,_ => []
def AV.free (d : Nat) : AV → Bool
 | .ptr o _ | .sl o _ | .slp o _ _ _ | .sub o _ _ _ | .eptr o _ _ _ | .selt o _ _ _ _ _ | .subp o _ _ _ _ _ => !(Nat.beq o d)
 | .agg cs => go cs
 | .tuple cs => go cs
 | .func _ a b => go a && go b
 | .pbox cs _ => go cs
 | _ => true
where go : List AV → Bool
 | [] => true
 | v :: r => v.free d && go r
def AV.pure : AV → Bool
 | .list _ | .pelt _ _ _ | .pbox _ _ | .lst _ _ => false
 | .agg cs => go cs
 | .tuple cs => go cs
 | .func _ a b => go a && go b
 | _ => true
where go : List AV → Bool
 | [] => true
 | v :: r => v.pure && go r
def AV.within (l : List Nat) : AV → Bool
 | .ptr o _ | .sl o _ | .slp o _ _ _ | .sub o _ _ _ | .eptr o _ _ _ | .selt o _ _ _ _ _ | .subp o _ _ _ _ _ => l.any (Nat.beq o)
 | .agg cs => go cs
 | .tuple cs => go cs
 | .func _ a b => go a && go b
 | .pbox cs _ => go cs
 | _ => true
where go : List AV → Bool
 | [] => true
 | v :: r => v.within l && go r
def freeS (d : Nat) : List (Nat × AV) → Bool
 | [] => true
 | (_,v) :: r => v.free d && freeS d r
def freeO (d : Nat) : List (Nat × AObj) → Bool
 | [] => true
 | (_,.box cs) :: r => AV.free.go d cs && freeO d r
 | (_,.arr ..) :: r => freeO d r
 | (_,.hol ..) :: r => freeO d r
def ASt.free (σ : ASt) (d : Nat) : Bool :=
 match getO σ.ob d with
 | none => freeS d σ.sl && freeO d σ.ob
 | some _ => false
def payOf (ob : List (Nat × AObj)) : AV → Option Pay
 | .list p => some p
 | .nil p => some p
 | .sl o ver => match getO ob o with
  | some (.arr _ v _ p) => if v = ver then some p else none
  | _ => none
 | .slp o ver off len => match getO ob o with
  | some (.arr _ v _ p) => if v = ver then (match p.isDeep with
   | false => some ((p.drop off).take len)
   | true => none) else none
  | _ => none
 | .sub o ver rv k => match getO ob o with
  | some (.arr _ v r p) => if v = ver then (if r = rv then (match p.isDeep with
   | true => some (p.sub k)
   | false => none) else none) else none
  | _ => none
 | _ => none
def looseOf (ob : List (Nat × AObj)) (o ver : Nat) : Option Pay := match getO ob o with
 | some (.hol e v _ p _) => match Nat.beq e 0 && Nat.beq v ver with
  | true => some p
  | false => none
 | _ => none
def seen1 (io : List Nat) (ob : List (Nat × AObj)) : AV → AV
 | .nil p => .list p
 | .blit b => .bool b
 | .sl o ver => match io.contains o with
  | true => .sl o ver
  | false => match payOf ob (.sl o ver) with
   | some p => .list p
   | none => match looseOf ob o ver with
    | some p => .list p
    | none => .dead
 | .slp o ver off len => match io.contains o with
  | true => .slp o ver off len
  | false => match payOf ob (.slp o ver off len) with
   | some p => .list p
   | none => .dead
 | .sub o ver rv k => match io.contains o with
  | true => .sub o ver rv k
  | false => match payOf ob (.sub o ver rv k) with
   | some p => .list p
   | none => .dead
 | .ptr o i => match io.contains o with
  | true => .ptr o i
  | false => .dead
 | .eptr .. => .dead
 | .selt .. => .dead
 | .subp .. => .dead
 | .agg _ => .dead
 | .tuple _ => .dead
 | .func .. => .dead
 | .lst _ p => .list p
 | v => v
def seen2 (io : List Nat) (ob : List (Nat × AObj)) : AV → AV
 | .ptr o i => match io.contains o with
  | true => .ptr o i
  | false => match getO ob o with
   | some (.box cs) => .pbox (cs.map (seen1 io ob)) i
   | _ => .dead
 | .agg cs => .agg (cs.map (seen1 io ob))
 | .func f [] [] => .func f [] []
 | v => seen1 io ob v
def seen3 (io : List Nat) (ob : List (Nat × AObj)) : AV → AV
 | .func f a b => .func f (a.map (seen2 io ob)) (b.map (seen2 io ob))
 | v => seen2 io ob v
def seenObj (io : List Nat) (ob : List (Nat × AObj)) : AObj → AObj
 | .box cs => .box (cs.map (seen1 io ob))
 | x => x
def setO (ob : List (Nat × AObj)) (o : Nat) (x : AObj) : List (Nat × AObj) := (o,x) :: ob
def delO : List (Nat × AObj) → Nat → List (Nat × AObj)
 | [],_ => []
 | (j,v) :: r,i => if j = i then delO r i else (j,v) :: delO r i
inductive Out where
 | ok (cs : List Prop) (v : AV) (obs : List (Nat × Option AObj))
 | fail
def idxOk : Nat → List (Nat × Operand) → Bool
 | _,[] => true
 | k,(i,_) :: r => Nat.beq i k && idxOk (k + 1) r
def setCells (cs : List AV) (i : Nat) : List AV → List AV
 | [] => cs
 | v :: r => setCells (cs.set i v) (i + 1) r
def szIs (T : TEnv) (t n : Nat) : Bool := match getT T t with
 | some s => Nat.beq s.size n
 | none => false
def szOk (T : TEnv) (t : Nat) (p : Pay) : Bool := match getT T t with
 | some (.slice _ q) => Nat.beq q.size p.size
 | _ => false
def buildCells (T : TEnv) (fs : List (Nat × Nat)) : List AV → List (Nat × AV) → Option (List AV)
 | cs,[] => some cs
 | cs,(f,v) :: r => match fs[f]?,cellsOf v with
  | some (off,ft),some vs => match szIs T ft vs.length,Nat.ble (off + vs.length) cs.length with
   | true,true => buildCells T fs (setCells cs off vs) r
   | _,_ => none
  | _,_ => none
def AV.wk : AV → AV
 | .lst _ p => .list p
 | v => v
def cut (s : Sh) (cs : List AV) (i : Nat) : Out := match Nat.ble (i + s.size) cs.length with
 | true => .ok [] (pack s (((cs.drop i).take s.size).map AV.wk)) []
 | false => .fail
def bitsOf (op : BinOp) (k : IntKind) (x y : Int) : Int :=
 let a := BitVec.ofInt k.bits x
 let b := BitVec.ofInt k.bits y
 match op with
 | .and => k.wrap (a &&& b).toNat
 | .or => k.wrap (a ||| b).toNat
 | .xor => k.wrap (a ^^^ b).toNat
 | _ => k.wrap (a &&& ~~~b).toNat
def binInt (op : BinOp) (k : IntKind) (x y : Int) : Out :=
 match op with
 | .add => .ok [] (.int k (k.wrap (x + y))) []
 | .sub => .ok [] (.int k (k.wrap (x - y))) []
 | .mul => .ok [] (.int k (k.wrap (x * y))) []
 | .eql => .ok [] (.bool (x == y)) []
 | .neq => .ok [] (.bool (x != y)) []
 | .lss => .ok [] (.bool (decide (x < y))) []
 | .leq => .ok [] (.bool (decide (x ≤ y))) []
 | .gtr => .ok [] (.bool (decide (x > y))) []
 | .geq => .ok [] (.bool (decide (x ≥ y))) []
 | .quo => .ok [y ≠ 0] (.int k (k.wrap (x.tdiv y))) []
 | .rem => .ok [y ≠ 0] (.int k (x.tmod y)) []
 | .shl => .fail
 | .shr => .fail
 | op => .ok [] (.int k (bitsOf op k x y)) []
def isRat : Option Sh → Bool
 | some (.struct _ _ true) => true
 | _ => false
def binV (s : Option Sh) (op : BinOp) : AV → AV → Out
 | .int k a,.int k' b => match op with
  | .shl => .ok [0 ≤ b] (.int k (k.wrap (a * 2 ^ (min b.toNat k.bits)))) []
  | .shr => .ok [0 ≤ b] (.int k (a.fdiv (2 ^ (min b.toNat k.bits)))) []
  | op => if k = k' then binInt op k a b else .fail
 | .bool a,.bool b => match op,s with
  | .eql,some .bool => .ok [] (.bool (a == b)) []
  | .neq,some .bool => .ok [] (.bool (a != b)) []
  | _,_ => .fail
 | .agg [.int .i64 a,.int .i64 b],.agg [.int .i64 c,.int .i64 d] => match op,isRat s with
  | .eql,true => .ok [] (.bool (a == c && b == d)) []
  | .neq,true => .ok [] (.bool (!(a == c && b == d))) []
  | _,_ => .fail
 | .str a,.str b => match op with
  | .add => .ok [((a.length + b.length : Nat) : Int) ≤ 9223372036854775807] (.str (a ++ b)) []
  | .eql => .ok [] (.bool (a == b)) []
  | .neq => .ok [] (.bool (!(a == b))) []
  | _ => .fail
 | _,_ => .fail
def maxV : List AV → Out
 | [.int k a,.int _ b] => .ok [] (.int k (if b > a then b else a)) []
 | _ => .fail
def sliceV (T : TEnv) (t : Nat) (ob : List (Nat × AObj)) : AV → Option AV → Option AV → Out
 | .str l,lo,hi => match getT T t,lo,hi with
  | some .str,some (.int _ a),none => .ok [0 ≤ a ∧ a ≤ l.length] (.str (l.drop a.toNat)) []
  | some .str,none,some (.int _ b) => .ok [0 ≤ b ∧ b ≤ l.length] (.str (l.take b.toNat)) []
  | some .str,some (.int _ a),some (.int _ b) => .ok [0 ≤ a ∧ a ≤ b ∧ b ≤ l.length] (.str ((l.drop a.toNat).take (b.toNat - a.toNat))) []
  | _,_,_ => .fail
 | .list p,lo,hi => match szOk T t p,p.isDeep,lo,hi with
  | true,false,some (.int _ a),none => .ok [0 ≤ a ∧ a ≤ p.len] (.list (p.drop a.toNat)) []
  | true,false,none,some (.int _ b) => .ok [0 ≤ b ∧ b ≤ p.len] (.list (p.take b.toNat)) []
  | true,false,some (.int _ a),some (.int _ b) => .ok [0 ≤ a ∧ a ≤ b ∧ b ≤ p.len] (.list ((p.drop a.toNat).take (b.toNat - a.toNat))) []
  | _,_,_,_ => .fail
 | .sl o ver,lo,hi => match payOf ob (.sl o ver) with
  | some p => match szOk T t p,lo,hi with
   | true,some (.int _ a),none => .ok [0 ≤ a ∧ a ≤ p.len] (.slp o ver a.toNat (p.len - a.toNat)) []
   | true,none,some (.int _ b) => .ok [0 ≤ b ∧ b ≤ p.len] (.slp o ver 0 b.toNat) []
   | true,some (.int _ a),some (.int _ b) => .ok [0 ≤ a ∧ a ≤ b ∧ b ≤ p.len] (.slp o ver a.toNat (b.toNat - a.toNat)) []
   | _,_,_ => .fail
  | none => .fail
 | .sub o ver rv k,lo,hi => match payOf ob (.sub o ver rv k) with
  | some p => match szOk T t p,lo,hi with
   | true,some (.int _ a),none => .ok [0 ≤ a ∧ a ≤ p.len] (.subp o ver rv k a.toNat (p.len - a.toNat)) []
   | _,_,_ => .fail
  | none => .fail
 | _,_,_ => .fail
def room : Nat := 1099511627776
def brings (ob : List (Nat × AObj)) (x : AV) : Option (Pay × Option Nat) :=
 match payOf ob x with
 | some p => match p.isDeep,x with
  | false,_ => some (p,none)
  | true,.sl o _ => some (p,some o)
  | true,_ => none
 | none => none
def dropped : Option Nat → List (Nat × Option AObj)
 | some u => [(u,none)]
 | none => []
def isNilC : Operand → Bool
 | .const (.slice none 0 0) => true
 | _ => false
def evalOp (T : TEnv) (σ : ASt) (o : Oper) : Out :=
 match o.op with
 | .move x => .ok [] (opv σ (getT T o.type) x) []
 | .assign x => .ok [] (opv σ (getT T o.type) x) []
 | .pick c a b => match opv σ none c with
  | .blit true => .ok [] (opv σ none a) []
  | .blit false => .ok [] (opv σ none b) []
  | .bool c => match opv σ none a,opv σ none b with
   | .bool a,.bool b => .ok [] (.bool (bif c then a else b)) []
   | _,_ => .fail
  | _ => .fail
 | .alloc e => match getT T e,o.dst with
  | some s,some d => match getO σ.ob d with
   | none => .ok [] (.ptr d 0) [(d,some (.box s.zero))]
   | some _ => .fail
  | _,_ => .fail
 | .box _ x => match o.dst,cellsOf (opv σ none x) with
  | some d,some cs => match getO σ.ob d with
   | none => .ok [] (.ptr d 0) [(d,some (.box cs))]
   | some _ => .fail
  | _,_ => .fail
 | .build t parts => match getT T t with
  | some (.struct fs z _) => match buildCells T fs z (parts.toList.map fun x => (x.1,opv σ none x.2)) with
   | some cs => .ok [] (.agg cs) []
   | none => .fail
  | _ => .fail
 | .buildSlice t n parts => match getT T t,o.dst with
  | some (.slice e p),some d => match outLit p n (parts.toList.map fun x => opv σ none x.2) (idxOk 0 parts.toList) with
    | some p' => .ok [] (.list p') []
    | none => match getO σ.ob d,p.isDeep with
   | some _,_ => .fail
   | none,false => match payLit p (parts.toList.map fun x => opv σ none x.2),idxOk 0 parts.toList with
    | some p',true => match Nat.beq p'.len n,Nat.ble n 1000 with
     | true,true => .ok (byteConds p (parts.toList.map fun x => opv σ none x.2)) (.sl d 0) [(d,some (.arr e 0 0 p'))]
     | _,_ => .fail
    | _,_ => .fail
   | none,true => match parts.toList.map fun x => (x.1,opv σ none x.2) with
    | [] => if n = 0 then .ok [] (.sl d 0) [(d,some (.arr e 0 0 (p.zeros 0)))] else .fail
    | [(0,.sl o1 v1)] => match payOf σ.ob (.sl o1 v1) with
     | some q => match setRow (p.zeros 1) 0 q with
      | some p' => if n = 1 then .ok [] (.sl d 0) [(d,some (.arr e 0 0 p')),(o1,none)] else .fail
      | none => .fail
     | none => .fail
    | _ => .fail
  | _,_ => .fail
 | .load t x => match getT T t,opv σ none x with
  | some s,.ptr ob i => match getO σ.ob ob with
   | some (.box cs) => cut s cs i
   | _ => .fail
  | some s,.pelt p e fo => cut s (elemCells p e) fo
  | some s,.pbox cs i => cut s cs i
  | some s,.eptr ob ver e fo => match getO σ.ob ob with
   | some (.arr _ v rv p) => if v = ver then (match p.isDeep with
    | false => cut s (elemCells p e) fo
    | true => match s,fo with
     | .slice _ _,0 => .ok [] (.sub ob ver rv e) []
     | _,_ => .fail) else .fail
   | _ => .fail
  | some s,.selt ob ver rv k e fo => match payOf σ.ob (.sub ob ver rv k) with
   | some q => cut s (elemCells q e) fo
   | _ => .fail
  | _,_ => .fail
 | .store t x v => match cellsOf (opv σ none v) with
  | none => .fail
  | some vs => match szIs T t vs.length with
   | false => .fail
   | true => match opv σ none x with
    | .ptr ob i => match getO σ.ob ob with
     | some (.box cs) => match Nat.ble (i + vs.length) cs.length with
      | true => .ok [] .dead [(ob,some (.box (setCells cs i vs)))]
      | false => .fail
     | _ => .fail
    | .eptr ob ver e fo => match getO σ.ob ob with
     | some (.arr el v0 rv p) => if v0 = ver then (match p.isDeep with
      | false => match setElem p e fo (opv σ none v) with
       | some p' => .ok [] .dead [(ob,some (.arr el v0 rv p'))]
       | none => .fail
      | true => match opv σ none v,fo with
       | .sl o1 v1,0 => match payOf σ.ob (.sl o1 v1) with
        | some q => match setRow p e q with
         | some p' => if o1 = ob then .fail else .ok [] .dead [(ob,some (.arr el v0 (rv + 1) p')),(o1,none)]
         | none => .fail
        | none => .fail
       | .subp o1 v1 r1 k1 off len,0 => match Nat.beq o1 ob && (Nat.beq v1 v0 && Nat.beq r1 rv) with
        | true => match setRow p e (((p.sub k1).drop off).take len) with
         | some p' => .ok [] .dead [(ob,some (.hol 0 v0 (rv + 1) p' 0))]
         | none => .fail
        | false => .fail
       | _,_ => .fail) else .fail
     | some (.hol el v0 r0 p k) => match opv σ none v,fo with
      | .sub o1 v1 r1 k1,0 => match !(Nat.beq el 0) && (Nat.beq o1 ob && (Nat.beq v1 v0 && (Nat.beq ver v0 && Nat.beq r1 r0))) with
       | true => .ok [e = k,k1 = k] .dead [(ob,some (.arr el v0 r0 p))]
       | false => .fail
      | _,_ => .fail
     | _ => .fail
    | .selt ob ver rv k e fo => match getO σ.ob ob with
     | some (.arr el v0 r0 p) => if v0 = ver then (if r0 = rv then (match p.isDeep with
      | true => match setElem (p.sub k) e fo (opv σ none v) with
       | some r => match setRow p k r with
        | some p' => .ok [] .dead [(ob,some (.arr el v0 r0 p'))]
        | none => .fail
       | none => .fail
      | false => .fail) else .fail) else .fail
     | _ => .fail
    | _ => .fail
 | .nilCheck x => match opv σ none x with
  | .ptr a b => .ok [] (.ptr a b) []
  | .pbox a b => .ok [] (.pbox a b) []
  | _ => .fail
 | .binOp op t x y _ => match op,getT T t,opv σ none x,isNilC y with
  | .eql,some (.slice _ _),.list p,true => .ok [] (.anyb p) []
  | _,_,_,_ => binV (getT T t) op (opv σ none x) (opv σ none y)
 | .unOp op _ x => match op,opv σ none x with
  | .not,.bool b => .ok [] (.bool !b) []
  | .neg,.int k n => .ok [] (.int k (k.wrap (0 - n))) []
  | _,_ => .fail
 | .convert s t x => match getT T s,getT T t,opv σ none x with
  | some _,some (.int k),.int _ n => .ok [] (.int k (k.wrap n)) []
  | some (.slice _ (.bytes _)),some .str,.list (.bytes l) => .ok [] (.str l) []
  | some (.slice _ (.bytes _)),some .str,.sl o ver => match payOf σ.ob (.sl o ver) with
   | some (.bytes l) => .ok [] (.str l) []
   | _ => .fail
  | _,_,_ => .fail
 | .makeFunc (.func f) first captured => .ok [] (.func f (first.toList.map (opv σ none)) (captured.toList.map (opv σ none))) []
 | .makeSlice t n c => match getT T t,o.dst,opv σ none n,opv σ none c with
  | some (.slice e p),some d,.int .i64 n,.int .i64 c => match getO σ.ob d with
   | none => .ok [0 ≤ n ∧ n = c ∧ n ≤ room] (.sl d 0) [(d,some (.arr e 0 0 (p.zeros n.toNat)))]
   | some _ => .fail
  | _,_,_,_ => .fail
 | .slice t x lo hi none => sliceV T t σ.ob (opv σ none x) (lo.map (opv σ none)) (hi.map (opv σ none))
 | .fieldAddr t x f => match getT T t,opv σ none x with
  | some (.struct fs _ _),.ptr o i => match fs[f]? with
   | some (off,_) => .ok [] (.ptr o (i + off)) []
   | none => .fail
  | some (.struct fs _ _),.pelt p e i => match fs[f]? with
   | some (off,_) => .ok [] (.pelt p e (i + off)) []
   | none => .fail
  | some (.struct fs _ _),.pbox cs i => match fs[f]? with
   | some (off,_) => .ok [] (.pbox cs (i + off)) []
   | none => .fail
  | some (.struct fs _ _),.eptr o ver e i => match fs[f]?,payOf σ.ob (.sl o ver) with
   | some (off,_),some _ => .ok [] (.eptr o ver e (i + off)) []
   | _,_ => .fail
  | some (.struct fs _ _),.selt o ver rv k e i => match fs[f]?,payOf σ.ob (.sub o ver rv k) with
   | some (off,_),some _ => .ok [] (.selt o ver rv k e (i + off)) []
   | _,_ => .fail
  | _,_ => .fail
 | .indexAddr t x i => match opv σ none x,opv σ none i with
  | .list p,.int _ n => match szOk T t p with
   | true => .ok [0 ≤ n ∧ n < p.len] (.pelt p n.toNat 0) []
   | false => .fail
  | .sl ob ver,.int _ n => match payOf σ.ob (.sl ob ver) with
   | some p => match szOk T t p with
    | true => .ok [0 ≤ n ∧ n < p.len] (.eptr ob ver n.toNat 0) []
    | false => .fail
   | none => match getO σ.ob ob with
    | some (.hol e0 v0 _ p _) => match !(Nat.beq e0 0) && (Nat.beq v0 ver && szOk T t p) with
     | true => .ok [0 ≤ n ∧ n < p.len] (.eptr ob ver n.toNat 0) []
     | false => .fail
    | _ => .fail
  | .slp ob ver off len,.int _ n => match payOf σ.ob (.slp ob ver off len) with
   | some p => match szOk T t p with
    | true => .ok [0 ≤ n ∧ n < len] (.eptr ob ver (off + n.toNat) 0) []
    | false => .fail
   | none => .fail
  | .sub ob ver rv k,.int _ n => match payOf σ.ob (.sub ob ver rv k) with
   | some p => match szOk T t p with
    | true => .ok [0 ≤ n ∧ n < p.len] (.selt ob ver rv k n.toNat 0) []
    | false => .fail
   | none => .fail
  | _,_ => .fail
 | .index t x i => match getT T t,opv σ none x,opv σ none i with
  | some .str,.str l,.int _ n => .ok [0 ≤ n ∧ n < l.length] (.int .u8 (l.getD n.toNat 0).toNat) []
  | _,_,_ => .fail
 | .field t x f => match getT T t,opv σ none x with
  | some (.struct fs _ _),.agg cs => match fs[f]? with
   | some (off,ft) => match getT T ft with
    | some s => cut s cs off
    | none => .fail
   | none => .fail
  | _,_ => .fail
 | .extract x i => match opv σ none x with
  | .tuple vs => match vs[i]? with
   | some v => .ok [] v []
   | none => .fail
  | _ => .fail
 | .call c => match c.callee with
  | .builtin .len => match c.args.toList,c.argTypes.toList with
   | [x],[t] => match getT T t,opv σ none x with
    | some .str,.str l => .ok [] (.int .i64 l.length) []
    | some (.slice _ _),.slp o ver off len => match payOf σ.ob (.slp o ver off len) with
     | some _ => .ok [] (.int .i64 len) []
     | none => .fail
    | some (.slice _ _),v => match payOf σ.ob v with
     | some p => .ok [] (.int .i64 p.len) []
     | none => .fail
    | _,_ => .fail
   | _,_ => .fail
  | .builtin .max => maxV (c.args.toList.map (opv σ none))
  | .builtin .append => match c.args.toList,c.argTypes.toList,o.dst with
   | [x,y],[t,t'],some d => match getT T t with
    | some (.slice e _) => if t = t' then (match opv σ none x,brings σ.ob (opv σ none y) with
     | .nil p,some (q,used) => match p.app q,szOk T t p,getO σ.ob d with
      | some p',true,none => .ok [q.len ≤ room] (.sl d 0) ((d,some (.arr e 0 0 p')) :: dropped used)
      | _,_,_ => .fail
     | .sl o1 ver,some (q,used) => match getO σ.ob o1 with
      | some (.arr e1 v1 _ p) => match p.app q,szOk T t p with
       | some p',true => if v1 = ver then (if e1 = e then (if used = some o1 then .fail else .ok [p.len + q.len ≤ room] (.sl o1 (ver + 1)) ((o1,some (.arr e (ver + 1) 0 p')) :: dropped used)) else .fail) else .fail
       | _,_ => .fail
      | _ => .fail
     | .sub ob ver rv k,some (q,none) => match getO σ.ob ob,payOf σ.ob (.sub ob ver rv k) with
      | some (.arr eo _ _ p),some q0 => match q0.app q,szOk T t q0 with
       | some q1,true => match setRow p k q1 with
        | some p' => match Nat.beq eo 0 with
         | false => .ok [q0.len + q.len ≤ room] (.sub ob ver (rv + 1) k) [(ob,some (.hol eo ver (rv + 1) p' k))]
         | true => .fail
        | none => .fail
       | _,_ => .fail
      | _,_ => .fail
     | _,_ => .fail) else .fail
    | _ => .fail
   | _,_,_ => .fail
  | _ => .fail
 | _ => .fail
def callOf (σ : ASt) (o : Oper) : Option (FuncId × List AV) := match o.op with
 | .call c => match c.callee with
  | .value f => match opv σ none f with
   | .func g first cap => some (g,first ++ c.args.toList.map (opv σ none) ++ cap)
   | _ => none
  | _ => none
 | _ => none
def markC (vf : Nat → Nat → Value) (o : Nat) : Nat → List AV → List AV
 | _,[] => []
 | i,.list p :: r => .lst (vf o i) p :: markC vf o (i + 1) r
 | i,.lst _ p :: r => .lst (vf o i) p :: markC vf o (i + 1) r
 | i,v :: r => v :: markC vf o (i + 1) r
def markO (vf : Nat → Nat → Value) : List (Nat × AObj) → List (Nat × AObj)
 | [] => []
 | (n,.box cs) :: r => (n,.box (markC vf n 0 cs)) :: markO vf r
 | x :: r => x :: markO vf r
def fillC (g : Nat → AV → AV) : Nat → List AV → List AV → List AV
 | _,[],_ => []
 | i,.undf :: r,c :: cs => g i c :: fillC g (i + 1) r cs
 | i,v :: r,_ :: cs => v :: fillC g (i + 1) r cs
 | _,v :: r,[] => v :: r
def markV (u : Value) : AV → AV
 | .list p => .lst u p
 | .lst _ p => .lst u p
 | _ => .undf
def keepV : AV → AV
 | .list p => .list p
 | .lst u p => .lst u p
 | _ => .undf
def fillO (g : Nat → Nat → AV → AV) (ob : List (Nat × AObj)) : List (Nat × AObj) → List (Nat × AObj)
 | [] => []
 | (n,.box cs) :: r => (n,.box (match getO ob n with
  | some (.box cs0) => fillC (g n) 0 cs cs0
  | _ => cs)) :: fillO g ob r
 | x :: r => x :: fillO g ob r
structure Ret where
 io : List Nat
 ret : AV
 ob : List (Nat × AObj)
def put (sl : List (Nat × AV)) (d : Option Nat) (v : AV) : List (Nat × AV) := match d with
 | some d => (d,v) :: sl
 | none => sl
def updO (ob : List (Nat × AObj)) : List (Nat × Option AObj) → List (Nat × AObj)
 | [] => ob
 | (o,some x) :: r => updO (setO ob o x) r
 | (o,none) :: r => updO (delO ob o) r
def guardSlot (all : List Oper) (j : Nat) : Option Nat := match all.drop j with
 | o :: _ => o.dst
 | [] => none
def okDst (nt : Nat) : Option Nat → Bool
 | some d => Nat.blt d nt
 | none => true
def madeOf (ob : List (Nat × AObj)) : List (Nat × Option AObj) → List Nat
 | [] => []
 | (n,some _) :: r => match getO ob n with
  | none => n :: madeOf ob r
  | some _ => madeOf ob r
 | (_,none) :: r => madeOf ob r
def freeAll (σ : ASt) : List Nat → Bool
 | [] => true
 | d :: r => σ.free d && Nat.blt d 2000 && freeAll σ r
def pickO (all : List Nat) (ob : List (Nat × AObj)) : List Nat → List (Nat × AObj)
 | [] => []
 | n :: r => match getO ob n with
  | some x => (n,seenObj all ob x) :: pickO all ob r
  | none => pickO all ob r
def namesO : List (Nat × AObj) → List Nat
 | [] => []
 | (n,_) :: r => n :: namesO r
def retObs (l : List Nat) : List (Nat × AObj) → Bool
 | [] => true
 | (_,.box cs) :: r => AV.within.go l cs && retObs l r
 | (_,.arr ..) :: r => retObs l r
 | (_,.hol ..) :: r => retObs l r
def retNew (σ : ASt) (io : List Nat) : List (Nat × AObj) → Bool
 | [] => true
 | (n,_) :: r => (io.any (Nat.beq n) && (getO σ.ob n).isSome || σ.free n && Nat.blt n 2000) && retNew σ io r
def delAll (ob : List (Nat × AObj)) : List Nat → List (Nat × AObj)
 | [] => ob
 | n :: r => delAll (delO ob n) r
def pureObs : List (Nat × AObj) → Bool
 | [] => true
 | (_,.box cs) :: r => AV.pure.go cs && pureObs r
 | (_,.arr ..) :: r => pureObs r
 | (_,.hol ..) :: r => pureObs r
def allIn (σ : ASt) (io : List Nat) : Bool := (delAll σ.ob io).isEmpty
def retOk (σ : ASt) (r : Ret) : Bool := (r.ret.pure && pureObs r.ob || allIn σ r.io) && r.ret.within (namesO r.ob) && retObs (namesO r.ob) r.ob && retNew σ r.io r.ob
end Go.AM
namespace Go.AM
inductive Loc where
 | box (b : Nat)
 | arr (ver rv sz szi : Nat) (hdr : Value) (inn : List Value)
abbrev View := Nat → Option (Array Value)
abbrev Locs := Nat → Option Loc
def Pay.sizei : Pay → Nat
 | .ratss _ => 2
 | _ => 1
def RowAt (R : View) (A : Option Addr) (vals : List Value) : Prop :=
 vals = [] ∨ ∃ b off cs,A = some ⟨b,off,none⟩ ∧ R b = some cs ∧ ∀ j u,vals[j]? = some u → cs[off + j]? = some u
def FlatAt (R : View) (p : Pay) (v : Value) : Prop := ∃ A c,v = .slice A p.len c ∧ p.len ≤ c ∧ RowAt R A p.vals
def ListAt (R : View) (p : Pay) (v : Value) : Prop :=
 match p.subs with
 | none => FlatAt R p v
 | some ps => ∃ A c vs,v = .slice A p.len c ∧ p.len ≤ c ∧ RowAt R A vs ∧ vs.length = p.len ∧ ∀ (j : Nat) (q : Pay) (u : Value),ps[j]? = some q → vs[j]? = some u → FlatAt R q u
def ArrV (L : Locs) (o ver : Nat) (v : Value) (K : (rv sz szi : Nat) → (hdr : Value) → (inn : List Value) → Prop) : Prop :=
 v.oneCell' = true ∧ ∃ ver' rv sz szi hdr inn,L o = some (.arr ver' rv sz szi hdr inn) ∧ ver ≤ ver' ∧ (ver = ver' → K rv sz szi hdr inn)
def SlpAt (off len sz : Nat) (hdr v : Value) : Prop :=
 ∃ A n c A' c',hdr = .slice A n c ∧ off + len ≤ n ∧ v = .slice A' len c' ∧ len ≤ c' ∧ (0 < len → ∃ b o0,A = some ⟨b,o0,none⟩ ∧ A' = some ⟨b,o0 + off * sz,none⟩) ∧ (off = 0 → A' = A ∧ c' = c)
def EltAt (e fo sz : Nat) (hdr v : Value) : Prop :=
 ∃ b o0 n c,hdr = .slice (some ⟨b,o0,none⟩) n c ∧ e < n ∧ v = .pointer (some ⟨b,o0 + e * sz + fo,none⟩)
mutual
def RelV (R : View) (L : Locs) : AV → Value → Prop
 | .dead,_ => True
 | .undf,v => v = undef
 | .lst x p,v => v = x ∧ ListAt R p v
 | .anyb p,v => ∃ b,v = .bool b ∧ (b = true → p.len = 0)
 | .int k n,v => v = .int k n
 | .bool b,v => v = .bool b
 | .blit b,v => v = .bool b
 | .str l,v => v = .string ⟨l.toArray⟩
 | .agg cs,v => ∃ vs : Array Value,v = .agg vs ∧ RelVs R L cs vs.toList ∧ ∀ u ∈ vs.toList,u.oneCell' = true
 | .tuple cs,v => ∃ vs : Array Value,v = .tuple vs ∧ RelVs R L cs vs.toList
 | .nilp,v => v = .pointer none
 | .ptr o i,v => ∃ b,L o = some (.box b) ∧ v = .pointer (some ⟨b,i,none⟩)
 | .sl o ver,v => ArrV L o ver v fun _ _ _ hdr _ => v = hdr
 | .slp o ver off len,v => ArrV L o ver v fun _ sz _ hdr _ => SlpAt off len sz hdr v
 | .sub o ver rv k,v => ArrV L o ver v fun rv' _ _ _ inn => rv ≤ rv' ∧ (rv = rv' → inn[k]? = some v)
 | .eptr o ver e fo,v => ArrV L o ver v fun _ sz _ hdr _ => EltAt e fo sz hdr v
 | .selt o ver rv k e fo,v => ArrV L o ver v fun rv' _ szi _ inn => rv ≤ rv' ∧ (rv = rv' → ∃ hdr,inn[k]? = some hdr ∧ EltAt e fo szi hdr v)
 | .subp o ver rv k off len,v => ArrV L o ver v fun rv' _ szi _ inn => rv ≤ rv' ∧ (rv = rv' → ∃ hdr,inn[k]? = some hdr ∧ SlpAt off len szi hdr v)
 | .list p,v => ListAt R p v
 | .nil p,v => v = .slice none 0 0 ∧ p.len = 0
 | .pelt p e fo,v => ∃ hdr,ListAt R p hdr ∧ EltAt e fo p.size hdr v
 | .pbox cs i,v => ∃ b vs,R b = some vs ∧ RelVs R L cs vs.toList ∧ (∀ u ∈ vs.toList,u.oneCell' = true) ∧ v = .pointer (some ⟨b,i,none⟩)
 | .func f a b,v => ∃ x y : Array Value,v = .func (.func f) x y ∧ RelVs R L a x.toList ∧ RelVs R L b y.toList
def RelVs (R : View) (L : Locs) : List AV → List Value → Prop
 | [],[] => True
 | a :: as,v :: vs => RelV R L a v ∧ RelVs R L as vs
 | _,_ => False
end
def LocLe : Loc → Loc → Prop
 | .box b,.box b' => b = b'
 | .arr ver rv sz szi hdr inn,.arr ver' rv' sz' szi' hdr' inn' => ver ≤ ver' ∧ (ver = ver' → sz = sz' ∧ szi = szi' ∧ hdr = hdr' ∧ rv ≤ rv' ∧ (rv = rv' → inn = inn'))
 | _,_ => False
theorem LocLe.refl (l : Loc) : LocLe l l := by cases l <;> simp [LocLe]
theorem LocLe.trans {a b c : Loc} (h : LocLe a b) (k : LocLe b c) : LocLe a c := by
 cases a <;> cases b <;> cases c <;> simp only [LocLe] at h k ⊢
 ·exact h.trans k
 ·obtain ⟨h1,h2⟩ := h
  obtain ⟨k1,k2⟩ := k
  refine ⟨by omega,fun e => ?_⟩
  obtain ⟨rfl,rfl,rfl,h5,h6⟩ := h2 (by omega)
  obtain ⟨rfl,rfl,rfl,k5,k6⟩ := k2 (by omega)
  exact ⟨rfl,rfl,rfl,by omega,fun e' => (h6 (by omega)).trans (k6 (by omega))⟩
def ViewLe (R R' : View) : Prop := ∀ b c,R b = some c → R' b = some c
theorem ViewLe.refl (R : View) : ViewLe R R := fun _ _ h => h
theorem ViewLe.trans {R R' R'' : View} (h : ViewLe R R') (k : ViewLe R' R'') : ViewLe R R'' := fun b c x => k b c (h b c x)
def LocsLe (L L' : Locs) (ok : Nat → Prop) : Prop := ∀ o l,ok o → L o = some l → ∃ l',L' o = some l' ∧ LocLe l l'
theorem LocsLe.refl (L : Locs) (ok : Nat → Prop) : LocsLe L L ok := fun _ l _ h => ⟨l,h,LocLe.refl l⟩
theorem LocsLe.trans {L L' L'' : Locs} {ok : Nat → Prop} (h : LocsLe L L' ok) (k : LocsLe L' L'' ok) : LocsLe L L'' ok := fun o l ho hl => by
 obtain ⟨l1,h1,h2⟩ := h o l ho hl
 obtain ⟨l2,k1,k2⟩ := k o l1 ho h1
 exact ⟨l2,k1,h2.trans k2⟩
theorem LocsLe.mono {L L' : Locs} {ok ok' : Nat → Prop} (h : LocsLe L L' ok) (hk : ∀ o,ok' o → ok o) : LocsLe L L' ok' := fun o l ho hl => h o l (hk o ho) hl
theorem RowAt.mono {R R' : View} {A : Option Addr} {vals : List Value} (hR : ViewLe R R') (h : RowAt R A vals) : RowAt R' A vals := by
 rcases h with h | ⟨b,off,cs,hA,hb,hc⟩
 ·exact .inl h
 ·exact .inr ⟨b,off,cs,hA,hR b cs hb,hc⟩
theorem FlatAt.mono {R R' : View} {p : Pay} {v : Value} (hR : ViewLe R R') (h : FlatAt R p v) : FlatAt R' p v := by
 obtain ⟨A,c,h1,h2,h3⟩ := h
 exact ⟨A,c,h1,h2,h3.mono hR⟩
theorem ListAt.mono {R R' : View} {p : Pay} {v : Value} (hR : ViewLe R R') (h : ListAt R p v) : ListAt R' p v := by
 unfold ListAt at *
 split
 ·rename_i hs
  rw [hs] at h
  exact h.mono hR
 ·rename_i ps hs
  rw [hs] at h
  obtain ⟨A,c,vs,h1,h2,h3,h4,h5⟩ := h
  exact ⟨A,c,vs,h1,h2,h3.mono hR,h4,fun j q u hq hu => (h5 j q u hq hu).mono hR⟩
theorem ArrV.mono {L L' : Locs} {o ver : Nat} {v : Value} {K K' : (rv sz szi : Nat) → (hdr : Value) → (inn : List Value) → Prop}
  (hL : ∀ l,L o = some l → ∃ l',L' o = some l' ∧ LocLe l l')
  (hK : ∀ rv sz szi hdr inn rv' inn',rv ≤ rv' → (rv = rv' → inn = inn') → K rv sz szi hdr inn → K' rv' sz szi hdr inn') (h : ArrV L o ver v K) : ArrV L' o ver v K' := by
 obtain ⟨h0,ver',rv,sz,szi,hdr,inn,h1,h2,h3⟩ := h
 obtain ⟨l',k1,k2⟩ := hL _ h1
 cases l' with
 | box b => simp [LocLe] at k2
 | arr ver2 rv2 sz2 szi2 hdr2 inn2 =>
  simp only [LocLe] at k2
  refine ⟨h0,ver2,rv2,sz2,szi2,hdr2,inn2,k1,by omega,fun e => ?_⟩
  obtain ⟨rfl,rfl,rfl,k5,k6⟩ := k2.2 (by omega)
  exact hK _ _ _ _ _ _ _ k5 k6 (h3 (by omega))
mutual
theorem RelV.mono {R R' : View} {L L' : Locs} (hR : ViewLe R R') : ∀ (a : AV) (v : Value),LocsLe L L' (fun o => a.free o = false) → RelV R L a v → RelV R' L' a v
 | .dead,_,_,_ => by simp [RelV]
 | .undf,v,_,h => by simpa [RelV] using h
 | .anyb _,v,_,h => by simpa [RelV] using h
 | .lst x p,v,_,h => by
  simp only [RelV] at h ⊢
  exact ⟨h.1,h.2.mono hR⟩
 | .int k n,v,_,h => by simpa [RelV] using h
 | .bool b,v,_,h => by simpa [RelV] using h
 | .blit b,v,_,h => by simpa [RelV] using h
 | .str l,v,_,h => by simpa [RelV] using h
 | .nilp,v,_,h => by simpa [RelV] using h
 | .nil p,v,_,h => by simpa [RelV] using h
 | .agg cs,v,hL,h => by
  simp only [RelV] at h ⊢
  obtain ⟨vs,h1,h2,h3⟩ := h
  exact ⟨vs,h1,RelVs.mono hR cs _ (hL.mono fun o ho => by simpa [AV.free] using ho) h2,h3⟩
 | .tuple cs,v,hL,h => by
  simp only [RelV] at h ⊢
  obtain ⟨vs,h1,h2⟩ := h
  exact ⟨vs,h1,RelVs.mono hR cs _ (hL.mono fun o ho => by simpa [AV.free] using ho) h2⟩
 | .ptr o i,v,hL,h => by
  simp only [RelV] at h ⊢
  obtain ⟨b,h1,h2⟩ := h
  obtain ⟨l',k1,k2⟩ := hL o _ (by simp [AV.free]) h1
  cases l' with
  | box b' => simp only [LocLe] at k2; subst k2; exact ⟨b,k1,h2⟩
  | arr => simp [LocLe] at k2
 | .sl o ver,v,hL,h => by
  simp only [RelV] at h ⊢
  exact h.mono (fun l hl => hL o l (by simp [AV.free]) hl) (fun _ _ _ _ _ _ _ _ _ k => k)
 | .slp o ver off len,v,hL,h => by
  simp only [RelV] at h ⊢
  exact h.mono (fun l hl => hL o l (by simp [AV.free]) hl) (fun _ _ _ _ _ _ _ _ _ k => k)
 | .sub o ver rv k,v,hL,h => by
  simp only [RelV] at h ⊢
  exact h.mono (fun l hl => hL o l (by simp [AV.free]) hl) (fun _ _ _ _ _ _ _ h1 h2 k => by
   obtain ⟨k1,k2⟩ := k
   refine ⟨by omega,fun e => ?_⟩
   rw [← h2 (by omega)]
   exact k2 (by omega))
 | .eptr o ver e fo,v,hL,h => by
  simp only [RelV] at h ⊢
  exact h.mono (fun l hl => hL o l (by simp [AV.free]) hl) (fun _ _ _ _ _ _ _ _ _ k => k)
 | .selt o ver rv k e fo,v,hL,h => by
  simp only [RelV] at h ⊢
  exact h.mono (fun l hl => hL o l (by simp [AV.free]) hl) (fun _ _ _ _ _ _ _ h1 h2 k => by
   obtain ⟨k1,k2⟩ := k
   refine ⟨by omega,fun e => ?_⟩
   rw [← h2 (by omega)]
   exact k2 (by omega))
 | .subp o ver rv k off len,v,hL,h => by
  simp only [RelV] at h ⊢
  exact h.mono (fun l hl => hL o l (by simp [AV.free]) hl) (fun _ _ _ _ _ _ _ h1 h2 k => by
   obtain ⟨k1,k2⟩ := k
   refine ⟨by omega,fun e => ?_⟩
   rw [← h2 (by omega)]
   exact k2 (by omega))
 | .list p,v,_,h => by
  simp only [RelV] at h ⊢
  exact h.mono hR
 | .pelt p e fo,v,_,h => by
  simp only [RelV] at h ⊢
  obtain ⟨hdr,h1,h2⟩ := h
  exact ⟨hdr,h1.mono hR,h2⟩
 | .pbox cs i,v,hL,h => by
  simp only [RelV] at h ⊢
  obtain ⟨b,vs,h1,h2,h3,h4⟩ := h
  exact ⟨b,vs,hR b vs h1,RelVs.mono hR cs _ (hL.mono fun o ho => by simpa [AV.free] using ho) h2,h3,h4⟩
 | .func f a b,v,hL,h => by
  simp only [RelV] at h ⊢
  obtain ⟨x,y,h1,h2,h3⟩ := h
  exact ⟨x,y,h1,RelVs.mono hR a _ (hL.mono fun o ho => by simp [AV.free,ho]) h2,RelVs.mono hR b _ (hL.mono fun o ho => by simp [AV.free,ho]) h3⟩
theorem RelVs.mono {R R' : View} {L L' : Locs} (hR : ViewLe R R') : ∀ (as : List AV) (vs : List Value),LocsLe L L' (fun o => AV.free.go o as = false) → RelVs R L as vs → RelVs R' L' as vs
 | [],[],_,_ => by simp [RelVs]
 | [],_ :: _,_,h => by simp [RelVs] at h
 | _ :: _,[],_,h => by simp [RelVs] at h
 | a :: as,v :: vs,hL,h => by
  simp only [RelVs] at h ⊢
  exact ⟨RelV.mono hR a v (hL.mono fun o ho => by simp [AV.free.go,ho]) h.1,RelVs.mono hR as vs (hL.mono fun o ho => by simp [AV.free.go,ho]) h.2⟩
end
theorem RelVs.length {R : View} {L : Locs} : ∀ {as : List AV} {vs : List Value},RelVs R L as vs → as.length = vs.length
 | [],[],_ => rfl
 | [],_ :: _,h => by simp [RelVs] at h
 | _ :: _,[],h => by simp [RelVs] at h
 | a :: as,v :: vs,h => by simp only [RelVs] at h; simp [RelVs.length h.2]
theorem RelVs.get {R : View} {L : Locs} : ∀ {as : List AV} {vs : List Value} (_ : RelVs R L as vs) (i : Nat) (a : AV) (v : Value),as[i]? = some a → vs[i]? = some v → RelV R L a v
 | [],[],_,i,a,v,ha,_ => by simp at ha
 | [],_ :: _,h,_,_,_,_,_ => by simp [RelVs] at h
 | _ :: _,[],h,_,_,_,_,_ => by simp [RelVs] at h
 | x :: as,y :: vs,h,0,a,v,ha,hv => by
  simp only [RelVs] at h
  simp at ha hv
  subst ha hv
  exact h.1
 | x :: as,y :: vs,h,i + 1,a,v,ha,hv => by
  simp only [RelVs] at h
  exact RelVs.get h.2 i a v (by simpa using ha) (by simpa using hv)
theorem RelVs.of_get {R : View} {L : Locs} : ∀ {as : List AV} {vs : List Value},as.length = vs.length → (∀ (i : Nat) (a : AV) (v : Value),as[i]? = some a → vs[i]? = some v → RelV R L a v) → RelVs R L as vs
 | [],[],_,_ => by simp [RelVs]
 | [],_ :: _,h,_ => by simp at h
 | _ :: _,[],h,_ => by simp at h
 | x :: as,y :: vs,h,k => by
  simp only [RelVs]
  exact ⟨k 0 x y rfl rfl,RelVs.of_get (by simpa using h) fun i a v ha hv => k (i + 1) a v (by simpa using ha) (by simpa using hv)⟩
theorem RelVs.append {R : View} {L : Locs} {as bs : List AV} {vs us : List Value} (h : RelVs R L as vs) (k : RelVs R L bs us) : RelVs R L (as ++ bs) (vs ++ us) := by
 induction as generalizing vs with
 | nil => cases vs with
  | nil => simpa using k
  | cons => simp [RelVs] at h
 | cons a as ih => cases vs with
  | nil => simp [RelVs] at h
  | cons v vs => simp only [RelVs] at h; simp only [List.cons_append,RelVs]; exact ⟨h.1,ih h.2⟩
theorem RelVs.drop {R : View} {L : Locs} {as : List AV} {vs : List Value} (h : RelVs R L as vs) (n : Nat) : RelVs R L (as.drop n) (vs.drop n) :=
 RelVs.of_get (by simp [h.length]) fun i a v ha hv => h.get (n + i) a v (by simpa using ha) (by simpa using hv)
theorem RelVs.take {R : View} {L : Locs} {as : List AV} {vs : List Value} (h : RelVs R L as vs) (n : Nat) : RelVs R L (as.take n) (vs.take n) :=
 RelVs.of_get (by simp [h.length]) fun i a v ha hv => by
  rw [List.getElem?_take] at ha hv
  split at ha
  ·rename_i hi; rw [if_pos hi] at hv; exact h.get i a v ha hv
  ·cases ha
theorem RelVs.set {R : View} {L : Locs} {as : List AV} {vs : List Value} (h : RelVs R L as vs) (n : Nat) {a : AV} {v : Value} (ha : RelV R L a v) : RelVs R L (as.set n a) (vs.set n v) :=
 RelVs.of_get (by simp [h.length]) fun i a' v' hi hv => by
  rw [List.getElem?_set] at hi hv
  have hl := h.length
  by_cases e : n = i
  ·subst e
   simp only [if_true] at hi hv
   split at hi
   ·rename_i hlt
    rw [if_pos (by omega)] at hv
    cases hi; cases hv; exact ha
   ·cases hi
  ·rw [if_neg e] at hi hv
   exact h.get i a' v' hi hv
end Go.AM
namespace Go.AM
theorem viewStore_drawn {p : Program} {w w' : World} {at_ : Addr} {u : TypeId} {k : Addr} {v : Value} {at' : Bool} {l : List Addr} (h : w.viewStore p at_ u k v at' = .ok (w',l)) : w'.drawn = w.drawn := by
 unfold World.viewStore at h
 simp only [bind,Except.bind,pure,Except.pure] at h
 repeat' split at h
 all_goals first
  | (cases h; rfl)
  | cases h
theorem farStore_drawn {p : Program} {w w' : World} {a : Addr} {v : Value} {at' : Bool} {l : List Addr} (h : w.farStore p a v at' = .ok (w',l)) : w'.drawn = w.drawn := by
 unfold World.farStore at h
 split at h
 ·split at h
  ·rename_i r hr
   cases h
   exact viewStore_drawn hr
  ·cases h
 ·cases h
theorem ask_drawn {α : Type} : ∀ (s : Ask α) (w : World),w.drawn ≤ (w.ask s).2.drawn
 | .done a,w => Nat.le_refl _
 | .ask what range k,w => by
  unfold World.ask
  simp only
  split
  ·exact ask_drawn _ w
  ·exact Nat.le_trans (Nat.le_succ _) (ask_drawn _ { w with drawn := w.drawn + 1 })
theorem sys_drawn (w : World) (c : Sys) : w.drawn ≤ (w.sys c).2.drawn := by
 unfold World.sys
 have h := ask_drawn (Kernel.perform c w.os) w
 split
 ·exact Nat.le_refl _
 ·rename_i r os w' he hw
  rw [hw] at h
  exact h
theorem run_drawn {α : Type} {p : Program} : ∀ (s : Sem α) (w : World) (a : α) (w' : World),s.run p w = .ok a w' → w.drawn ≤ w'.drawn := by
 intro s
 induction s with
 | pure a => intro w a' w' h; simp only [Sem.run] at h; cases h; exact Nat.le_refl _
 | load m a k ih =>
  intro w a' w' h
  simp only [Sem.run] at h
  split at h
  ·exact ih _ _ _ _ h
  ·split at h
   ·exact ih _ _ _ _ h
   ·cases h
 | store m a v k ih =>
  intro w a' w' h
  have key : (match w.cell? a with
   | some _ => if w.frozen? a then Result.halt (.unsupported (.unsafePointer "a write to bytes that a string shares")) w else k.run p (w.setCell a v)
   | none => match w.farStore p a v (m == Mode.atomic) with
    | .ok (w,_) => k.run p w
    | .error h => .halt h w) = .ok a' w' → w.drawn ≤ w'.drawn := by
   intro h
   split at h
   ·split at h
    ·cases h
    ·exact (show (w.setCell a v).drawn ≤ w'.drawn from ih _ _ _ h)
   ·split at h
    ·rename_i w2 l hf
     rw [← farStore_drawn hf]
     exact ih _ _ _ h
    ·cases h
  cases v <;> simp only [Sem.run] at h <;> first | exact key h | cases h
 | new o k ih => intro w a' w' h; simp only [Sem.run] at h; exact (show ({ w with heap := w.heap.push o } : World).drawn ≤ w'.drawn from ih _ _ _ _ h)
 | shape r k ih => intro w a' w' h; simp only [Sem.run] at h; exact ih _ _ _ _ h
 | freeze a n k ih =>
  intro w a' w' h
  simp only [Sem.run] at h
  have h1 := ih _ _ _ h
  have h2 : (w.freeze a n).drawn = w.drawn := by unfold World.freeze; split <;> rfl
  rwa [h2] at h1
 | frozen a k ih => intro w a' w' h; simp only [Sem.run] at h; exact ih _ _ _ _ h
 | getObj r k ih =>
  intro w a' w' h
  simp only [Sem.run] at h
  split at h
  ·cases h
  ·exact ih _ _ _ _ h
  ·cases h
 | setObj r o k ih =>
  intro w a' w' h
  simp only [Sem.run] at h
  split at h
  ·cases h
  ·exact (show ({ w with heap := w.heap.setIfInBounds r o } : World).drawn ≤ w'.drawn from ih _ _ _ h)
  ·cases h
 | choose q k ih =>
  intro w a' w' h
  simp only [Sem.run] at h
  split at h
  ·exact ih _ _ _ _ h
  ·exact Nat.le_trans (Nat.le_succ _) (show ({ w with drawn := w.drawn + 1 } : World).drawn ≤ w'.drawn from ih _ _ _ _ h)
 | sys c k ih => intro w a' w' h; simp only [Sem.run] at h; exact Nat.le_trans (sys_drawn w c) (ih _ _ _ _ h)
 | program k ih => intro w a' w' h; simp only [Sem.run] at h; exact ih _ _ _ _ h
 | mark m k ih => intro w a' w' h; simp only [Sem.run] at h; exact ih _ _ _ h
 | halt h' => intro w a' w' h; simp only [Sem.run] at h; cases h
end Go.AM
namespace Go.AM
open Classical
def Owned (ob : List (Nat × AObj)) (fp : Nat → List Nat) (b : Nat) : Prop := ∃ o,(getO ob o).isSome = true ∧ b ∈ fp o
noncomputable def view (w : World) (F : Nat → Prop) : View := fun b => if F b then none else match w.heap[b]? with
 | some (.cells c _ _) => some c
 | _ => none
theorem view_some {w : World} {F : Nat → Prop} {b : Nat} {c : Array Value} (h : view w F b = some c) : ¬ F b ∧ ∃ t fr,w.heap[b]? = some (.cells c t fr) := by
 unfold view at h
 split at h
 ·cases h
 ·rename_i hF
  refine ⟨hF,?_⟩
  split at h
  ·rename_i c' t fr hh
   cases h
   exact ⟨t,fr,hh⟩
  ·cases h
theorem view_of {w : World} {F : Nat → Prop} {b : Nat} {c : Array Value} {t : TypeId} {fr : Nat × Nat} (hF : ¬ F b) (hh : w.heap[b]? = some (.cells c t fr)) : view w F b = some c := by
 unfold view
 rw [if_neg hF,hh]
theorem heap_lt {w : World} {b : Nat} {x : Obj} (h : w.heap[b]? = some x) : b < w.heap.size := (Array.getElem?_eq_some_iff.1 h).1
def OwnAt (w : World) (e : TypeId) (p : Pay) (hdr : Value) (inn : List Value) (f : List Nat) : Prop :=
 match p.subs with
 | none => inn = [] ∧ w.ownsRow 0 e p.size hdr p.len p.vals ∧ f = hdr.ownBlock.toList
 | some ps => w.ownsRow 0 e 1 hdr p.len inn ∧ inn.length = ps.length ∧ ∃ fps : List (List Nat),fps.length = ps.length ∧
   (∀ (k : Nat) (q : Pay) (u : Value) (g : List Nat),ps[k]? = some q → inn[k]? = some u → fps[k]? = some g → (∃ e',w.ownsRow 0 e' q.size u q.len q.vals) ∧ g = u.ownBlock.toList) ∧
   f = hdr.ownBlock.toList ++ fps.flatten
noncomputable def inB (w : World) (f : List Nat) : View := fun b => if b ∈ f then (match w.heap[b]? with
 | some (.cells c _ _) => some c
 | _ => none) else none
theorem inB_some {w : World} {f : List Nat} {b : Nat} {c : Array Value} (h : inB w f b = some c) : b ∈ f ∧ ∃ t fr,w.heap[b]? = some (.cells c t fr) := by
 unfold inB at h
 split at h
 ·rename_i hF
  refine ⟨hF,?_⟩
  split at h
  ·rename_i c' t fr hh
   cases h
   exact ⟨t,fr,hh⟩
  ·cases h
 ·cases h
theorem inB_of {w : World} {f : List Nat} {b : Nat} {c : Array Value} {t : TypeId} {fr : Nat × Nat} (hF : b ∈ f) (hh : w.heap[b]? = some (.cells c t fr)) : inB w f b = some c := by
 unfold inB
 rw [if_pos hF,hh]
def HolAt (w : World) (e : TypeId) (p : Pay) (k : Nat) (hdr : Value) (inn : List Value) (f : List Nat) : Prop :=
 (e ≠ 0 ∧ ∃ ps u0,p.subs = some ps ∧ k < inn.length ∧ w.ownsRow 0 e 1 hdr p.len (inn.set k u0) ∧ inn.length = ps.length ∧ ∃ fps : List (List Nat),fps.length = ps.length ∧
  (∀ (j : Nat) (q : Pay) (u : Value) (g : List Nat),ps[j]? = some q → inn[j]? = some u → fps[j]? = some g → (∃ e',w.ownsRow 0 e' q.size u q.len q.vals) ∧ g = u.ownBlock.toList) ∧
  f = hdr.ownBlock.toList ++ fps.flatten) ∨ (e = 0 ∧ ListAt (inB w f) p hdr)
def ObjRel (R : View) (L : Locs) (w : World) : AObj → Loc → List Nat → Prop
 | .box cs,l,f => ∃ b t vs,l = .box b ∧ f = [b] ∧ w.heap[b]? = some (.cells vs t (0,0)) ∧ RelVs R L cs vs.toList ∧ ∀ u ∈ vs.toList,u.oneCell' = true
 | .arr e ver rv p,l,f => ∃ hdr inn,l = .arr ver rv p.size p.sizei hdr inn ∧ OwnAt w e p hdr inn f
 | .hol e ver rv p k,l,f => ∃ hdr inn,l = .arr ver rv p.size p.sizei hdr inn ∧ HolAt w e p k hdr inn f
structure Owns (w : World) (ob : List (Nat × AObj)) (L : Locs) (fp : Nat → List Nat) : Prop where
 obj : ∀ o x,getO ob o = some x → ∃ l,L o = some l ∧ ObjRel (view w (Owned ob fp)) L w x l (fp o)
 lt : ∀ o b,(getO ob o).isSome = true → b ∈ fp o → b < w.heap.size
 nodup : ∀ o,(getO ob o).isSome = true → (fp o).Nodup
 disj : ∀ o o' b,(getO ob o).isSome = true → (getO ob o').isSome = true → o ≠ o' → b ∈ fp o → b ∈ fp o' → False
structure Kept (w : World) (F : Nat → Prop) (w' : World) : Prop where
 os : w'.os = w.os
 tape : w'.tape = w.tape
 output : w'.output = w.output
 size : w.heap.size ≤ w'.heap.size
 block : ∀ b,b < w.heap.size → ¬ F b → w'.heap[b]? = w.heap[b]?
 drawn : w.drawn ≤ w'.drawn
theorem Kept.refl (w : World) (F : Nat → Prop) : Kept w F w := ⟨rfl,rfl,rfl,Nat.le_refl _,fun _ _ _ => rfl,Nat.le_refl _⟩
theorem Kept.trans {w w1 w2 : World} {F G : Nat → Prop} (h : Kept w F w1) (k : Kept w1 G w2) (hG : ∀ b,b < w.heap.size → G b → F b) : Kept w F w2 :=
 ⟨k.os.trans h.os,k.tape.trans h.tape,k.output.trans h.output,Nat.le_trans h.size k.size,fun b hb hF => by
  have h1 := h.block b hb hF
  have h2 := k.block b (Nat.lt_of_lt_of_le hb h.size) (fun hg => hF (hG b hb hg))
  exact h2.trans h1,Nat.le_trans h.drawn k.drawn⟩
theorem Kept.drew (w : World) (F : Nat → Prop) : Kept w F w.drew := ⟨rfl,rfl,rfl,Nat.le_refl _,fun _ _ _ => rfl,Nat.le_succ _⟩
def BoxLe (L L' : Locs) (ok : Nat → Prop) : Prop := ∀ o l,ok o → L o = some l → ∃ l',L' o = some l' ∧ LocLe l l'
theorem LocLe.box {b : Nat} {l : Loc} (h : LocLe (.box b) l) : l = .box b := by
 cases l <;> simp [LocLe] at h
 rw [h]
def Enters (P : Program) (f : FuncId) : Prop := ∃ fn,P.funcs[f]? = some fn ∧ (fn.name == "runtime.NumGoroutine") = false ∧ fn.body.isNone = false
def tabName : String := "internal/strconv.uint64pow10"
def TabAt (P : Program) (w : World) (F : Nat → Prop) : Prop := ∀ g,P.globalNamed tabName = some g → ¬ F g ∧ g < w.heap.size ∧ Lib.TabIs P w tabName .u64 Lib.pow10Tab
theorem TabAt.later {P : Program} {w w' : World} {F F' : Nat → Prop} (h : TabAt P w F) (hk : Kept w F w') (hF : ∀ b,F' b → F b ∨ w.heap.size ≤ b) : TabAt P w' F' := fun g hg => by
 obtain ⟨h1,h2,h3⟩ := h g hg
 refine ⟨fun hb => ?_,Nat.lt_of_lt_of_le h2 hk.size,?_⟩
 ·rcases hF g hb with h4 | h4
  ·exact h1 h4
  ·omega
 ·unfold Lib.TabIs World.var? at *
  rw [hg,Option.bind_some] at h3 ⊢
  rw [hk.block g h2 h1]
  exact h3
theorem TabAt.sub {P : Program} {w : World} {F F' : Nat → Prop} (h : TabAt P w F) (hF : ∀ b,F' b → F b) : TabAt P w F' := h.later (Kept.refl _ _) fun b hb => .inl (hF b hb)
theorem no_tab {P : Program} {w : World} {F : Nat → Prop} (h : P.globalNamed tabName = none) : TabAt P w F := fun g hg => by rw [h] at hg; cases hg
structure L0Ok (P : Program) (w0 : World) (F0 : Nat → Prop) (L0 : Locs) : Prop where
 ge : ∀ o l,L0 o = some l → 2000 ≤ o
 tab : TabAt P w0 F0
def Spec (P : Program) (f : FuncId) (args : List AV) (io : List (Nat × AObj)) (ret : AV) (io' : List (Nat × AObj)) : Prop :=
 Enters P f ∧ ∀ (w : World) (vs : Array Value) (L : Locs) (fp : Nat → List Nat),TabAt P w (Owned io fp) → Owns w io L fp → RelVs (view w (Owned io fp)) L args vs.toList →
  Calls P f vs w fun e w' => ∃ v L' fp',e = .returned v ∧ Kept w (Owned io fp) w' ∧ Owns w' io' L' fp' ∧ (∀ b,Owned io' fp' b → Owned io fp b ∨ w.heap.size ≤ b) ∧
   BoxLe L L' (fun o => (getO io o).isSome = true) ∧ RelV (view w' (Owned io' fp')) L' ret v
structure StW (w0 : World) (F0 : Nat → Prop) (L0 : Locs) (nt : Nat) (σ : ASt) (a : Act) (w : World) (L : Locs) (fp : Nat → List Nat) : Prop where
 owns : Owns w σ.ob L fp
 kept : Kept w0 F0 w
 fresh : ∀ b,Owned σ.ob fp b → F0 b ∨ w0.heap.size ≤ b
 slots : ∀ i,RelV (view w (Owned σ.ob fp)) L (getS σ.sl i) (a.tmps.getD i undef)
 defers : a.defers = []
 size : a.tmps.size = nt
 le : BoxLe L0 L (fun _ => True)
def St (w0 : World) (F0 : Nat → Prop) (L0 : Locs) (nt : Nat) (σ : ASt) (a : Act) (w : World) : Prop := ∃ (L : Locs) (fp : Nat → List Nat),StW w0 F0 L0 nt σ a w L fp
theorem view_change {w w' : World} {ob ob' : List (Nat × AObj)} {fp fp' : Nat → List Nat}
  (hheap : ∀ b,b < w.heap.size → ¬ Owned ob fp b → w'.heap[b]? = w.heap[b]?)
  (hown : ∀ b,Owned ob' fp' b → Owned ob fp b ∨ w.heap.size ≤ b) : ViewLe (view w (Owned ob fp)) (view w' (Owned ob' fp')) := by
 intro b c h
 obtain ⟨hF,t,fr,hh⟩ := view_some h
 have hlt := heap_lt hh
 refine view_of (t := t) (fr := fr) (fun h' => ?_) ((hheap b hlt hF).trans hh)
 rcases hown b h' with h1 | h1
 ·exact hF h1
 ·omega
theorem ownsRow_heap {w w' : World} {base : Nat} {e : TypeId} {size n : Nat} {v : Value} {xs : List Value} (h : w.ownsRow base e size v n xs)
  (hk : ∀ b,v.ownBlock = some b → w'.heap[b]? = w.heap[b]?) : w'.ownsRow base e size v n xs := by
 refine ⟨h.1,?_⟩
 rcases h.2 with h2 | ⟨g,cap,cur,rfl,hb,hg,r⟩
 ·exact .inl h2
 ·exact .inr ⟨g,cap,cur,rfl,hb,(hk g rfl).trans hg,r⟩
theorem OwnAt.heap {w w' : World} {e : TypeId} {p : Pay} {hdr : Value} {inn : List Value} {f : List Nat} (h : OwnAt w e p hdr inn f) (hk : ∀ b ∈ f,w'.heap[b]? = w.heap[b]?) :
  OwnAt w' e p hdr inn f := by
 unfold OwnAt at *
 split
 ·rename_i hs
  rw [hs] at h
  obtain ⟨h1,h2,h3⟩ := h
  exact ⟨h1,ownsRow_heap h2 fun b hb => hk b (by rw [h3,hb]; simp),h3⟩
 ·rename_i ps hs
  rw [hs] at h
  obtain ⟨h1,h2,fps,h3,h4,h5⟩ := h
  refine ⟨ownsRow_heap h1 fun b hb => hk b (by rw [h5,hb]; simp),h2,fps,h3,fun k q u g hq hu hg => ?_,h5⟩
  obtain ⟨⟨e',h6⟩,h7⟩ := h4 k q u g hq hu hg
  exact ⟨⟨e',ownsRow_heap h6 fun b hb => hk b (by
   rw [h5]
   refine List.mem_append_right _ (List.mem_flatten.2 ⟨g,List.mem_of_getElem? hg,?_⟩)
   rw [h7,hb]; simp)⟩,h7⟩
theorem freeO_get {ob : List (Nat × AObj)} {d o : Nat} {cs : List AV} (h : freeO d ob = true) (hg : getO ob o = some (.box cs)) : AV.free.go d cs = true := by
 induction ob with
 | nil => simp [getO] at hg
 | cons x r ih =>
  obtain ⟨j,y⟩ := x
  simp only [getO] at hg
  cases y with
  | box cs' =>
   simp only [freeO,Bool.and_eq_true] at h
   split at hg
   ·cases hg; exact h.1
   ·exact ih h.2 hg
  | arr e v rv p =>
   simp only [freeO] at h
   split at hg
   ·cases hg
   ·exact ih h hg
  | hol e v rv p k =>
   simp only [freeO] at h
   split at hg
   ·cases hg
   ·exact ih h hg
theorem HolAt.heap {w w' : World} {e : TypeId} {p : Pay} {k : Nat} {hdr : Value} {inn : List Value} {f : List Nat} (h : HolAt w e p k hdr inn f) (hk : ∀ b ∈ f,w'.heap[b]? = w.heap[b]?) :
  HolAt w' e p k hdr inn f := by
 rcases h with ⟨he,ps,u0,h1,hk0,h2,h3,fps,h4,h6,h7⟩ | ⟨he,h⟩
 case inr =>
  refine .inr ⟨he,h.mono fun b c hb => ?_⟩
  obtain ⟨hm,t,fr,hh⟩ := inB_some hb
  exact inB_of hm ((hk b hm).trans hh)
 subst h7
 refine .inl ⟨he,ps,u0,h1,hk0,ownsRow_heap h2 fun b hb => hk b (List.mem_append_left _ (by rw [hb]; simp)),h3,fps,h4,fun j q u g hq hu hg => ?_,rfl⟩
 obtain ⟨⟨e',g1⟩,g2⟩ := h6 j q u g hq hu hg
 refine ⟨⟨e',ownsRow_heap g1 fun b hb => hk b (List.mem_append_right _ (List.mem_flatten.2 ⟨g,List.mem_of_getElem? hg,?_⟩))⟩,g2⟩
 rw [g2,hb]; simp
theorem ObjRel.keep {R R' : View} {L L' : Locs} {w w' : World} {x : AObj} {l : Loc} {f : List Nat} (hR : ViewLe R R')
  (hL : ∀ cs,x = .box cs → LocsLe L L' (fun o => AV.free.go o cs = false)) (hk : ∀ b ∈ f,w'.heap[b]? = w.heap[b]?) (h : ObjRel R L w x l f) : ObjRel R' L' w' x l f := by
 cases x with
 | box cs =>
  obtain ⟨b,t,vs,h1,h2,h3,h4,h5⟩ := h
  exact ⟨b,t,vs,h1,h2,(hk b (by rw [h2]; simp)).trans h3,h4.mono hR _ _ (hL cs rfl),h5⟩
 | arr e ver rv p =>
  obtain ⟨hdr,inn,h1,h2⟩ := h
  exact ⟨hdr,inn,h1,h2.heap hk⟩
 | hol e ver rv p k =>
  obtain ⟨hdr,inn,h1,h2⟩ := h
  exact ⟨hdr,inn,h1,h2.heap hk⟩
theorem Owns.change {w w' : World} {ob ob' : List (Nat × AObj)} {L L' : Locs} {fp fp' : Nat → List Nat} (D : Nat → Prop) (h : Owns w ob L fp)
  (hsize : w.heap.size ≤ w'.heap.size)
  (hob : ∀ o,¬ D o → getO ob' o = getO ob o) (hfp : ∀ o,¬ D o → fp' o = fp o) (hL : ∀ o,¬ D o → L' o = L o)
  (hLD : ∀ o,D o → (∀ o' cs,¬ D o' → getO ob o' = some (.box cs) → AV.free.go o cs = true) ∨ ∀ l,L o = some l → ∃ l',L' o = some l' ∧ LocLe l l')
  (hheap : ∀ b,b < w.heap.size → (∀ o,D o → (getO ob o).isSome = true → b ∉ fp o) → w'.heap[b]? = w.heap[b]?)
  (hblk : ∀ o b,D o → (getO ob' o).isSome = true → b ∈ fp' o → b < w'.heap.size ∧ (w.heap.size ≤ b ∨ ∃ o',D o' ∧ (getO ob o').isSome = true ∧ b ∈ fp o'))
  (hnew : ViewLe (view w (Owned ob fp)) (view w' (Owned ob' fp')) → ∀ o x,D o → getO ob' o = some x → ∃ l,L' o = some l ∧ ObjRel (view w' (Owned ob' fp')) L' w' x l (fp' o))
  (hnd : ∀ o,D o → (getO ob' o).isSome = true → (fp' o).Nodup)
  (hdisj : ∀ o o' b,D o → D o' → o ≠ o' → (getO ob' o).isSome = true → (getO ob' o').isSome = true → b ∈ fp' o → b ∈ fp' o' → False) :
  Owns w' ob' L' fp' ∧ ViewLe (view w (Owned ob fp)) (view w' (Owned ob' fp')) ∧ (∀ b,Owned ob' fp' b → Owned ob fp b ∨ w.heap.size ≤ b) := by
 have hown : ∀ b,Owned ob' fp' b → Owned ob fp b ∨ w.heap.size ≤ b := by
  rintro b ⟨o,ho,hb⟩
  by_cases hD : D o
  ·rcases (hblk o b hD ho hb).2 with h1 | ⟨o',_,h2,h3⟩
   ·exact .inr h1
   ·exact .inl ⟨o',h2,h3⟩
  ·rw [hob o hD] at ho
   rw [hfp o hD] at hb
   exact .inl ⟨o,ho,hb⟩
 have hv : ViewLe (view w (Owned ob fp)) (view w' (Owned ob' fp')) :=
  view_change (fun b hb hF => hheap b hb fun o _ ho hm => hF ⟨o,ho,hm⟩) hown
 refine ⟨⟨fun o x hx => ?_,fun o b ho hb => ?_,fun o ho => ?_,fun o o' b ho ho' hne hb hb' => ?_⟩,hv,hown⟩
 ·by_cases hD : D o
  ·exact hnew hv o x hD hx
  ·rw [hob o hD] at hx
   obtain ⟨l,h1,h2⟩ := h.obj o x hx
   refine ⟨l,(hL o hD).trans h1,?_⟩
   rw [hfp o hD]
   refine h2.keep hv (fun cs hcs => ?_) (fun b hb => hheap b (h.lt o b (by rw [hx]; rfl) hb) fun o' hD' ho' hb' => ?_)
   ·subst hcs
    intro o' l' hm hl'
    by_cases hD' : D o'
    ·rcases hLD o' hD' with hf | hk
     ·have := hf o cs hD hx
      rw [this] at hm
      cases hm
     ·exact hk l' hl'
    ·exact ⟨l',(hL o' hD').trans hl',LocLe.refl _⟩
   ·exact h.disj o o' b (by rw [hx]; rfl) ho' (fun e => hD (e ▸ hD')) hb hb'
 ·by_cases hD : D o
  ·exact (hblk o b hD ho hb).1
  ·rw [hob o hD] at ho
   rw [hfp o hD] at hb
   exact Nat.lt_of_lt_of_le (h.lt o b ho hb) hsize
 ·by_cases hD : D o
  ·exact hnd o hD ho
  ·rw [hob o hD] at ho
   rw [hfp o hD]
   exact h.nodup o ho
 ·by_cases hD : D o <;> by_cases hD' : D o'
  ·exact hdisj o o' b hD hD' hne ho ho' hb hb'
  ·rw [hob o' hD'] at ho'
   rw [hfp o' hD'] at hb'
   rcases (hblk o b hD ho hb).2 with h1 | ⟨o2,h2,h3,h4⟩
   ·have := h.lt o' b ho' hb'; omega
   ·exact h.disj o2 o' b h3 ho' (fun e => hD' (e ▸ h2)) h4 hb'
  ·rw [hob o hD] at ho
   rw [hfp o hD] at hb
   rcases (hblk o' b hD' ho' hb').2 with h1 | ⟨o2,h2,h3,h4⟩
   ·have := h.lt o b ho hb; omega
   ·exact h.disj o2 o b h3 ho (fun e => hD (e ▸ h2)) h4 hb
  ·rw [hob o hD] at ho
   rw [hob o' hD'] at ho'
   rw [hfp o hD] at hb
   rw [hfp o' hD'] at hb'
   exact h.disj o o' b ho ho' hne hb hb'
end Go.AM
namespace Go.AM
def zeroB : List AV → List Value → Bool
 | [],[] => true
 | .int k n :: as,.int k' n' :: vs => decide (k = k') && decide (n = n') && zeroB as vs
 | .bool b :: as,.bool b' :: vs => (b == b') && zeroB as vs
 | .str [] :: as,.string s :: vs => (s.data.toList.isEmpty) && zeroB as vs
 | .nil p :: as,.slice none 0 0 :: vs => (p.len == 0) && zeroB as vs
 | .nilp :: as,.pointer none :: vs => zeroB as vs
 | .dead :: as,.nilFunc :: vs => zeroB as vs
 | _,_ => false
def placesB (P : Program) : List (Nat × Nat) → List Field → Bool
 | [],[] => true
 | (off,ft) :: r,f :: fs => decide (f.offset = off) && decide (f.type = ft) && (match P.info? f.type with | some i => decide (0 < i.size) | none => false) && placesB P r fs
 | _,_ => false
def isI64 (P : Program) (t : TypeId) : Bool := match P.underlying t with
 | some (.int .i64) => true
 | _ => false
def ratB (P : Program) (t : TypeId) : Bool :=
 !(P.eqGuardType P.depth t) && !(P.stoodInHeld t) && (match P.underlying t with
  | some (.struct fs) => match fs.toList with
   | [f,g] => isI64 P f.type && isI64 P g.type && !(f.name == "_") && !(g.name == "_") && decide (f.offset = 0) && decide (g.offset = 1)
   | _ => false
  | _ => false)
def infosB (P : Program) : List Field → Bool
 | [] => true
 | f :: fs => (P.info? f.type).isSome && infosB P fs
def descB (P : Program) (t : TypeId) : Sh → Bool
 | .int k => match P.underlying t with
  | some (.int k') => decide (k = k')
  | _ => false
 | .bool => match P.underlying t with
  | some .bool => true
  | _ => false
 | .str => match P.underlying t with
  | some .string => true
  | _ => false
 | .ptr => match P.underlying t with
  | some (.pointer _) => true
  | _ => false
 | .func => match P.underlying t with
  | some (.func ..) => true
  | _ => false
 | .slice e p => (match P.underlying t with
  | some (.slice e') => decide (e = e')
  | _ => false) && (p.len == 0) && (match P.info? e with
   | some i => decide (i.size = p.size) && decide (i.bytes ≤ 64) && (match i.zero with
    | some z => decide (z.cells.size = p.size) && (match p,z,z.cells.toList with
     | .ints _,_,[.int .i64 0] => isI64 P e
     | .bytes _,_,[.int .u8 0] => (match P.underlying e with | some (.int .u8) => true | _ => false)
     | .rats _,_,[.int .i64 0,.int .i64 0] => ratB P e
     | .strs _,_,[.string s] => s.data.toList.isEmpty && (match P.underlying e with | some .string => true | _ => false)
     | .intss _,.slice none 0 0,_ => (match P.underlying e with | some (.slice _) => true | _ => false)
     | .ratss _,.slice none 0 0,_ => (match P.underlying e with | some (.slice _) => true | _ => false)
     | _,_,_ => false)
    | none => false)
   | none => false)
 | .struct fs _ rat => (match P.underlying t with
  | some (.struct gs) => placesB P fs gs.toList && infosB P gs.toList
  | _ => false) && (!rat || ratB P t)
def shB (P : Program) (t : TypeId) (s : Sh) : Bool :=
 descB P t s && (match P.info? t with
  | some i => decide (i.size = s.size) && (match i.zero with
   | some z => zeroB s.zero z.cells.toList && decide (z.cells.size = s.size) && (match s,z with
    | .struct ..,.agg _ => true
    | .struct ..,_ => false
    | _,_ => z.oneCell')
   | none => false)
  | none => false)
def tenvB (P : Program) : TEnv → Bool
 | [] => true
 | (t,s) :: r => shB P t s && tenvB P r
def TOk (P : Program) (T : TEnv) : Prop := ∀ t s,getT T t = some s → shB P t s = true
theorem tok_of {P : Program} : ∀ {T : TEnv},tenvB P T = true → TOk P T
 | [],_,t,s,h => by simp [getT] at h
 | (j,v) :: r,hb,t,s,h => by
  simp only [tenvB,Bool.and_eq_true] at hb
  simp only [getT] at h
  split at h
  ·rename_i e
   subst e
   cases h
   exact hb.1
  ·exact tok_of hb.2 t s h
section
variable {P : Program} {t : TypeId} {s : Sh}
theorem sh_info (h : shB P t s = true) : ∃ i z,P.info? t = some i ∧ i.size = s.size ∧ i.zero = some z ∧ zeroB s.zero z.cells.toList = true ∧ z.cells.size = s.size := by
 unfold shB at h
 simp only [Bool.and_eq_true] at h
 obtain ⟨_,h⟩ := h
 split at h
 ·rename_i i hi
  simp only [Bool.and_eq_true,decide_eq_true_eq] at h
  obtain ⟨h1,h2⟩ := h
  split at h2
  ·rename_i z hz
   simp only [Bool.and_eq_true,decide_eq_true_eq] at h2
   exact ⟨i,z,hi,h1,hz,h2.1.1,h2.1.2⟩
  ·cases h2
 ·cases h
theorem zeroB_rel {R : View} {L : Locs} : ∀ {as : List AV} {vs : List Value},zeroB as vs = true → RelVs R L as vs ∧ ∀ u ∈ vs,u.oneCell' = true := by
 intro as vs h
 fun_induction zeroB as vs with
 | case1 => simp [RelVs]
 | case2 k n as k' n' vs ih =>
  simp only [Bool.and_eq_true,decide_eq_true_eq] at h
  obtain ⟨⟨rfl,rfl⟩,h⟩ := h
  obtain ⟨h1,h2⟩ := ih h
  simp only [RelVs,RelV,true_and]
  exact ⟨h1,by simpa [Value.oneCell'] using h2⟩
 | case3 b as b' vs ih =>
  simp only [Bool.and_eq_true,beq_iff_eq] at h
  obtain ⟨rfl,h⟩ := h
  obtain ⟨h1,h2⟩ := ih h
  simp only [RelVs,RelV,true_and]
  exact ⟨h1,by simpa [Value.oneCell'] using h2⟩
 | case4 as s vs ih =>
  simp only [Bool.and_eq_true,List.isEmpty_iff] at h
  obtain ⟨h0,h⟩ := h
  obtain ⟨h1,h2⟩ := ih h
  simp only [RelVs,RelV]
  refine ⟨⟨?_,h1⟩,by simpa [Value.oneCell'] using h2⟩
  obtain ⟨⟨l⟩⟩ := s
  simp at h0
  subst h0
  rfl
 | case5 p as vs ih =>
  simp only [Bool.and_eq_true,beq_iff_eq] at h
  obtain ⟨h0,h⟩ := h
  obtain ⟨h1,h2⟩ := ih h
  simp only [RelVs,RelV]
  exact ⟨⟨⟨trivial,h0⟩,h1⟩,by simpa [Value.oneCell'] using h2⟩
 | case6 as vs ih =>
  obtain ⟨h1,h2⟩ := ih h
  simp only [RelVs,RelV]
  exact ⟨⟨trivial,h1⟩,by simpa [Value.oneCell'] using h2⟩
 | case7 as vs ih =>
  obtain ⟨h1,h2⟩ := ih h
  simp only [RelVs,RelV]
  exact ⟨⟨trivial,h1⟩,by simpa [Value.oneCell'] using h2⟩
 | case8 => cases h
theorem sh_isAgg (h : shB P t s = true) (w : World) : (isAgg t).run P w = .ok s.isSt w := by
 unfold shB at h
 simp only [Bool.and_eq_true] at h
 have hd := h.1
 unfold isAgg
 rw [Sem.run_bind]
 cases s <;> simp only [descB,Bool.and_eq_true] at hd <;> first
  | (split at hd <;> first | (rename_i hu; rw [run_underlying hu]; rfl) | (cases hd; done))
  | (have hd1 := hd.1; split at hd1 <;> first | (rename_i hu; rw [run_underlying hu]; rfl) | (cases hd1; done))
  | (have hd1 := hd.1.1; split at hd1 <;> first | (rename_i hu; rw [run_underlying hu]; rfl) | (cases hd1; done))
theorem sh_sizeOf (h : shB P t s = true) (w : World) : (sizeOf t).run P w = .ok s.size w := by
 obtain ⟨i,z,h1,h2,_⟩ := sh_info h
 simp [sizeOf,typeInfo,h1,h2]
theorem sh_zero (h : shB P t s = true) (w : World) : ∃ z,(zeroValue t).run P w = .ok z w ∧ zeroB s.zero z.cells.toList = true := by
 obtain ⟨i,z,h1,h2,h3,h4,_⟩ := sh_info h
 exact ⟨z,by simp [zeroValue,typeInfo,h1,h3],h4⟩
end
end Go.AM
namespace Go.AM
theorem getS_put (sl : List (Nat × AV)) (d : Nat) (v : AV) (i : Nat) : getS (put sl (some d) v) i = if d = i then v else getS sl i := rfl
theorem getS_put_none (sl : List (Nat × AV)) (v : AV) : put sl none v = sl := rfl
theorem put_tmps_same {a : Act} {d : Nat} {v : Value} (h : d < a.tmps.size) : (a.put (some d) v).tmps.getD d undef = v := by simp [Act.put,h]
theorem put_tmps_other {a : Act} {d i : Nat} {v : Value} (h : d ≠ i) : (a.put (some d) v).tmps.getD i undef = a.tmps.getD i undef := by
 simp [Act.put,Array.getElem?_setIfInBounds_ne h]
theorem put_size (a : Act) (dst : Option Nat) (v : Value) : (a.put dst v).tmps.size = a.tmps.size := by cases dst <;> simp [Act.put]
theorem put_defers (a : Act) (dst : Option Nat) (v : Value) : (a.put dst v).defers = a.defers := by cases dst <;> rfl
theorem okDst_lt {nt d : Nat} (h : okDst nt (some d) = true) : d < nt := Nat.le_of_ble_eq_true h
section
variable {P : Program} {T : TEnv} {w0 : World} {F0 : Nat → Prop} {L0 : Locs} {nt : Nat} {σ : ASt} {a : Act} {w : World} {L : Locs} {fp : Nat → List Nat}
theorem StW.slots_put {ob' : List (Nat × AObj)} {w' : World} {L' : Locs} {fp' : Nat → List Nat} {dst : Option Nat} {av : AV} {v : Value} (hsz : a.tmps.size = nt) (hd : okDst nt dst = true)
  (hold : ∀ i,RelV (view w' (Owned ob' fp')) L' (getS σ.sl i) (a.tmps.getD i undef)) (hv : RelV (view w' (Owned ob' fp')) L' av v) :
  ∀ i,RelV (view w' (Owned ob' fp')) L' (getS (put σ.sl dst av) i) ((a.put dst v).tmps.getD i undef) := by
 intro i
 cases dst with
 | none => exact hold i
 | some d =>
  have hlt := okDst_lt hd
  rw [getS_put]
  by_cases e : d = i
  ·subst e
   rw [if_pos rfl,put_tmps_same (by omega)]
   exact hv
  ·rw [if_neg e,put_tmps_other e]
   exact hold i
theorem StW.putv (h : StW w0 F0 L0 nt σ a w L fp) {dst : Option Nat} (hd : okDst nt dst = true) {av : AV} {v : Value} (hv : RelV (view w (Owned σ.ob fp)) L av v) :
  StW w0 F0 L0 nt ⟨put σ.sl dst av,σ.ob⟩ (a.put dst v) w L fp :=
 ⟨h.owns,h.kept,h.fresh,StW.slots_put h.size hd h.slots hv,(put_defers _ _ _).trans h.defers,(put_size _ _ _).trans h.size,h.le⟩
theorem freeS_get {d : Nat} : ∀ {sl : List (Nat × AV)} (_ : freeS d sl = true) (i : Nat),(getS sl i).free d = true
 | [],_,i => by simp [getS,AV.free]
 | (j,v) :: r,h,i => by
  simp only [freeS,Bool.and_eq_true] at h
  simp only [getS]
  split
  ·exact h.1
  ·exact freeS_get h.2 i
theorem StW.change (h : StW w0 F0 L0 nt σ a w L fp) {w' : World} {ob' : List (Nat × AObj)} {L' : Locs} {fp' : Nat → List Nat} (D : Nat → Prop)
  (hk : Kept w (Owned σ.ob fp) w')
  (hob : ∀ o,¬ D o → getO ob' o = getO σ.ob o) (hfp : ∀ o,¬ D o → fp' o = fp o) (hL : ∀ o,¬ D o → L' o = L o)
  (hLD : ∀ o,D o → ((∀ o' cs,¬ D o' → getO σ.ob o' = some (.box cs) → AV.free.go o cs = true) ∧ freeS o σ.sl = true ∧ ∀ l,L0 o ≠ some l) ∨ ∀ l,L o = some l → ∃ l',L' o = some l' ∧ LocLe l l')
  (hheap : ∀ b,b < w.heap.size → (∀ o,D o → (getO σ.ob o).isSome = true → b ∉ fp o) → w'.heap[b]? = w.heap[b]?)
  (hblk : ∀ o b,D o → (getO ob' o).isSome = true → b ∈ fp' o → b < w'.heap.size ∧ (w.heap.size ≤ b ∨ ∃ o',D o' ∧ (getO σ.ob o').isSome = true ∧ b ∈ fp o'))
  (hnew : ViewLe (view w (Owned σ.ob fp)) (view w' (Owned ob' fp')) → ∀ o x,D o → getO ob' o = some x → ∃ l,L' o = some l ∧ ObjRel (view w' (Owned ob' fp')) L' w' x l (fp' o))
  (hnd : ∀ o,D o → (getO ob' o).isSome = true → (fp' o).Nodup)
  (hdisj : ∀ o o' b,D o → D o' → o ≠ o' → (getO ob' o).isSome = true → (getO ob' o').isSome = true → b ∈ fp' o → b ∈ fp' o' → False)
  {dst : Option Nat} (hd : okDst nt dst = true) {av : AV} {v : Value} (hv : ViewLe (view w (Owned σ.ob fp)) (view w' (Owned ob' fp')) → RelV (view w' (Owned ob' fp')) L' av v) :
  StW w0 F0 L0 nt ⟨put σ.sl dst av,ob'⟩ (a.put dst v) w' L' fp' := by
 obtain ⟨ho,hR,hown⟩ := h.owns.change D hk.size hob hfp hL (fun o hD => (hLD o hD).imp (fun x => x.1) id) hheap hblk hnew hnd hdisj
 refine ⟨ho,h.kept.trans hk (fun b hb hF => ?_),fun b hb => ?_,StW.slots_put h.size hd (fun i => ?_) (hv hR),(put_defers _ _ _).trans h.defers,(put_size _ _ _).trans h.size,?_⟩
 ·rcases h.fresh b hF with h1 | h1
  ·exact h1
  ·omega
 ·rcases hown b hb with h1 | h1
  ·exact h.fresh b h1
  ·exact .inr (Nat.le_trans h.kept.size h1)
 ·refine (h.slots i).mono hR _ _ fun o l hm hl => ?_
  by_cases hD : D o
  ·rcases hLD o hD with ⟨_,h1,_⟩ | h1
   ·exact absurd ((freeS_get h1 i).symm.trans hm) (by simp)
   ·exact h1 l hl
  ·exact ⟨l,(hL o hD).trans hl,LocLe.refl _⟩
 ·intro o l _ hl
  obtain ⟨l1,h1,hle⟩ := h.le o l trivial hl
  by_cases hD : D o
  ·rcases hLD o hD with ⟨_,_,h3⟩ | h3
   ·exact absurd hl (h3 l)
   ·obtain ⟨l2,h4,h5⟩ := h3 _ h1
    exact ⟨l2,h4,hle.trans h5⟩
  ·exact ⟨l1,(hL o hD).trans h1,hle⟩
def Ran (P : Program) (o : Oper) (a : Act) (w : World) (K : Act → World → Prop) : Prop :=
 (∃ v w',(execOp a.eval o).run P w = .ok (.value v) w' ∧ K (a.put o.dst v) w') ∨ (∃ w',(execOp a.eval o).run P w = .ok .skip w' ∧ K (a.put o.dst undef) w')
theorem Ran.wp {o : Oper} {K K' : Act → World → Prop} {Q : Exit → Act → World → Prop} (h : Ran P o a w K) (hK : ∀ a w,K a w → K' a w) : o.wp P a w K' Q := by
 unfold Oper.wp
 rcases h with ⟨v,w',h1,h2⟩ | ⟨w',h1,h2⟩
 ·rw [h1]; exact hK _ _ h2
 ·rw [h1]; exact hK _ _ h2
theorem opv_rel (hT : TOk P T) (h : StW w0 F0 L0 nt σ a w L fp) (t : Nat) (x : Operand) : RelV (view w (Owned σ.ob fp)) L (opv σ (getT T t) x) (a.eval x) := by
 cases x with
 | tmp i => exact h.slots i
 | global g => simp [opv,RelV]
 | func f => exact ⟨#[],#[],rfl,by simp [RelVs],by simp [RelVs]⟩
 | const v =>
  show RelV _ L (opv σ (getT T t) (.const v)) v
  unfold opv
  split <;> rename_i he <;> (try cases he) <;> try simp [RelV]
  all_goals first
   | (rename_i s; obtain ⟨⟨l⟩⟩ := s; rfl)
   | skip
  split
  ·rename_i e p hs
   have hb := hT t _ hs
   unfold shB at hb
   simp only [Bool.and_eq_true,descB,beq_iff_eq] at hb
   simp only [RelV,true_and]
   exact hb.1.1.2
  ·simp [RelV]
theorem opv_rel_none (h : StW w0 F0 L0 nt σ a w L fp) (x : Operand) : RelV (view w (Owned σ.ob fp)) L (opv σ none x) (a.eval x) := by
 cases x with
 | tmp i => exact h.slots i
 | global g => simp [opv,RelV]
 | func f => exact ⟨#[],#[],rfl,by simp [RelVs],by simp [RelVs]⟩
 | const v =>
  show RelV _ L (opv σ none (.const v)) v
  unfold opv
  split <;> rename_i he <;> (try cases he) <;> try simp [RelV]
  all_goals first
   | (rename_i s; obtain ⟨⟨l⟩⟩ := s; rfl)
   | skip
end
end Go.AM
namespace Go.AM
def AllP : List Prop → Prop
 | [] => True
 | c :: r => c ∧ AllP r
section
variable {P : Program} {T : TEnv} {w0 : World} {F0 : Nat → Prop} {L0 : Locs} {nt : Nat} {σ : ASt} {a : Act} {w : World} {L : Locs} {fp : Nat → List Nat}
theorem ran_val {o : Oper} (h : StW w0 F0 L0 nt σ a w L fp) (hd : okDst nt o.dst = true) {av : AV} {v : Value} (hrun : (execOp a.eval o).run P w = .ok (.value v) w)
  (hv : RelV (view w (Owned σ.ob fp)) L av v) : Ran P o a w (St w0 F0 L0 nt ⟨put σ.sl o.dst av,σ.ob⟩) :=
 .inl ⟨v,w,hrun,L,fp,h.putv hd hv⟩
theorem run_eqGuard_int (op : BinOp) (t : TypeId) (x y : Operand) (k k' : IntKind) (m n : Int) : (eqGuard op t x y (.int k m) (.int k' n)).run P w = .ok () w := by
 cases op <;> simp [eqGuard]
theorem run_eqGuard_bool (op : BinOp) (t : TypeId) (x y : Operand) (m n : Bool) : (eqGuard op t x y (.bool m) (.bool n)).run P w = .ok () w := by
 cases op <;> simp [eqGuard]
theorem run_eqGuard_str (op : BinOp) (t : TypeId) (x y : Operand) (m n : ByteArray) : (eqGuard op t x y (.string m) (.string n)).run P w = .ok () w := by
 cases op <;> simp [eqGuard]
theorem run_binInt {op : BinOp} {t : TypeId} {k : IntKind} {x y : Int} {cs : List Prop} {av : AV} {obs : List (Nat × Option AObj)} {R : View} (he : binInt op k x y = .ok cs av obs) (hc : AllP cs) (hs : op ≠ .shl) (hr : op ≠ .shr) :
  obs = [] ∧ ∃ v,(binOp op t (.int k x) (.int k y)).run P w = .ok v w ∧ RelV R L av v := by
 cases op <;> simp only [binInt,Out.ok.injEq,reduceCtorEq] at he <;> first
  | (exact absurd rfl hs)
  | (exact absurd rfl hr)
  | skip
 all_goals
  obtain ⟨rfl,rfl,rfl⟩ := he
  refine ⟨rfl,?_⟩
 all_goals first
  | (refine ⟨_,by simp [binOp,Op.intArith]; rfl,?_⟩; simp [RelV]; done)
  | (refine ⟨_,by simp only [binOp,ne_eq,not_true_eq_false,if_false]; rfl,?_⟩; simp [RelV]; done)
  | (refine ⟨_,by simp [binOp,Op.intBits]; rfl,?_⟩; simp [RelV,bitsOf]; done)
  | (simp only [AllP,and_true] at hc
     refine ⟨_,by simp [binOp,Op.intDiv,hc]; rfl,?_⟩; simp [RelV])
theorem run_eq_rat {op : BinOp} {t : TypeId} {x y : Operand} {p q r s : Int} (hb : ratB P t = true) (ho : op = .eql ∨ op = .neq) :
  (do eqGuard op t x y (.agg #[.int .i64 p,.int .i64 q]) (.agg #[.int .i64 r,.int .i64 s]); binOp op t (.agg #[.int .i64 p,.int .i64 q]) (.agg #[.int .i64 r,.int .i64 s]) : Sem Value).run P w =
   .ok (.bool (if op = .eql then (p == r && q == s) else !(p == r && q == s))) w := by
 unfold ratB at hb
 simp only [Bool.and_eq_true,Bool.not_eq_true'] at hb
 obtain ⟨⟨h1,h2⟩,h3⟩ := hb
 split at h3
 ·rename_i fs hu
  split at h3
  ·rename_i f g hl
   simp only [Bool.and_eq_true,decide_eq_true_eq,Bool.not_eq_true',beq_eq_false_iff_ne] at h3
   obtain ⟨⟨⟨⟨⟨i1,i2⟩,n1⟩,n2⟩,o1⟩,o2⟩ := h3
   have hf : P.fieldsOf t = fs := by simp [Program.fieldsOf,hu]
   have ht : P.underlying t = some (.struct (P.fieldsOf t)) := by rw [hf]; exact hu
   have u1 : P.underlying f.type = some (.int .i64) := by
    unfold isI64 at i1
    split at i1
    ·assumption
    ·cases i1
   have u2 : P.underlying g.type = some (.int .i64) := by
    unfold isI64 at i2
    split at i2
    ·assumption
    ·cases i2
   have a1 : (isAgg f.type).run P w = .ok false w := by simp [isAgg,run_underlying u1]
   have a2 : (isAgg g.type).run P w = .ok false w := by simp [isAgg,run_underlying u2]
   have p1 : ∀ u v : Value,(part f.type #[u,v] f.offset).run P w = .ok u w := fun u v => by simp [part,a1,o1]
   have p2 : ∀ u v : Value,(part g.type #[u,v] g.offset).run P w = .ok v w := fun u v => by simp [part,a2,o2]
   have e1 : (Op.eqFields 9999 #[.int .i64 p,.int .i64 q] #[.int .i64 r,.int .i64 s] [f,g]).run P w = .ok (p == r && q == s) w := by
    simp only [Op.eqFields,if_pos n1,if_pos n2,Sem.run_bind,p1,p2,Result.andThen_ok,run_equalIn_int w 9998 _ .i64 .i64 _ _ u1,run_equalIn_int w 9998 _ .i64 .i64 _ _ u2,Sem.run_ite,Sem.run_pure]
    by_cases c : p = r
    ·by_cases c' : q = s <;> simp [c,c']
    ·simp [c]
   rw [Sem.run_bind,run_eqGuard_agg w op t x y _ _ h1,Result.andThen_ok]
   rcases ho with rfl | rfl
   ·rw [run_eql_struct,run_equalIn_struct w 9999 t _ _ ht h2,hf,hl,e1]
    simp
   ·rw [run_neq_struct,run_equalIn_struct w 9999 t _ _ ht h2,hf,hl,e1]
    simp
  ·cases h3
 ·cases h3
theorem RelV_int {R : View} {k : IntKind} {n : Int} {v : Value} (h : RelV R L (.int k n) v) : v = .int k n := by simpa [RelV] using h
theorem RelV_bool {R : View} {n : Bool} {v : Value} (h : RelV R L (.bool n) v) : v = .bool n := by simpa [RelV] using h
theorem RelV_str {R : View} {n : List UInt8} {v : Value} (h : RelV R L (.str n) v) : v = .string ⟨n.toArray⟩ := by simpa [RelV] using h
theorem RelV_rat {R : View} {p q : Int} {v : Value} (h : RelV R L (.agg [.int .i64 p,.int .i64 q]) v) : v = .agg #[.int .i64 p,.int .i64 q] := by
 simp only [RelV] at h
 obtain ⟨⟨l⟩,rfl,h2,_⟩ := h
 match l,h2 with
 | [x,y],h2 =>
  simp only [RelVs,RelV,and_true] at h2
  obtain ⟨rfl,rfl⟩ := h2
  rfl
theorem bytes_beq (a b : List UInt8) : ((⟨a.toArray⟩ : ByteArray).toList == (⟨b.toArray⟩ : ByteArray).toList) = (a == b) := by
 rw [ByteArray.toList_eq,ByteArray.toList_eq]
theorem run_binV {op : BinOp} {t : TypeId} {x y : Operand} {u v : AV} {vu vv : Value} {cs : List Prop} {av : AV} {obs : List (Nat × Option AObj)} {R : View} (hT : TOk P T)
  (he : binV (getT T t) op u v = .ok cs av obs) (hc : AllP cs) (hu : RelV R L u vu) (hv : RelV R L v vv) :
  obs = [] ∧ ∃ r,(do eqGuard op t x y vu vv; binOp op t vu vv : Sem Value).run P w = .ok r w ∧ RelV R L av r := by
 unfold binV at he
 split at he
 ·rename_i k m k' n
  cases RelV_int hu
  cases RelV_int hv
  rw [Sem.run_bind,run_eqGuard_int,Result.andThen_ok]
  split at he
  ·cases he
   simp only [AllP,and_true] at hc
   refine ⟨rfl,.int k (k.wrap (m * 2 ^ (min n.toNat k.bits))),?_,by simp [RelV]⟩
   have hn : ¬ n < 0 := by omega
   simp [binOp,Op.shift,hn]
  ·cases he
   simp only [AllP,and_true] at hc
   refine ⟨rfl,.int k (m.fdiv (2 ^ (min n.toNat k.bits))),?_,by simp [RelV]⟩
   have hn : ¬ n < 0 := by omega
   simp [binOp,Op.shift,hn]
  ·rename_i h1 h2
   split at he
   ·rename_i hk
    subst hk
    exact run_binInt he hc h1 h2
   ·cases he
 ·rename_i m n
  cases RelV_bool hu
  cases RelV_bool hv
  rw [Sem.run_bind,run_eqGuard_bool,Result.andThen_ok]
  have hb : getT T t = some .bool → P.underlying t = some .bool := by
   intro hs
   have := hT t _ hs
   unfold shB at this
   simp only [descB,Bool.and_eq_true] at this
   have h1 := this.1
   split at h1
   ·assumption
   ·cases h1
  split at he
  ·rename_i hs
   cases he
   refine ⟨rfl,.bool (m == n),?_,by simp [RelV]⟩
   simp [binOp,Op.equal,Op.maxDepth,run_equalIn_bool' w 9999 t m n (hb hs)]
  ·rename_i hs
   cases he
   refine ⟨rfl,.bool (m != n),?_,by simp [RelV]⟩
   simp [binOp,Op.equal,Op.maxDepth,run_equalIn_bool' w 9999 t m n (hb hs),bne]
  ·cases he
 ·rename_i p q r s
  cases RelV_rat hu
  cases RelV_rat hv
  have hb : isRat (getT T t) = true → ratB P t = true := by
   intro h
   unfold isRat at h
   split at h
   ·rename_i hs
    have := hT t _ hs
    unfold shB at this
    simp only [descB,Bool.and_eq_true,Bool.not_true,Bool.false_or] at this
    exact this.1.2
   ·cases h
  split at he
  ·rename_i hr
   cases he
   exact ⟨rfl,_,run_eq_rat (hb hr) (.inl rfl),by simp [RelV]⟩
  ·rename_i hr
   cases he
   exact ⟨rfl,_,run_eq_rat (hb hr) (.inr rfl),by simp [RelV]⟩
  ·cases he
 ·rename_i m n
  cases RelV_str hu
  cases RelV_str hv
  rw [Sem.run_bind,run_eqGuard_str,Result.andThen_ok]
  split at he
  ·cases he
   simp only [AllP,and_true] at hc
   refine ⟨rfl,.string (⟨m.toArray⟩ ++ ⟨n.toArray⟩),?_,?_⟩
   ·have hsz : ((⟨m.toArray⟩ : ByteArray).size + (⟨n.toArray⟩ : ByteArray).size : Nat) = m.length + n.length := by simp [ByteArray.size]
    simp [binOp,Op.stringOp,hsz,IntKind.max,IntKind.signed,IntKind.bits]
    omega
   ·simp only [RelV,Value.string.injEq]
    ext1
    simp
  ·cases he
   refine ⟨rfl,.bool (m == n),?_,by simp [RelV]⟩
   simp only [binOp,Op.stringOp,Sem.run_pure,bytes_beq]
  ·cases he
   refine ⟨rfl,.bool (!(m == n)),?_,by simp [RelV]⟩
   simp only [binOp,Op.stringOp,Sem.run_pure,bytes_beq]
  ·cases he
 ·cases he
end
end Go.AM
namespace Go.AM
def valsAt : Pay → Nat → List Value
 | .ints l,i => [.int .i64 (l.getD i 0)]
 | .bytes l,i => [.int .u8 (l.getD i 0).toNat]
 | .rats l,i => [.int .i64 (l.getD i ⟨0,0⟩).num,.int .i64 (l.getD i ⟨0,0⟩).den]
 | .strs l,i => [.string ⟨(l.getD i []).toArray⟩]
 | _,_ => []
theorem rats_get (l : List Q) : ∀ e,e < l.length → (Pay.rats l).vals[e * 2]? = some (.int .i64 (l.getD e ⟨0,0⟩).num) ∧ (Pay.rats l).vals[e * 2 + 1]? = some (.int .i64 (l.getD e ⟨0,0⟩).den) := by
 induction l with
 | nil => intro e h; simp at h
 | cons q l ih =>
  intro e h
  cases e with
  | zero => simp [Pay.vals]
  | succ e =>
   have := ih e (by simpa using h)
   simp only [Pay.vals,List.flatMap_cons] at this ⊢
   have e1 : (e + 1) * 2 = e * 2 + 2 := by omega
   rw [e1]
   simpa using this
theorem rats_length (l : List Q) : (Pay.rats l).vals.length = l.length * 2 := by
 induction l with
 | nil => rfl
 | cons q l ih => simp only [Pay.vals,List.flatMap_cons,List.length_append,List.length_cons,List.length_nil] at *; omega
theorem vals_length {p : Pay} (h : p.subs = none) : p.vals.length = p.len * p.size := by
 cases p <;> simp only [Pay.subs,reduceCtorEq] at h
 case rats l => simpa [Pay.len,Pay.size] using rats_length l
 all_goals simp [Pay.vals,Pay.len,Pay.size]
theorem vals_at {p : Pay} (h : p.subs = none) {e : Nat} (he : e < p.len) : ∀ (j : Nat) (u : Value),(valsAt p e)[j]? = some u → p.vals[e * p.size + j]? = some u := by
 intro j u hu
 cases p <;> simp only [Pay.subs,reduceCtorEq] at h
 case rats l =>
  obtain ⟨h1,h2⟩ := rats_get l e he
  simp only [valsAt] at hu
  match j,hu with
  | 0,hu => simp at hu; subst hu; simpa [Pay.size] using h1
  | 1,hu => simp at hu; subst hu; simpa [Pay.size] using h2
  | j + 2,hu => simp at hu
 all_goals
  simp only [valsAt] at hu
  match j,hu with
  | 0,hu => simp at hu; subst hu; simp only [Pay.len] at he; simp [Pay.vals,Pay.size,he]
  | j + 1,hu => simp at hu
theorem valsAt_rel {R : View} {L : Locs} {p : Pay} (h : p.subs = none) (e : Nat) : RelVs R L (elemCells p e) (valsAt p e) ∧ (valsAt p e).length = p.size ∧ ∀ u ∈ valsAt p e,u.oneCell' = true := by
 cases p <;> simp only [Pay.subs,reduceCtorEq] at h <;> simp [elemCells,valsAt,RelVs,RelV,Pay.size,Value.oneCell']
theorem elemCells_length (p : Pay) (e : Nat) : (elemCells p e).length = p.size := by cases p <;> rfl
theorem subs_deep {p : Pay} : p.isDeep = true ↔ ∃ ps,p.subs = some ps := by cases p <;> simp [Pay.isDeep,Pay.subs]
theorem subs_flat {p : Pay} : p.isDeep = false ↔ p.subs = none := by cases p <;> simp [Pay.isDeep,Pay.subs]
theorem subs_get {p : Pay} {ps : List Pay} (h : p.subs = some ps) : ps.length = p.len ∧ ∀ k,k < p.len → ps[k]? = some (p.sub k) := by
 cases p <;> simp only [Pay.subs,reduceCtorEq,Option.some.injEq] at h <;> subst h <;> simp only [Pay.len,List.length_map,true_and] <;> intro k hk <;> simp [Pay.sub,hk]
theorem sub_flat {p : Pay} (h : p.isDeep = true) (k : Nat) : (p.sub k).subs = none ∧ (p.sub k).size = p.sizei := by
 cases p <;> simp [Pay.isDeep] at h <;> simp [Pay.sub,Pay.subs,Pay.size,Pay.sizei]
theorem deep_size {p : Pay} (h : p.isDeep = true) : p.size = 1 := by cases p <;> simp [Pay.isDeep] at h <;> rfl
theorem payOf_sub {ob : List (Nat × AObj)} {o ver rv k : Nat} {q : Pay} (h : payOf ob (.sub o ver rv k) = some q) : ∃ e p,getO ob o = some (.arr e ver rv p) ∧ p.isDeep = true ∧ q = p.sub k := by
 simp only [payOf] at h
 split at h
 ·rename_i e v r p hg
  split at h
  ·rename_i hv
   subst hv
   split at h
   ·rename_i hr
    subst hr
    split at h
    ·rename_i hd
     cases h
     exact ⟨e,p,hg,hd,rfl⟩
    ·cases h
   ·cases h
  ·cases h
 ·cases h
theorem payOf_sl {ob : List (Nat × AObj)} {o ver : Nat} {q : Pay} (h : payOf ob (.sl o ver) = some q) : ∃ e rv,getO ob o = some (.arr e ver rv q) := by
 simp only [payOf] at h
 split at h
 ·rename_i e v r p hg
  split at h
  ·rename_i hv
   subst hv
   cases h
   exact ⟨e,r,hg⟩
  ·cases h
 ·cases h
theorem payOf_slp {ob : List (Nat × AObj)} {o ver off len : Nat} {q : Pay} (h : payOf ob (.slp o ver off len) = some q) : ∃ e rv p,getO ob o = some (.arr e ver rv p) ∧ p.isDeep = false ∧ q = (p.drop off).take len := by
 simp only [payOf] at h
 split at h
 ·rename_i e v r p hg
  split at h
  ·rename_i hv
   subst hv
   split at h
   ·rename_i hd
    cases h
    exact ⟨e,r,p,hg,hd,rfl⟩
   ·cases h
  ·cases h
 ·cases h
section
variable {P : Program} {T : TEnv} {w0 : World} {F0 : Nat → Prop} {L0 : Locs} {nt : Nat} {σ : ASt} {a : Act} {w : World} {L : Locs} {fp : Nat → List Nat}
theorem run_loadVar_cut {R : View} {t : TypeId} {s : Sh} (hs : shB P t s = true) (b off : Nat) (cs : List Value) (as : List AV) (hrel : RelVs R L as cs) (h1 : ∀ u ∈ cs,u.oneCell' = true) (hl : as.length = s.size)
  (hc : ∀ (j : Nat) (u : Value),cs[j]? = some u → w.cell? ⟨b,off + j,none⟩ = some u) : ∃ v,(loadVar t ⟨b,off,none⟩).run P w = .ok v w ∧ RelV R L (pack s as) v := by
 have hlen := hrel.length
 have hadd : ∀ j,(⟨b,off,none⟩ : Addr).add j = ⟨b,off + j,none⟩ := fun j => by unfold Addr.add; split <;> simp_all
 unfold loadVar
 rw [Sem.run_bind,sh_isAgg hs w,Result.andThen_ok]
 by_cases hst : ∃ fs z r,s = .struct fs z r
 ·obtain ⟨fs,z,r,rfl⟩ := hst
  have hlc := run_loadCells_list (P := P) w ⟨b,off,none⟩ cs (fun j v hv => by rw [hadd]; exact hc j v hv)
  rw [← hlen,hl] at hlc
  simp only [Sh.isSt,if_true,Sem.run_bind,sh_sizeOf hs w,Result.andThen_ok,hlc,Sem.run_pure]
  exact ⟨_,rfl,cs.toArray,rfl,by simpa using hrel,by simpa using h1⟩
 ·have hsz : s.size = 1 := by cases s <;> simp [Sh.size] at hst ⊢
  have hpk : ∀ x,pack s [x] = x := by intro x; cases s <;> simp [pack] at hst ⊢
  rw [hsz] at hl
  match as,cs,hl,hlen,hrel with
  | [x],[u],_,_,hrel =>
   simp only [RelVs,and_true] at hrel
   have hu := hc 0 u rfl
   refine ⟨u,?_,by rw [hpk]; exact hrel⟩
   have : s.isSt = false := by cases s <;> simp [Sh.isSt] at hst ⊢
   rw [this]
   simp only [Bool.false_eq_true,if_false,run_load]
   simp only [Nat.add_zero] at hu
   rw [hu]
theorem RelV.wk {R : View} {L : Locs} {a : AV} {u : Value} (h : RelV R L a u) : RelV R L a.wk u := by
 cases a <;> first | exact h | (simp only [RelV,AV.wk] at h ⊢; exact h.2)
theorem RelVs.wk {R : View} {L : Locs} : ∀ {as : List AV} {us : List Value},RelVs R L as us → RelVs R L (as.map AV.wk) us
 | [],[],_ => by simp [RelVs]
 | [],_ :: _,h => by simp [RelVs] at h
 | _ :: _,[],h => by simp [RelVs] at h
 | a :: as,u :: us,h => by
  simp only [RelVs,List.map_cons] at h ⊢
  exact ⟨h.1.wk,h.2.wk⟩
theorem cut_ok {s : Sh} {cs : List AV} {i : Nat} {c : List Prop} {v : AV} {obs : List (Nat × Option AObj)} (h : cut s cs i = .ok c v obs) : c = [] ∧ v = pack s (((cs.drop i).take s.size).map AV.wk) ∧ obs = [] ∧ i + s.size ≤ cs.length := by
 unfold cut at h
 split at h
 ·rename_i hb
  cases h
  exact ⟨rfl,rfl,rfl,Nat.le_of_ble_eq_true hb⟩
 ·cases h
theorem view_cell {F : Nat → Prop} {b : Nat} {cs : Array Value} (h : view w F b = some cs) (j : Nat) : w.cell? ⟨b,j,none⟩ = cs[j]? := by
 obtain ⟨_,t,fr,hh⟩ := view_some h
 exact cell_of_row w b j cs t fr hh
theorem pelt_cells {R : View} {p : Pay} {e fo : Nat} {hdr v : Value} (h : ListAt R p hdr) (hE : EltAt e fo p.size hdr v) :
  ∃ b o us cs,v = .pointer (some ⟨b,o + fo,none⟩) ∧ RelVs R L (elemCells p e) us ∧ (∀ u ∈ us,u.oneCell' = true) ∧ us.length = p.size ∧ R b = some cs ∧ ∀ (j : Nat) (u : Value),us[j]? = some u → cs[o + j]? = some u := by
 obtain ⟨b,o0,n,c,rfl,hlt,rfl⟩ := hE
 unfold ListAt at h
 split at h
 ·rename_i hs
  obtain ⟨A,c',h1,h2,h3⟩ := h
  injection h1 with h1 h1' h1''
  subst h1 h1' h1''
  have hval := vals_at hs hlt
  obtain ⟨r1,r2,r3⟩ := valsAt_rel (R := R) (L := L) hs e
  rcases h3 with h3 | ⟨b',off,cs,h3,h4,h5⟩
  ·have : p.vals.length = p.len * p.size := vals_length hs
   rw [h3] at this
   have h6 := hval 0
   rw [h3] at h6
   cases hv : valsAt p e with
   | nil => rw [hv] at r2; simp at r2; cases p <;> simp [Pay.size] at r2
   | cons x r => have := h6 x (by simp [hv]); simp at this
  ·injection h3 with h3
   injection h3 with h3 h3'
   subst h3 h3'
   refine ⟨b,o0 + e * p.size,valsAt p e,cs,rfl,r1,r3,r2,h4,fun j u hu => ?_⟩
   rw [Nat.add_assoc]
   exact h5 _ _ (hval j u hu)
 ·rename_i ps hs
  obtain ⟨A,c',vs,h1,h2,h3,h4,h5⟩ := h
  injection h1 with h1 h1' h1''
  subst h1 h1' h1''
  obtain ⟨g1,g2⟩ := subs_get hs
  have hdeep : p.isDeep = true := subs_deep.2 ⟨ps,hs⟩
  have hsz := deep_size hdeep
  have hv : vs[e]? = some (vs[e]'(by omega)) := List.getElem?_eq_getElem (by omega)
  have hrow := h5 e _ _ (g2 e hlt) hv
  rcases h3 with h3 | ⟨b',off,cs,h3,h6,h7⟩
  ·rw [h3] at h4; simp at h4; omega
  ·injection h3 with h3
   injection h3 with h3 h3'
   subst h3 h3'
   refine ⟨b,o0 + e * p.size,[vs[e]'(by omega)],cs,rfl,?_,?_,by simp [hsz],h6,fun j u hu => ?_⟩
   ·have hel : elemCells p e = [.list (p.sub e)] := by cases p <;> simp [Pay.isDeep] at hdeep <;> rfl
    rw [hel]
    simp only [RelVs,and_true,RelV,ListAt,(sub_flat hdeep e).1]
    exact hrow
   ·intro u hu
    simp at hu
    subst hu
    obtain ⟨_,_,hu,_⟩ := hrow
    rw [hu]; rfl
   ·match j,hu with
    | 0,hu => simp at hu; subst hu; rw [hsz]; simpa using h7 e _ hv
    | j + 1,hu => simp at hu
theorem arr_get {ob : List (Nat × AObj)} {o ver rv : Nat} {e : TypeId} {p : Pay} {u : Value} {K : (rv sz szi : Nat) → (hdr : Value) → (inn : List Value) → Prop}
  (h : Owns w ob L fp) (hg : getO ob o = some (.arr e ver rv p)) (hA : ArrV L o ver u K) : ∃ hdr inn,L o = some (.arr ver rv p.size p.sizei hdr inn) ∧ K rv p.size p.sizei hdr inn ∧ OwnAt w e p hdr inn (fp o) := by
 obtain ⟨l,h1,h2⟩ := h.obj o _ hg
 obtain ⟨hdr,inn,rfl,h3⟩ := h2
 obtain ⟨_,ver',rv',sz,szi,hdr',inn',k1,k2,k3⟩ := hA
 rw [h1] at k1
 injection k1 with k1
 injection k1 with e1 e2 e3 e4 e5 e6
 subst e1 e2 e3 e4 e5 e6
 exact ⟨hdr,inn,h1,k3 rfl,h3⟩
theorem looseOf_some {ob : List (Nat × AObj)} {o ver : Nat} {p : Pay} (h : looseOf ob o ver = some p) : ∃ rv k,getO ob o = some (.hol 0 ver rv p k) := by
 unfold looseOf at h
 split at h
 ·rename_i e v rv q k hg
  split at h
  ·rename_i hb
   simp only [Bool.and_eq_true] at hb
   have h1 := Nat.eq_of_beq_eq_true hb.1
   have h2 := Nat.eq_of_beq_eq_true hb.2
   subst h1 h2
   cases h
   exact ⟨rv,k,hg⟩
  ·cases h
 ·cases h
theorem hol_get {ob : List (Nat × AObj)} {o ver rv k : Nat} {e : TypeId} {p : Pay} {u : Value} {K : (rv sz szi : Nat) → (hdr : Value) → (inn : List Value) → Prop}
  (h : Owns w ob L fp) (hg : getO ob o = some (.hol e ver rv p k)) (hA : ArrV L o ver u K) : ∃ hdr inn,L o = some (.arr ver rv p.size p.sizei hdr inn) ∧ K rv p.size p.sizei hdr inn ∧ HolAt w e p k hdr inn (fp o) := by
 obtain ⟨l,h1,h2⟩ := h.obj o _ hg
 obtain ⟨hdr,inn,rfl,h3⟩ := h2
 obtain ⟨_,ver',rv',sz,szi,hdr',inn',k1,k2,k3⟩ := hA
 rw [h1] at k1
 injection k1 with k1
 injection k1 with e1 e2 e3 e4 e5 e6
 subst e1 e2 e3 e4 e5 e6
 exact ⟨hdr,inn,h1,k3 rfl,h3⟩
theorem own_cells {p : Pay} {e fo : Nat} {hdr v : Value} {base el : Nat} (hf : p.subs = none) (h : w.ownsRow base el p.size hdr p.len p.vals) (hE : EltAt e fo p.size hdr v) :
  ∃ b,hdr.ownBlock = some b ∧ v = .pointer (some ⟨b,e * p.size + fo,none⟩) ∧ e < p.len ∧ ∀ (j : Nat) (u : Value),(valsAt p e)[j]? = some u → w.cell? ⟨b,e * p.size + j,none⟩ = some u := by
 obtain ⟨b,o0,n,c,rfl,hlt,rfl⟩ := hE
 rcases h.2 with ⟨h1,_⟩ | ⟨g,cap,cur,h1,_⟩
 ·cases h1
 ·injection h1 with h1 h1' h1''
  injection h1 with h1
  injection h1 with h1 h2
  subst h1 h2 h1' h1''
  refine ⟨b,rfl,by simp,hlt,fun j u hu => ?_⟩
  have hv := vals_at hf hlt j u hu
  have := h.cells (g := b) rfl _ _ hv
  have hadd : ∀ j,(⟨b,0,none⟩ : Addr).add j = ⟨b,j,none⟩ := fun j => by unfold Addr.add; split <;> simp_all
  rw [hadd] at this
  exact this
theorem drop_take_get {α : Type} {l : List α} {i n j : Nat} {u : α} (h : ((l.drop i).take n)[j]? = some u) : l[i + j]? = some u := by
 rw [List.getElem?_take] at h
 split at h
 ·simpa using h
 ·cases h
theorem op_load {o : Oper} {t : TypeId} {x : Operand} {cs : List Prop} {av : AV} {obs : List (Nat × Option AObj)} (hT : TOk P T) (h : StW w0 F0 L0 nt σ a w L fp) (hd : okDst nt o.dst = true) (ho : o.op = .load t x)
  (he : evalOp T σ o = .ok cs av obs) : obs = [] ∧ Ran P o a w (St w0 F0 L0 nt ⟨put σ.sl o.dst av,σ.ob⟩) := by
 simp only [evalOp,ho] at he
 have hx := opv_rel_none h x
 have hadd : ∀ b o j : Nat,(⟨b,o,none⟩ : Addr).add j = ⟨b,o + j,none⟩ := fun b o j => by unfold Addr.add; split <;> simp_all
 -- what is asked of a cut
 have fin : ∀ {s : Sh} {cells : List AV} {us : List Value} {b o0 i : Nat},getT T t = some s → a.eval x = .pointer (some ⟨b,o0 + i,none⟩) → RelVs (view w (Owned σ.ob fp)) L cells us → (∀ u ∈ us,u.oneCell' = true) →
   (∀ (j : Nat) (u : Value),us[j]? = some u → w.cell? ⟨b,o0 + j,none⟩ = some u) → cut s cells i = .ok cs av obs → obs = [] ∧ Ran P o a w (St w0 F0 L0 nt ⟨put σ.sl o.dst av,σ.ob⟩) := by
  intro s cells us b o0 i hs hax hr h1 hc hcut
  obtain ⟨rfl,rfl,rfl,hle⟩ := cut_ok hcut
  obtain ⟨v,hrun,hv⟩ := run_loadVar_cut (P := P) (w := w) (hT t s hs) b (o0 + i) ((us.drop i).take s.size) (((cells.drop i).take s.size).map AV.wk) (((hr.drop i).take s.size).wk)
   (fun u hu => h1 u (List.mem_of_mem_drop (List.mem_of_mem_take hu))) (by simp; omega) (fun j u hu => by rw [Nat.add_assoc]; exact hc _ _ (drop_take_get hu))
  refine ⟨rfl,ran_val h hd (v := v) ?_ hv⟩
  simp [execOp,ho,Instr.loadAt,hax,Instr.sureAddr,hrun]
 split at he
 ·rename_i s ob i hs hov
  rw [hov] at hx
  obtain ⟨b,hb,hv⟩ := hx
  split at he
  ·rename_i cells hg
   obtain ⟨l,h1,b',t',vs,rfl,_,hh,hr,hone⟩ := h.owns.obj ob _ hg
   rw [hb] at h1
   injection h1 with h1
   injection h1 with h1
   subst h1
   refine fin (o0 := 0) hs (by simpa using hv) hr hone (fun j u hu => ?_) he
   rw [Nat.zero_add,cell_of_row w b j vs t' (0,0) hh]
   simpa using hu
  ·cases he
 ·rename_i s p e fo hs hov
  rw [hov] at hx
  simp only [RelV] at hx
  obtain ⟨hdr,h1,h2⟩ := hx
  obtain ⟨b,o0,us,cells,hv,r1,r2,r3,r4,r5⟩ := pelt_cells (L := L) h1 h2
  exact fin hs hv r1 r2 (fun j u hu => by rw [view_cell r4]; have := r5 j u hu; simpa using this) he
 ·rename_i s cells i hs hov
  rw [hov] at hx
  simp only [RelV] at hx
  obtain ⟨b,vs,h1,h2,h3,hv⟩ := hx
  exact fin (o0 := 0) hs (by simpa using hv) h2 h3 (fun j u hu => by rw [Nat.zero_add,view_cell h1]; simpa using hu) he
 ·rename_i s ob ver e fo hs hov
  rw [hov] at hx
  simp only [RelV] at hx
  split at he
  ·rename_i el v rv p hg
   split at he
   ·rename_i hver
    subst hver
    obtain ⟨hdr,inn,hL,hK,hown⟩ := arr_get h.owns hg hx
    split at he
    ·rename_i hdeep
     have hf := subs_flat.1 hdeep
     unfold OwnAt at hown
     rw [hf] at hown
     obtain ⟨_,hrow,_⟩ := hown
     obtain ⟨b,hb,hv,hlt,hc⟩ := own_cells hf hrow hK
     obtain ⟨r1,r2,r3⟩ := valsAt_rel (R := view w (Owned σ.ob fp)) (L := L) hf e
     exact fin hs hv r1 r3 hc he
    ·rename_i hdeep
     obtain ⟨ps,hps⟩ := subs_deep.1 hdeep
     split at he
     ·rename_i e' p' hsh
      cases he
      unfold OwnAt at hown
      rw [hps] at hown
      obtain ⟨hrow,hlen,fps,hfl,hinn,_⟩ := hown
      obtain ⟨b,o0,n,c,hh,hlt,hv⟩ := hK
      subst hh
      have hrow' := hrow
      rcases hrow.2 with ⟨h1,_⟩ | ⟨g,cap,cur,h1,_⟩
      ·cases h1
      ·injection h1 with h1 h1' h1''
       injection h1 with h1
       injection h1 with h1 h2
       subst h1 h2 h1' h1''
       have hie : e < inn.length := by rw [hlen,(subs_get hps).1]; exact hlt
       have hin : inn[e]? = some inn[e] := List.getElem?_eq_getElem hie
       have hcell := hrow.cells (g := b) rfl _ _ hin
       rw [hadd,Nat.zero_add] at hcell
       have hsz := deep_size hdeep
       have hone : inn[e].oneCell' = true := by
        obtain ⟨⟨e2,hr2⟩,_⟩ := hinn e _ _ _ ((subs_get hps).2 e (by rw [← (subs_get hps).1,← hlen]; exact hie)) hin (List.getElem?_eq_getElem (by omega))
        rcases hr2.2 with ⟨h9,_⟩ | ⟨_,_,_,h9,_⟩ <;> rw [h9] <;> rfl
       refine ⟨rfl,ran_val h hd (v := inn[e]) ?_ ?_⟩
       ·have hb := sh_isAgg (hT t _ hs) w
        have hval : a.eval x = .pointer (some ⟨b,e,none⟩) := by rw [hv,hsz]; simp
        simp [execOp,ho,Instr.loadAt,hval,Instr.sureAddr,loadVar,hb,Sh.isSt,hcell]
       ·simp only [RelV]
        exact ⟨hone,v,rv,p.size,p.sizei,_,inn,hL,Nat.le_refl _,fun _ => ⟨Nat.le_refl _,fun _ => hin⟩⟩
     ·cases he
   ·cases he
  ·cases he
 ·rename_i s ob ver rv k e fo hs hov
  rw [hov] at hx
  simp only [RelV] at hx
  split at he
  ·rename_i q hq
   obtain ⟨el,p,hg,hdeep,rfl⟩ := payOf_sub hq
   obtain ⟨hdr,inn,hL,hK,hown⟩ := arr_get h.owns hg hx
   obtain ⟨_,hK⟩ := hK
   obtain ⟨hi,hin,hE⟩ := hK rfl
   obtain ⟨ps,hps⟩ := subs_deep.1 hdeep
   unfold OwnAt at hown
   rw [hps] at hown
   obtain ⟨hrow,hlen,fps,hfl,hin2,_⟩ := hown
   have hk : k < inn.length := (List.getElem?_eq_some_iff.1 hin).1
   have hk' : k < p.len := by rw [← (subs_get hps).1,← hlen]; exact hk
   obtain ⟨⟨e',hrowk⟩,_⟩ := hin2 k _ _ _ ((subs_get hps).2 k hk') hin (List.getElem?_eq_getElem (by omega))
   obtain ⟨hsf,hss⟩ := sub_flat hdeep k
   rw [← hss] at hE
   obtain ⟨b,hb,hv,hlt,hc⟩ := own_cells hsf hrowk hE
   obtain ⟨r1,r2,r3⟩ := valsAt_rel (R := view w (Owned σ.ob fp)) (L := L) hsf e
   exact fin hs hv r1 r3 hc he
  ·cases he
 ·cases he
end
end Go.AM
namespace Go.AM
section
variable {P : Program} {T : TEnv} {w0 : World} {F0 : Nat → Prop} {L0 : Locs} {nt : Nat} {σ : ASt} {a : Act} {w : World} {L : Locs} {fp : Nat → List Nat}
theorem sh_desc {t : TypeId} {s : Sh} (h : shB P t s = true) : descB P t s = true := by
 unfold shB at h
 simp only [Bool.and_eq_true] at h
 exact h.1
theorem sh_slice {t : TypeId} {e : TypeId} {p : Pay} (h : shB P t (.slice e p) = true) : P.underlying t = some (.slice e) ∧ ∃ i,P.info? e = some i ∧ i.size = p.size ∧ i.bytes ≤ 64 := by
 have hd := sh_desc h
 simp only [descB,Bool.and_eq_true] at hd
 obtain ⟨⟨h1,_⟩,h2⟩ := hd
 refine ⟨?_,?_⟩
 ·split at h1
  ·rename_i e' hu
   simp only [decide_eq_true_eq] at h1
   subst h1
   exact hu
  ·cases h1
 ·split at h2
  ·rename_i i hi
   simp only [Bool.and_eq_true,decide_eq_true_eq] at h2
   exact ⟨i,hi,h2.1.1,h2.1.2⟩
  ·cases h2
theorem sh_str {t : TypeId} (h : shB P t .str = true) : P.underlying t = some .string := by
 have hd := sh_desc h
 simp only [descB] at hd
 split at hd
 ·assumption
 ·cases hd
theorem sh_int {t : TypeId} {k : IntKind} (h : shB P t (.int k) = true) : P.underlying t = some (.int k) := by
 have hd := sh_desc h
 simp only [descB] at hd
 split at hd
 ·rename_i k' hu
  simp only [decide_eq_true_eq] at hd
  subst hd
  exact hu
 ·cases hd
theorem sh_struct {t : TypeId} {fs : List (Nat × Nat)} {z : List AV} {r : Bool} (h : shB P t (.struct fs z r) = true) : ∃ gs,P.underlying t = some (.struct gs) ∧ placesB P fs gs.toList = true := by
 have hd := sh_desc h
 simp only [descB,Bool.and_eq_true] at hd
 have h1 := hd.1
 split at h1
 ·rename_i gs hu
  simp only [Bool.and_eq_true] at h1
  exact ⟨gs,hu,h1.1⟩
 ·cases h1
theorem sh_some {t : TypeId} {s : Sh} (h : shB P t s = true) : ∃ d,P.underlying t = some d := by
 cases s with
 | int k => exact ⟨_,sh_int h⟩
 | str => exact ⟨_,sh_str h⟩
 | slice e p => exact ⟨_,(sh_slice h).1⟩
 | struct fs z r => obtain ⟨gs,h1,_⟩ := sh_struct h; exact ⟨_,h1⟩
 | bool => have hd := sh_desc h; simp only [descB] at hd; split at hd <;> first | exact ⟨_,by assumption⟩ | cases hd
 | ptr => have hd := sh_desc h; simp only [descB] at hd; split at hd <;> first | exact ⟨_,by assumption⟩ | cases hd
 | func => have hd := sh_desc h; simp only [descB] at hd; split at hd <;> first | exact ⟨_,by assumption⟩ | cases hd
theorem places_get : ∀ {fs : List (Nat × Nat)} {gs : List Field} (_ : placesB P fs gs = true) (i off ft : Nat),fs[i]? = some (off,ft) → ∃ f j,gs[i]? = some f ∧ f.offset = off ∧ f.type = ft ∧ P.info? ft = some j ∧ 0 < j.size
 | [],[],_,i,off,ft,hi => by simp at hi
 | [],_ :: _,h,_,_,_,_ => by simp [placesB] at h
 | _ :: _,[],h,_,_,_,_ => by simp [placesB] at h
 | (o,t) :: fs,g :: gs,h,i,off,ft,hi => by
  simp only [placesB,Bool.and_eq_true,decide_eq_true_eq] at h
  obtain ⟨⟨⟨h1,h2⟩,h4⟩,h3⟩ := h
  cases i with
  | zero =>
   simp at hi
   obtain ⟨rfl,rfl⟩ := hi
   split at h4
   ·rename_i j hj
    rw [h2] at hj
    exact ⟨g,j,rfl,h1,h2,hj,by simpa using h4⟩
   ·cases h4
  | succ i => simpa using places_get h3 i off ft (by simpa using hi)
theorem listAt_slice {R : View} {p : Pay} {v : Value} (h : ListAt R p v) : ∃ A c,v = .slice A p.len c ∧ p.len ≤ c ∧ (0 < p.len → ∃ b o,A = some ⟨b,o,none⟩) := by
 unfold ListAt at h
 split at h
 ·rename_i hs
  obtain ⟨A,c,h1,h2,h3⟩ := h
  refine ⟨A,c,h1,h2,fun hp => ?_⟩
  rcases h3 with h3 | ⟨b,o,cs,h3,_⟩
  ·have := vals_length hs
   rw [h3] at this
   have : p.len * p.size = 0 := by simpa using this.symm
   rcases Nat.mul_eq_zero.1 this with h | h
   ·omega
   ·cases p <;> simp [Pay.size] at h
  ·exact ⟨b,o,h3⟩
 ·rename_i ps hs
  obtain ⟨A,c,vs,h1,h2,h3,h4,_⟩ := h
  refine ⟨A,c,h1,h2,fun hp => ?_⟩
  rcases h3 with h3 | ⟨b,o,cs,h3,_⟩
  ·rw [h3] at h4; simp at h4; omega
  ·exact ⟨b,o,h3⟩
theorem own_slice {base e : TypeId} {size n : Nat} {hdr : Value} {xs : List Value} (h : w.ownsRow base e size hdr n xs) : ∃ A c,hdr = .slice A n c ∧ n ≤ c ∧ (0 < n → ∃ b,A = some ⟨b,0,none⟩) := by
 rcases h.2 with ⟨rfl,rfl⟩ | ⟨g,cap,cur,rfl,_,_,h1,_⟩
 ·exact ⟨none,0,rfl,Nat.le_refl _,fun h => absurd h (by omega)⟩
 ·exact ⟨_,_,rfl,h1,fun _ => ⟨g,rfl⟩⟩
theorem ownAt_slice {e : TypeId} {p : Pay} {hdr : Value} {inn : List Value} {f : List Nat} (h : OwnAt w e p hdr inn f) : ∃ A c,hdr = .slice A p.len c ∧ p.len ≤ c ∧ (0 < p.len → ∃ b,A = some ⟨b,0,none⟩) := by
 unfold OwnAt at h
 split at h
 ·exact own_slice h.2.1
 ·exact own_slice h.1
theorem pay_slice {v : AV} {u : Value} {p : Pay} (h : Owns w σ.ob L fp) (hv : RelV (view w (Owned σ.ob fp)) L v u) (hp : payOf σ.ob v = some p) (hns : ∀ o ver off len,v ≠ .slp o ver off len) :
  ∃ A c,u = .slice A p.len c ∧ p.len ≤ c := by
 cases v <;> simp only [payOf,reduceCtorEq,Option.some.injEq] at hp
 case list q => subst hp; obtain ⟨A,c,h1,h2,_⟩ := listAt_slice hv; exact ⟨A,c,h1,h2⟩
 case nil q =>
  subst hp
  simp only [RelV] at hv
  obtain ⟨rfl,h0⟩ := hv
  exact ⟨none,0,by rw [h0],by omega⟩
 case sl o ver =>
  obtain ⟨e,rv,hg⟩ := payOf_sl (ob := σ.ob) (o := o) (ver := ver) (q := p) (by simp only [payOf]; exact hp)
  simp only [RelV] at hv
  obtain ⟨hdr,inn,_,h1,h2⟩ := arr_get h hg hv
  subst h1
  obtain ⟨A,c,h3,h4,_⟩ := ownAt_slice h2
  exact ⟨A,c,h3,h4⟩
 case slp o ver off len => exact absurd rfl (hns o ver off len)
 case sub o ver rv k =>
  obtain ⟨e,q,hg,hdeep,rfl⟩ := payOf_sub (ob := σ.ob) (o := o) (ver := ver) (rv := rv) (k := k) (q := p) (by simp only [payOf]; exact hp)
  simp only [RelV] at hv
  obtain ⟨hdr,inn,_,h1,h2⟩ := arr_get h hg hv
  have hin := h1.2 rfl
  obtain ⟨ps,hps⟩ := subs_deep.1 hdeep
  unfold OwnAt at h2
  rw [hps] at h2
  obtain ⟨_,hlen,fps,hfl,h3,_⟩ := h2
  have hk : k < inn.length := (List.getElem?_eq_some_iff.1 hin).1
  have hk' : k < q.len := by rw [← (subs_get hps).1,← hlen]; exact hk
  obtain ⟨⟨e',h4⟩,_⟩ := h3 k _ _ _ ((subs_get hps).2 k hk') hin (List.getElem?_eq_getElem (by omega))
  obtain ⟨A,c,h5,h6,_⟩ := own_slice h4
  exact ⟨A,c,h5,h6⟩
theorem szOk_sh {t : Nat} {p : Pay} (hT : TOk P T) (h : szOk T t p = true) : ∃ e i,P.underlying t = some (.slice e) ∧ P.info? e = some i ∧ i.size = p.size := by
 unfold szOk at h
 split at h
 ·rename_i e q hs
  obtain ⟨h1,i,h2,h3,_⟩ := sh_slice (hT t _ hs)
  exact ⟨e,i,h1,h2,by rw [h3]; exact Nat.eq_of_beq_eq_true h⟩
 ·cases h
theorem run_indexAt_slice' {t e : TypeId} {i : TypeInfo} (hu : P.underlying t = some (.slice e)) (hi : P.info? e = some i) {b o len cap : Nat} {k : IntKind} {n : Int} (h : 0 ≤ n ∧ n < len) :
  (Instr.indexAt t (.slice (some ⟨b,o,none⟩) len cap) (.int k n)).run P w = .ok (.pointer (some ⟨b,o + n.toNat * i.size,none⟩)) w := by
 have hadd : ∀ j : Nat,(⟨b,o,none⟩ : Addr).add j = ⟨b,o + j,none⟩ := fun j => by unfold Addr.add; split <;> simp_all
 simp [Instr.indexAt,asIntOf,run_underlying hu,sizeOf,typeInfo,hi,h,hadd]
end
end Go.AM
namespace Go.AM
section
variable {P : Program} {T : TEnv} {w0 : World} {F0 : Nat → Prop} {L0 : Locs} {nt : Nat} {σ : ASt} {a : Act} {w : World} {L : Locs} {fp : Nat → List Nat}
variable {o : Oper} {cs : List Prop} {av : AV} {obs : List (Nat × Option AObj)}
theorem op_move {x : Operand} (hT : TOk P T) (h : StW w0 F0 L0 nt σ a w L fp) (hd : okDst nt o.dst = true) (ho : o.op = .move x ∨ o.op = .assign x)
  (he : evalOp T σ o = .ok cs av obs) : obs = [] ∧ Ran P o a w (St w0 F0 L0 nt ⟨put σ.sl o.dst av,σ.ob⟩) := by
 have he' : Out.ok [] (opv σ (getT T o.type) x) [] = .ok cs av obs := by rcases ho with ho | ho <;> simpa only [evalOp,ho] using he
 cases he'
 exact ⟨rfl,ran_val h hd (by rcases ho with ho | ho <;> simp [execOp,ho]) (opv_rel hT h _ x)⟩
theorem op_pick {c x y : Operand} (h : StW w0 F0 L0 nt σ a w L fp) (hd : okDst nt o.dst = true) (ho : o.op = .pick c x y)
  (he : evalOp T σ o = .ok cs av obs) : obs = [] ∧ Ran P o a w (St w0 F0 L0 nt ⟨put σ.sl o.dst av,σ.ob⟩) := by
 simp only [evalOp,ho] at he
 have hc := opv_rel_none h c
 have hx := opv_rel_none h x
 have hy := opv_rel_none h y
 split at he
 ·rename_i hv
  cases he
  rw [hv] at hc
  simp only [RelV] at hc
  exact ⟨rfl,ran_val h hd (by simp [execOp,ho,hc,asBool]) hx⟩
 ·rename_i hv
  cases he
  rw [hv] at hc
  simp only [RelV] at hc
  exact ⟨rfl,ran_val h hd (by simp [execOp,ho,hc,asBool]) hy⟩
 ·rename_i b hv
  rw [hv] at hc
  simp only [RelV] at hc
  split at he
  ·rename_i p q hp hq
   cases he
   rw [hp] at hx
   rw [hq] at hy
   simp only [RelV] at hx hy
   refine ⟨rfl,ran_val h hd (v := .bool (bif b then p else q)) ?_ (by simp [RelV])⟩
   cases b <;> simp [execOp,ho,hc,asBool,hx,hy]
  ·cases he
 ·cases he
theorem op_nilCheck {x : Operand} (h : StW w0 F0 L0 nt σ a w L fp) (hd : okDst nt o.dst = true) (ho : o.op = .nilCheck x)
  (he : evalOp T σ o = .ok cs av obs) : obs = [] ∧ Ran P o a w (St w0 F0 L0 nt ⟨put σ.sl o.dst av,σ.ob⟩) := by
 simp only [evalOp,ho] at he
 have hx := opv_rel_none h x
 split at he
 ·rename_i hv
  cases he
  rw [hv] at hx
  have hx' := hx
  simp only [RelV] at hx
  obtain ⟨b,_,hx⟩ := hx
  exact ⟨rfl,ran_val h hd (v := a.eval x) (by simp [execOp,ho,hx]) hx'⟩
 ·rename_i hv
  cases he
  rw [hv] at hx
  have hx' := hx
  simp only [RelV] at hx
  obtain ⟨b,vs,_,_,_,hx⟩ := hx
  exact ⟨rfl,ran_val h hd (v := a.eval x) (by simp [execOp,ho,hx]) hx'⟩
 ·cases he
theorem list_nil {R : View} {p : Pay} {v : Value} (h : ListAt R p v) : ∃ A c,v = .slice A p.len c ∧ (A = none → p.len = 0) := by
 unfold ListAt at h
 split at h
 ·rename_i hs
  obtain ⟨A,c,h1,h2,h3⟩ := h
  refine ⟨A,c,h1,fun hn => ?_⟩
  rcases h3 with h3 | ⟨b,off,cs,h4,_⟩
  ·have hl := vals_length hs
   rw [h3] at hl
   simp only [List.length_nil] at hl
   have hp : 0 < p.size := by cases p <;> simp [Pay.size]
   rcases Nat.mul_eq_zero.1 hl.symm with h5 | h5 <;> omega
  ·rw [hn] at h4; cases h4
 ·obtain ⟨A,c,vs,h1,h2,h3,h4,_⟩ := h
  refine ⟨A,c,h1,fun hn => ?_⟩
  rcases h3 with h3 | ⟨b,off,cs,h5,_⟩
  ·rw [h3] at h4; simpa using h4.symm
  ·rw [hn] at h5; cases h5
theorem op_binOp {op : BinOp} {t u : TypeId} {x y : Operand} (hT : TOk P T) (h : StW w0 F0 L0 nt σ a w L fp) (hd : okDst nt o.dst = true) (ho : o.op = .binOp op t x y u)
  (he : evalOp T σ o = .ok cs av obs) (hc : AllP cs) : obs = [] ∧ Ran P o a w (St w0 F0 L0 nt ⟨put σ.sl o.dst av,σ.ob⟩) := by
 simp only [evalOp,ho] at he
 split at he
 ·rename_i e0 p0 p hty hx hy
  cases he
  have hxr := opv_rel_none h x
  rw [hx] at hxr
  simp only [RelV] at hxr
  obtain ⟨A,c,hv,hA⟩ := list_nil hxr
  have hu : P.underlying t = some (.slice e0) := by
   have := hT t _ hty
   unfold shB at this
   simp only [descB,Bool.and_eq_true] at this
   obtain ⟨⟨⟨h1,_⟩,_⟩,_⟩ := this
   split at h1
   ·rename_i e' he'
    have := of_decide_eq_true h1
    subst this
    exact he'
   ·cases h1
  have hye : a.eval y = .slice none 0 0 := by
   unfold isNilC at hy
   split at hy
   ·rfl
   ·cases hy
  refine ⟨rfl,ran_val h hd (v := .bool A.isNone) ?_ ?_⟩
  ·simp only [execOp,ho,hv,hye]
   rw [Sem.run_bind,Sem.run_bind]
   simp [eqGuard,Go.Lib.run_eql_slice_nil w t e0 A p.len c 0 0 hu]
  ·simp only [RelV]
   exact ⟨_,rfl,fun hn => hA (by simpa using hn)⟩
 obtain ⟨rfl,r,h1,h2⟩ := run_binV (P := P) (t := t) (x := x) (y := y) (w := w) hT he hc (opv_rel_none h x) (opv_rel_none h y)
 refine ⟨rfl,ran_val h hd (v := r) ?_ h2⟩
 simp only [execOp,ho]
 rw [Sem.run_bind,h1]
 rfl
theorem op_unOp {op : UnOp} {t : TypeId} {x : Operand} (h : StW w0 F0 L0 nt σ a w L fp) (hd : okDst nt o.dst = true) (ho : o.op = .unOp op t x)
  (he : evalOp T σ o = .ok cs av obs) : obs = [] ∧ Ran P o a w (St w0 F0 L0 nt ⟨put σ.sl o.dst av,σ.ob⟩) := by
 simp only [evalOp,ho] at he
 have hx := opv_rel_none h x
 split at he
 ·rename_i b hv
  cases he
  rw [hv] at hx
  simp only [RelV] at hx
  exact ⟨rfl,ran_val h hd (v := .bool !b) (by simp [execOp,ho,hx,Op.unary]) (by simp [RelV])⟩
 ·rename_i k n hv
  cases he
  rw [hv] at hx
  simp only [RelV] at hx
  exact ⟨rfl,ran_val h hd (v := .int k (k.wrap (0 - n))) (by simp [execOp,ho,hx,Op.unary,Op.intArith]) (by simp [RelV])⟩
 ·cases he
theorem op_makeFunc {f : FuncId} {x y : Array Operand} (h : StW w0 F0 L0 nt σ a w L fp) (hd : okDst nt o.dst = true) (ho : o.op = .makeFunc (.func f) x y)
  (he : evalOp T σ o = .ok cs av obs) : obs = [] ∧ Ran P o a w (St w0 F0 L0 nt ⟨put σ.sl o.dst av,σ.ob⟩) := by
 simp only [evalOp,ho] at he
 cases he
 have hl : ∀ l : List Operand,RelVs (view w (Owned σ.ob fp)) L (l.map (opv σ none)) (l.map a.eval) := fun l =>
  RelVs.of_get (by simp) fun i u v hu hv => by
   simp only [List.getElem?_map,Option.map_eq_some_iff] at hu hv
   obtain ⟨z,h1,rfl⟩ := hu
   obtain ⟨z',h2,rfl⟩ := hv
   rw [h1] at h2
   cases h2
   exact opv_rel_none h z
 refine ⟨rfl,ran_val h hd (v := .func (.func f) (x.map a.eval) (y.map a.eval)) (by simp [execOp,ho,Instr.makeFunc]) ?_⟩
 exact ⟨_,_,rfl,by simpa using hl x.toList,by simpa using hl y.toList⟩
theorem EltAt.shift {e fo off sz : Nat} {hdr : Value} {b o0 : Nat} (h : EltAt e fo sz hdr (.pointer (some ⟨b,o0,none⟩))) : EltAt e (fo + off) sz hdr (.pointer (some ⟨b,o0 + off,none⟩)) := by
 obtain ⟨b',o1,n,c,h1,h2,h3⟩ := h
 injection h3 with h3
 injection h3 with h3
 injection h3 with h3 h4
 subst h3 h4
 exact ⟨b,o1,n,c,h1,h2,by rw [Nat.add_assoc]⟩
theorem EltAt.ptr {e fo sz : Nat} {hdr v : Value} (h : EltAt e fo sz hdr v) : ∃ b o0,v = .pointer (some ⟨b,o0,none⟩) := by
 obtain ⟨b',o1,n,c,h1,h2,h3⟩ := h
 exact ⟨_,_,h3⟩
theorem op_fieldAddr {t : TypeId} {x : Operand} {f : Nat} (hT : TOk P T) (h : StW w0 F0 L0 nt σ a w L fp) (hd : okDst nt o.dst = true) (ho : o.op = .fieldAddr t x f)
  (he : evalOp T σ o = .ok cs av obs) : obs = [] ∧ Ran P o a w (St w0 F0 L0 nt ⟨put σ.sl o.dst av,σ.ob⟩) := by
 simp only [evalOp,ho] at he
 have hx := opv_rel_none h x
 have fin : ∀ {fs z r off ft b o0},getT T t = some (.struct fs z r) → fs[f]? = some (off,ft) → a.eval x = .pointer (some ⟨b,o0,none⟩) →
   (execOp a.eval o).run P w = .ok (.value (.pointer (some ⟨b,o0 + off,none⟩))) w := by
  intro fs z r off ft b o0 hs hf hax
  obtain ⟨gs,h1,h2⟩ := sh_struct (hT t _ hs)
  obtain ⟨g,j,h3,h4,h5,h6,h7⟩ := places_get h2 f off ft hf
  have h8 : ¬ j.size = 0 := by omega
  have hadd : (⟨b,o0,none⟩ : Addr).add off = ⟨b,o0 + off,none⟩ := by unfold Addr.add; split <;> simp_all
  have h3' : gs[f]? = some g := by simpa using h3
  simp [execOp,ho,Instr.fieldAt,run_underlying h1,h3',hax,Instr.sureAddr,fieldPlace,h4,h5,sizeOf,typeInfo,h6,h8,hadd]
 split at he
 ·rename_i fs z r ob i hs hov
  rw [hov] at hx
  split at he
  ·rename_i off ft hf
   cases he
   obtain ⟨b,hb,hv⟩ := hx
   exact ⟨rfl,ran_val h hd (fin hs hf hv) ⟨b,hb,rfl⟩⟩
  ·cases he
 ·rename_i fs z r p e i hs hov
  rw [hov] at hx
  split at he
  ·rename_i off ft hf
   cases he
   simp only [RelV] at hx
   obtain ⟨hdr,h1,h2⟩ := hx
   obtain ⟨b,o0,hv⟩ := h2.ptr
   rw [hv] at h2
   exact ⟨rfl,ran_val h hd (fin hs hf hv) (by simp only [RelV]; exact ⟨hdr,h1,h2.shift⟩)⟩
  ·cases he
 ·rename_i fs z r cells i hs hov
  rw [hov] at hx
  split at he
  ·rename_i off ft hf
   cases he
   simp only [RelV] at hx
   obtain ⟨b,vs,h1,h2,h3,hv⟩ := hx
   exact ⟨rfl,ran_val h hd (fin hs hf hv) (by simp only [RelV]; exact ⟨b,vs,h1,h2,h3,rfl⟩)⟩
  ·cases he
 ·rename_i fs z r ob ver e i hs hov
  rw [hov] at hx
  split at he
  ·rename_i off ft q hf hp
   cases he
   obtain ⟨e',rv',hg⟩ := payOf_sl hp
   simp only [RelV] at hx
   obtain ⟨hdr,inn,h1,h4,_⟩ := arr_get h.owns hg hx
   obtain ⟨b,o0,hv⟩ := h4.ptr
   rw [hv] at h4
   exact ⟨rfl,ran_val h hd (fin hs hf hv) (by simp only [RelV]; exact ⟨rfl,_,_,_,_,_,_,h1,Nat.le_refl _,fun _ => h4.shift⟩)⟩
  ·cases he
 ·rename_i fs z r ob ver rv k e i hs hov
  rw [hov] at hx
  split at he
  ·rename_i off ft q hf hp
   cases he
   obtain ⟨e',p,hg,_⟩ := payOf_sub hp
   simp only [RelV] at hx
   obtain ⟨hdr,inn,h1,h4,_⟩ := arr_get h.owns hg hx
   obtain ⟨hdr',h5,h6⟩ := h4.2 rfl
   obtain ⟨b,o0,hv⟩ := h6.ptr
   rw [hv] at h6
   exact ⟨rfl,ran_val h hd (fin hs hf hv) (by simp only [RelV]; exact ⟨rfl,_,_,_,_,_,_,h1,Nat.le_refl _,fun _ => ⟨Nat.le_refl _,fun _ => ⟨hdr',h5,h6.shift⟩⟩⟩)⟩
  ·cases he
 ·cases he
theorem op_indexAddr {t : TypeId} {x i : Operand} (hT : TOk P T) (h : StW w0 F0 L0 nt σ a w L fp) (hd : okDst nt o.dst = true) (ho : o.op = .indexAddr t x i)
  (he : evalOp T σ o = .ok cs av obs) (hc : AllP cs) : obs = [] ∧ Ran P o a w (St w0 F0 L0 nt ⟨put σ.sl o.dst av,σ.ob⟩) := by
 simp only [evalOp,ho] at he
 have hx := opv_rel_none h x
 have hi := opv_rel_none h i
 have fin : ∀ {p : Pay} {b o0 len c : Nat} {k : IntKind} {n : Int},szOk T t p = true → a.eval x = .slice (some ⟨b,o0,none⟩) len c → a.eval i = .int k n → 0 ≤ n ∧ n < len →
   (execOp a.eval o).run P w = .ok (.value (.pointer (some ⟨b,o0 + n.toNat * p.size,none⟩))) w := by
  intro p b o0 len c k n hs hax hai hn
  obtain ⟨e,j,h1,h2,h3⟩ := szOk_sh hT hs
  have := run_indexAt_slice' (P := P) (w := w) h1 h2 (b := b) (o := o0) (len := len) (cap := c) (k := k) hn
  rw [h3] at this
  simp [execOp,ho,hax,hai,this]
 split at he
 ·rename_i p k n hov hin
  rw [hov] at hx
  rw [hin] at hi
  simp only [RelV] at hi
  split at he
  ·rename_i hs
   cases he
   simp only [AllP,and_true] at hc
   simp only [RelV] at hx
   obtain ⟨A,c,h1,h2,h3⟩ := listAt_slice hx
   obtain ⟨b,o0,rfl⟩ := h3 (by omega)
   refine ⟨rfl,ran_val h hd (fin hs h1 hi hc) ?_⟩
   simp only [RelV]
   exact ⟨a.eval x,hx,b,o0,p.len,c,h1,by omega,by simp⟩
  ·cases he
 ·rename_i ob ver k n hov hin
  rw [hov] at hx
  rw [hin] at hi
  simp only [RelV] at hi
  split at he
  ·rename_i p hp
   split at he
   ·rename_i hs
    cases he
    simp only [AllP,and_true] at hc
    obtain ⟨e',rv',hg⟩ := payOf_sl hp
    simp only [RelV] at hx
    obtain ⟨hdr,inn,h1,h4,h5⟩ := arr_get h.owns hg hx
    obtain ⟨A,c,h6,h7,h8⟩ := ownAt_slice h5
    obtain ⟨b,rfl⟩ := h8 (by omega)
    refine ⟨rfl,ran_val h hd (fin hs (h4.trans h6) hi hc) ?_⟩
    simp only [RelV]
    exact ⟨rfl,_,_,_,_,_,_,h1,Nat.le_refl _,fun _ => ⟨b,0,p.len,c,h6,by omega,by simp⟩⟩
   ·cases he
  ·split at he
   ·rename_i e0 v0 rv0 p k0 hg
    split at he
    ·rename_i hb
     simp only [Bool.and_eq_true,Bool.not_eq_true'] at hb
     obtain ⟨he0,hb⟩ := hb
     have he0 := Nat.ne_of_beq_eq_false he0
     have hve := Nat.eq_of_beq_eq_true hb.1
     subst hve
     cases he
     simp only [AllP,and_true] at hc
     simp only [RelV] at hx
     obtain ⟨hdr,inn,h1,h4,h5⟩ := hol_get h.owns hg hx
     obtain ⟨_,ps,u0,h6,_,h7,_⟩ : _ := h5.resolve_right fun h => he0 h.1
     obtain ⟨A,c,h8,h9,h10⟩ := own_slice h7
     obtain ⟨b,rfl⟩ := h10 (by omega)
     refine ⟨rfl,ran_val h hd (fin hb.2 (h4.trans h8) hi hc) ?_⟩
     simp only [RelV]
     exact ⟨rfl,_,_,_,_,_,_,h1,Nat.le_refl _,fun _ => ⟨b,0,p.len,c,h8,by omega,by simp⟩⟩
    ·cases he
   ·cases he
 ·rename_i ob ver off len kk n hov hin
  rw [hov] at hx
  rw [hin] at hi
  simp only [RelV] at hi
  split at he
  ·rename_i q hp
   split at he
   ·rename_i hs
    cases he
    simp only [AllP,and_true] at hc
    obtain ⟨e',rv',p,hg,hpd,hq⟩ := payOf_slp hp
    have hsz : q.size = p.size := by
     rw [hq]
     cases p <;> rfl
    simp only [RelV] at hx
    obtain ⟨hdr,inn,h1,h4,h5⟩ := arr_get h.owns hg hx
    obtain ⟨A,m,c,A',c',h6,h7,h8,_,h9,_⟩ := h4
    obtain ⟨b,o0,rfl,rfl⟩ := h9 (by omega)
    have hptr := fin (b := b) (o0 := o0 + off * p.size) (len := len) (c := c') (k := kk) hs h8 hi hc
    rw [hsz] at hptr
    refine ⟨rfl,ran_val h hd hptr ?_⟩
    simp only [RelV]
    refine ⟨rfl,_,_,_,_,_,_,h1,Nat.le_refl _,fun _ => ⟨b,o0,m,c,h6,by omega,?_⟩⟩
    rw [Nat.add_mul,Nat.add_zero,Nat.add_assoc]
   ·cases he
  ·cases he
 ·rename_i ob ver rv k kk n hov hin
  rw [hov] at hx
  rw [hin] at hi
  simp only [RelV] at hi
  split at he
  ·rename_i p hp
   split at he
   ·rename_i hs
    cases he
    simp only [AllP,and_true] at hc
    have hpay := pay_slice h.owns hx hp (by intros; simp)
    obtain ⟨e',q,hg,hdeep,rfl⟩ := payOf_sub hp
    simp only [RelV] at hx
    obtain ⟨hdr,inn,h1,h4,h5⟩ := arr_get h.owns hg hx
    have hin' := h4.2 rfl
    obtain ⟨ps,hps⟩ := subs_deep.1 hdeep
    unfold OwnAt at h5
    rw [hps] at h5
    obtain ⟨_,hlen,fps,hfl,h6,_⟩ := h5
    have hk : k < inn.length := (List.getElem?_eq_some_iff.1 hin').1
    have hk' : k < q.len := by rw [← (subs_get hps).1,← hlen]; exact hk
    obtain ⟨⟨e2,h7⟩,_⟩ := h6 k _ _ _ ((subs_get hps).2 k hk') hin' (List.getElem?_eq_getElem (by omega))
    obtain ⟨A,c,h8,h9,h10⟩ := own_slice h7
    obtain ⟨b,rfl⟩ := h10 (by omega)
    refine ⟨rfl,ran_val h hd (fin hs h8 hi hc) ?_⟩
    simp only [RelV]
    exact ⟨rfl,_,_,_,_,_,_,h1,Nat.le_refl _,fun _ => ⟨Nat.le_refl _,fun _ => ⟨_,hin',b,0,_,c,h8,by omega,by rw [(sub_flat hdeep k).2]; simp⟩⟩⟩
   ·cases he
  ·cases he
 ·cases he
theorem op_index {t : TypeId} {x i : Operand} (hT : TOk P T) (h : StW w0 F0 L0 nt σ a w L fp) (hd : okDst nt o.dst = true) (ho : o.op = .index t x i)
  (he : evalOp T σ o = .ok cs av obs) (hc : AllP cs) : obs = [] ∧ Ran P o a w (St w0 F0 L0 nt ⟨put σ.sl o.dst av,σ.ob⟩) := by
 simp only [evalOp,ho] at he
 have hx := opv_rel_none h x
 have hi := opv_rel_none h i
 split at he
 ·rename_i l k n hs hov hin
  cases he
  rw [hov] at hx
  rw [hin] at hi
  simp only [RelV] at hx hi
  simp only [AllP,and_true] at hc
  have hu := sh_str (hT t _ hs)
  have hlt : n.toNat < l.length := by omega
  refine ⟨rfl,ran_val h hd (v := .int .u8 (l.getD n.toNat 0).toNat) ?_ (by simp [RelV])⟩
  have hg : (⟨l.toArray⟩ : ByteArray)[n.toNat]? = some (l.getD n.toNat 0) := by
   have hsz : n.toNat < (⟨l.toArray⟩ : ByteArray).size := by simpa [ByteArray.size] using hlt
   rw [getElem?_pos (⟨l.toArray⟩ : ByteArray) n.toNat hsz]
   have : (⟨l.toArray⟩ : ByteArray)[n.toNat] = l[n.toNat] := rfl
   rw [this]
   simp [List.getD,hlt]
  simp [execOp,ho,hx,hi,Instr.index,asIntOf,run_underlying hu,hc.1,hg]
 ·cases he
theorem op_field {t : TypeId} {x : Operand} {f : Nat} (hT : TOk P T) (h : StW w0 F0 L0 nt σ a w L fp) (hd : okDst nt o.dst = true) (ho : o.op = .field t x f)
  (he : evalOp T σ o = .ok cs av obs) : obs = [] ∧ Ran P o a w (St w0 F0 L0 nt ⟨put σ.sl o.dst av,σ.ob⟩) := by
 simp only [evalOp,ho] at he
 have hx := opv_rel_none h x
 split at he
 ·rename_i fs z r cells hs hov
  rw [hov] at hx
  simp only [RelV] at hx
  obtain ⟨vs,hax,hr,hone⟩ := hx
  split at he
  ·rename_i off ft hf
   split at he
   ·rename_i s hst
    obtain ⟨rfl,rfl,rfl,hle⟩ := cut_ok he
    obtain ⟨gs,h1,h2⟩ := sh_struct (hT t _ hs)
    obtain ⟨g,j,h3,h4,h5,h6,h7⟩ := places_get h2 f off ft hf
    have h3' : gs[f]? = some g := by simpa using h3
    have hsh := hT ft _ hst
    have hlen := hr.length
    simp only [Array.length_toList] at hlen
    have hagg := sh_isAgg hsh w
    by_cases hS : s.isSt = true
    ·refine ⟨rfl,ran_val h hd (v := .agg (vs.extract off (off + s.size))) ?_ ?_⟩
     ·simp [execOp,ho,Instr.field,run_underlying h1,h3',hax,asAgg,part,h5,hagg,hS,sh_sizeOf hsh w,h4]
     ·cases s <;> simp [Sh.isSt] at hS
      simp only [pack,RelV]
      refine ⟨_,rfl,?_,?_⟩
      ·have := ((hr.drop off).take (Sh.struct ‹_› ‹_› ‹_›).size).wk
       rw [Array.toList_extract]
       simpa [List.extract,Nat.add_sub_cancel_left] using this
      ·intro u hu
       rw [Array.toList_extract] at hu
       exact hone u (List.mem_of_mem_drop (List.mem_of_mem_take (by simpa [List.extract] using hu)))
    ·have hsz : s.size = 1 := by cases s <;> simp [Sh.isSt,Sh.size] at hS ⊢
     have hlt : off < vs.size := by omega
     refine ⟨rfl,ran_val h hd (v := vs[off]) ?_ ?_⟩
     ·simp [execOp,ho,Instr.field,run_underlying h1,h3',hax,asAgg,part,h5,hagg,hS,h4,hlt]
     ·have hpk : ∀ x,pack s [x] = x := by intro x; cases s <;> simp [pack,Sh.isSt] at hS ⊢
      have hlt' : off < cells.length := by omega
      have h8 : (cells.drop off).take s.size = [cells[off]] := by rw [hsz,List.drop_eq_getElem_cons hlt']; rfl
      rw [h8,List.map_cons,List.map_nil,hpk]
      refine RelV.wk ?_
      exact hr.get off _ _ (List.getElem?_eq_getElem hlt') (by simp [hlt])
   ·cases he
  ·cases he
 ·cases he
theorem op_extract {x : Operand} {i : Nat} (h : StW w0 F0 L0 nt σ a w L fp) (hd : okDst nt o.dst = true) (ho : o.op = .extract x i)
  (he : evalOp T σ o = .ok cs av obs) : obs = [] ∧ Ran P o a w (St w0 F0 L0 nt ⟨put σ.sl o.dst av,σ.ob⟩) := by
 simp only [evalOp,ho] at he
 have hx := opv_rel_none h x
 split at he
 ·rename_i vs hov
  rw [hov] at hx
  simp only [RelV] at hx
  obtain ⟨us,hax,hr⟩ := hx
  split at he
  ·rename_i v hv
   cases he
   have hlen := hr.length
   have hlt : i < vs.length := (List.getElem?_eq_some_iff.1 hv).1
   simp only [Array.length_toList] at hlen
   have hlt' : i < us.size := by omega
   refine ⟨rfl,ran_val h hd (v := us[i]) ?_ (hr.get i _ _ hv (by simp [hlt']))⟩
   simp [execOp,ho,hax,Instr.extract,hlt']
  ·cases he
 ·cases he
end
end Go.AM
namespace Go.AM
section
variable {P : Program} {T : TEnv} {w0 : World} {F0 : Nat → Prop} {L0 : Locs} {nt : Nat} {σ : ASt} {a : Act} {w : World} {L : Locs} {fp : Nat → List Nat}
variable {o : Oper} {cs : List Prop} {av : AV} {obs : List (Nat × Option AObj)}
theorem slpAt_slice {off len sz : Nat} {hdr v : Value} (h : SlpAt off len sz hdr v) : ∃ A c,v = .slice A len c := by
 obtain ⟨A,n,c,A',c',_,_,h3,_⟩ := h
 exact ⟨A',c',h3⟩
theorem run_len_any {t ty e : TypeId} (hu : P.underlying t = some (.slice e)) (A : Option Addr) (n c : Nat) : (Builtin.len_ #[t] ty #[.slice A n c]).run P w = .ok (.int .i64 n) w := by
 simp [Builtin.len_,run_underlying hu,goInt]
theorem op_len {c : Call} (hT : TOk P T) (h : StW w0 F0 L0 nt σ a w L fp) (hd : okDst nt o.dst = true) (ho : o.op = .call c) (hcb : c.callee = .builtin .len)
  (he : evalOp T σ o = .ok cs av obs) : obs = [] ∧ Ran P o a w (St w0 F0 L0 nt ⟨put σ.sl o.dst av,σ.ob⟩) := by
 obtain ⟨callee,args,argTypes⟩ := c
 simp only at hcb
 subst hcb
 simp only [evalOp,ho] at he
 obtain ⟨args⟩ := args
 obtain ⟨argTypes⟩ := argTypes
 split at he
 ·rename_i x t hxs hts
  simp only at hxs hts
  subst hxs hts
  have hx := opv_rel_none h x
  split at he
  ·rename_i l hs hov
   cases he
   rw [hov] at hx
   simp only [RelV] at hx
   have hu := sh_str (hT t _ hs)
   refine ⟨rfl,ran_val h hd (v := .int .i64 l.length) ?_ (by simp [RelV])⟩
   have hrun : (Builtin.len_ #[t] o.type #[.string ⟨l.toArray⟩]).run P w = .ok (.int .i64 l.length) w := by
    simp only [Builtin.len_,Sem.run_bind,run_underlying hu,List.getElem?_toArray,List.getElem?_cons_zero,Result.andThen_ok,Sem.run_pure,goInt]
    rfl
   simp [execOp,ho,resolve,invoke,builtin,hx,hrun]
  ·rename_i e p ob ver off len hs hov
   split at he
   ·rename_i q hq
    cases he
    rw [hov] at hx
    simp only [RelV] at hx
    obtain ⟨e',rv,p',hg,_⟩ := payOf_slp hq
    obtain ⟨hdr,inn,_,h1,_⟩ := arr_get h.owns hg hx
    obtain ⟨A,c,h2⟩ := slpAt_slice h1
    obtain ⟨hu,_⟩ := sh_slice (hT t _ hs)
    refine ⟨rfl,ran_val h hd (v := .int .i64 len) ?_ (by simp [RelV])⟩
    simp [execOp,ho,resolve,invoke,builtin,h2,run_len_any hu]
   ·cases he
  ·rename_i e p v hs hnslp
   obtain ⟨hu,_⟩ := sh_slice (hT t _ hs)
   split at he
   ·rename_i q hq
    cases he
    obtain ⟨A,c,h1,h2⟩ := pay_slice h.owns hx hq (fun o ver off len heq => hnslp o ver off len heq)
    refine ⟨rfl,ran_val h hd (v := .int .i64 q.len) ?_ (by simp [RelV])⟩
    simp [execOp,ho,resolve,invoke,builtin,h1,run_len_any hu]
   ·cases he
  ·cases he
 ·cases he
theorem op_max {c : Call} (h : StW w0 F0 L0 nt σ a w L fp) (hd : okDst nt o.dst = true) (ho : o.op = .call c) (hcb : c.callee = .builtin .max)
  (he : evalOp T σ o = .ok cs av obs) : obs = [] ∧ Ran P o a w (St w0 F0 L0 nt ⟨put σ.sl o.dst av,σ.ob⟩) := by
 obtain ⟨callee,args,argTypes⟩ := c
 simp only at hcb
 subst hcb
 simp only [evalOp,ho] at he
 obtain ⟨args⟩ := args
 simp only [maxV] at he
 split at he
 ·rename_i k p k' q hl
  rcases args with _ | ⟨x,_ | ⟨y,_ | ⟨z,r⟩⟩⟩
  ·simp at hl
  ·simp at hl
  ·simp only [List.map_cons,List.map_nil,List.cons.injEq,and_true] at hl
   cases he
   have hx := opv_rel_none h x
   have hy := opv_rel_none h y
   rw [hl.1] at hx
   rw [hl.2] at hy
   simp only [RelV] at hx hy
   refine ⟨rfl,ran_val h hd (v := .int k (if q > p then q else p)) ?_ (by simp [RelV])⟩
   simp [execOp,ho,resolve,invoke,builtin,hx,hy,run_max_int2]
  ·simp at hl
 ·cases he
theorem foldl_push (l : List UInt8) (r : ByteArray) : (l.map fun b : UInt8 => ((b.toNat : Nat) : Int)).foldl (fun r n => r.push (UInt8.ofNat n.toNat)) r = ⟨(r.data.toList ++ l).toArray⟩ := by
 induction l generalizing r with
 | nil => obtain ⟨⟨r⟩⟩ := r; simp
 | cons b l ih =>
  simp only [List.map_cons,List.foldl_cons,ih]
  obtain ⟨⟨r⟩⟩ := r
  simp [ByteArray.push]
theorem run_convert_bytes {s t e : TypeId} (hs : P.underlying s = some (.slice e)) (he : P.underlying e = some (.int .u8)) (ht : P.underlying t = some .string) (A : Option Addr) (l : List UInt8) (c : Nat)
  (hA : l ≠ [] → ∃ b o0,A = some ⟨b,o0,none⟩ ∧ ∀ (j : Nat) (u : Value),(Pay.bytes l).vals[j]? = some u → w.cell? ⟨b,o0 + j,none⟩ = some u) :
  (convert s t (.slice A l.length c)).run P w = .ok (.string ⟨l.toArray⟩) w := by
 rw [run_convert_bytes_string w s t e _ _ _ hs he ht]
 by_cases hl : l = []
 ·subst hl
  cases A with
  | none => simp [Conv.bytesToString]; rfl
  | some ad => simp [Conv.bytesToString,loadCells,loadCellsFrom]; rfl
 ·obtain ⟨b,o0,rfl,hc⟩ := hA hl
  have hadd : ∀ j : Nat,(⟨b,o0,none⟩ : Addr).add j = ⟨b,o0 + j,none⟩ := fun j => by unfold Addr.add; split <;> simp_all
  have hlc := run_loadCells_list (P := P) w ⟨b,o0,none⟩ (Pay.bytes l).vals (fun j v hv => by rw [hadd]; exact hc j v hv)
  have h1 : (Pay.bytes l).vals = (l.map fun b : UInt8 => ((b.toNat : Nat) : Int)).map (Value.int .u8) := by simp [Pay.vals]
  rw [h1] at hlc
  simp only [List.length_map] at hlc
  rw [run_bytesToString w _ _ _ _ hlc,foldl_push]
  rfl
theorem flatAt_cells {R : View} {p : Pay} {v : Value} (h : FlatAt R p v) : ∃ A c,v = .slice A p.len c ∧ (p.vals ≠ [] → ∃ b o0 cs,A = some ⟨b,o0,none⟩ ∧ R b = some cs ∧ ∀ (j : Nat) (u : Value),p.vals[j]? = some u → cs[o0 + j]? = some u) := by
 obtain ⟨A,c,h1,_,h3⟩ := h
 refine ⟨A,c,h1,fun hne => ?_⟩
 rcases h3 with h3 | ⟨b,o0,cs,h4,h5,h6⟩
 ·exact absurd h3 hne
 ·exact ⟨b,o0,cs,h4,h5,h6⟩
theorem op_convert {s t : TypeId} {x : Operand} (hT : TOk P T) (h : StW w0 F0 L0 nt σ a w L fp) (hd : okDst nt o.dst = true) (ho : o.op = .convert s t x)
  (he : evalOp T σ o = .ok cs av obs) : obs = [] ∧ Ran P o a w (St w0 F0 L0 nt ⟨put σ.sl o.dst av,σ.ob⟩) := by
 simp only [evalOp,ho] at he
 have hx := opv_rel_none h x
 have hbytes : ∀ {e : TypeId} {q : List UInt8},shB P s (.slice e (.bytes q)) = true → P.underlying s = some (.slice e) ∧ P.underlying e = some (.int .u8) := by
  intro e q hs
  refine ⟨(sh_slice hs).1,?_⟩
  have hd := sh_desc hs
  simp only [descB,Bool.and_eq_true] at hd
  obtain ⟨_,h2⟩ := hd
  split at h2
  ·simp only [Bool.and_eq_true] at h2
   obtain ⟨_,h3⟩ := h2
   split at h3
   ·simp only [Bool.and_eq_true] at h3
    obtain ⟨_,h4⟩ := h3
    split at h4
    all_goals first
     | contradiction
     | (split at h4
        ·assumption
        ·cases h4)
     | cases h4
   ·cases h3
  ·cases h2
 split at he
 ·rename_i s' k k' n hs ht hov
  cases he
  rw [hov] at hx
  simp only [RelV] at hx
  obtain ⟨d,hus⟩ := sh_some (hT s _ hs)
  have hut := sh_int (hT t _ ht)
  refine ⟨rfl,ran_val h hd (v := .int k (k.wrap n)) ?_ (by simp [RelV])⟩
  simp [execOp,ho,hx,convert,run_underlying hus,run_underlying hut,Conv.intToInt]
 ·rename_i e q l hs ht hov
  cases he
  rw [hov] at hx
  simp only [RelV,ListAt,Pay.subs] at hx
  obtain ⟨A,c,h1,h2⟩ := flatAt_cells hx
  obtain ⟨h3,h4⟩ := hbytes (hT s _ hs)
  refine ⟨rfl,ran_val h hd (v := .string ⟨l.toArray⟩) ?_ (by simp [RelV])⟩
  have hrun := run_convert_bytes (P := P) (w := w) h3 h4 (sh_str (hT t _ ht)) A l c (fun hl => by
   obtain ⟨b,o0,cs,h5,h6,h7⟩ := h2 (by simpa [Pay.vals] using hl)
   exact ⟨b,o0,h5,fun j u hu => by rw [view_cell h6]; exact h7 j u hu⟩)
  simp only [Pay.len] at h1
  simp [execOp,ho,h1,hrun]
 ·rename_i e q ob ver hs ht hov
  split at he
  ·rename_i l hp
   cases he
   rw [hov] at hx
   simp only [RelV] at hx
   obtain ⟨e',rv',hg⟩ := payOf_sl hp
   obtain ⟨hdr,inn,hL,h1,h2⟩ := arr_get h.owns hg hx
   obtain ⟨A,c,h5,h6,h7⟩ := ownAt_slice h2
   obtain ⟨h3,h4⟩ := hbytes (hT s _ hs)
   unfold OwnAt at h2
   simp only [Pay.subs] at h2
   refine ⟨rfl,ran_val h hd (v := .string ⟨l.toArray⟩) ?_ (by simp [RelV])⟩
   have hrun := run_convert_bytes (P := P) (w := w) h3 h4 (sh_str (hT t _ ht)) A l c (fun hl => by
    obtain ⟨b,rfl⟩ := h7 (List.length_pos_iff.2 hl)
    refine ⟨b,0,rfl,fun j u hu => ?_⟩
    have hadd : ∀ j : Nat,(⟨b,0,none⟩ : Addr).add j = ⟨b,0 + j,none⟩ := fun j => by unfold Addr.add; split <;> simp_all
    have := h2.2.1.cells (g := b) (by rw [h5]; rfl) j u hu
    rw [hadd] at this
    exact this)
   have h8 : a.eval x = .slice A l.length c := by rw [h1,h5]; rfl
   simp [execOp,ho,h8,hrun]
  ·cases he
 ·cases he
end
end Go.AM
namespace Go.AM
theorem vals_drop {p : Pay} (h : p.subs = none) (n : Nat) : (p.drop n).vals = p.vals.drop (n * p.size) := by
 cases p <;> simp only [Pay.subs,reduceCtorEq] at h
 case rats l =>
  simp only [Pay.drop,Pay.vals,Pay.size]
  induction n generalizing l with
  | zero => simp
  | succ n ih =>
   cases l with
   | nil => simp
   | cons q l =>
    have e : (n + 1) * 2 = n * 2 + 2 := by omega
    rw [List.drop_succ_cons,ih,e]
    simp
 all_goals simp [Pay.drop,Pay.vals,Pay.size,List.map_drop]
theorem vals_take {p : Pay} (h : p.subs = none) (n : Nat) : (p.take n).vals = p.vals.take (n * p.size) := by
 cases p <;> simp only [Pay.subs,reduceCtorEq] at h
 case rats l =>
  simp only [Pay.take,Pay.vals,Pay.size]
  induction n generalizing l with
  | zero => simp
  | succ n ih =>
   cases l with
   | nil => simp
   | cons q l =>
    have e : (n + 1) * 2 = n * 2 + 2 := by omega
    rw [List.take_succ_cons,e]
    simp [ih]
 all_goals simp [Pay.take,Pay.vals,Pay.size,List.map_take]
theorem len_drop (p : Pay) (n : Nat) : (p.drop n).len = p.len - n := by cases p <;> simp [Pay.drop,Pay.len]
theorem len_take (p : Pay) (n : Nat) : (p.take n).len = min n p.len := by cases p <;> simp [Pay.take,Pay.len]
theorem subs_drop {p : Pay} (h : p.isDeep = false) (n : Nat) : (p.drop n).subs = none ∧ (p.drop n).size = p.size ∧ (p.drop n).isDeep = false := by cases p <;> simp [Pay.isDeep] at h <;> simp [Pay.drop,Pay.subs,Pay.size,Pay.isDeep]
theorem subs_take {p : Pay} (h : p.isDeep = false) (n : Nat) : (p.take n).subs = none ∧ (p.take n).size = p.size ∧ (p.take n).isDeep = false := by cases p <;> simp [Pay.isDeep] at h <;> simp [Pay.take,Pay.subs,Pay.size,Pay.isDeep]
section
variable {P : Program} {T : TEnv} {w0 : World} {F0 : Nat → Prop} {L0 : Locs} {nt : Nat} {σ : ASt} {a : Act} {w : World} {L : Locs} {fp : Nat → List Nat}
variable {o : Oper} {cs : List Prop} {av : AV} {obs : List (Nat × Option AObj)}
def optInt : Option Int → Option Value
 | some n => some (.int .i64 n)
 | none => none
theorem run_sliceBound {k : IntKind} {n : Int} {y : Nat} {code : BoundsCode} (h : 0 ≤ n ∧ n ≤ y) : (Instr.sliceBound (.int k n) y code).run P w = .ok n.toNat w := by
 simp [Instr.sliceBound,asIntOf,h]
theorem run_bounds_lo {b : Bool} {len cap : Nat} {k : IntKind} {n : Int} (h : 0 ≤ n ∧ n ≤ len) : (Instr.sliceBounds b len cap (some (.int k n)) none none).run P w = .ok (n.toNat,len,cap) w := by
 simp [Instr.sliceBounds,run_sliceBound h]
theorem run_bounds_hi {b : Bool} {len cap : Nat} {k : IntKind} {n : Int} (h : 0 ≤ n ∧ n ≤ cap) : (Instr.sliceBounds b len cap none (some (.int k n)) none).run P w = .ok (0,n.toNat,cap) w := by
 cases b <;> simp [Instr.sliceBounds,run_sliceBound h]
theorem run_bounds_both {b : Bool} {len cap : Nat} {k k' : IntKind} {m n : Int} (h : 0 ≤ m ∧ m ≤ n ∧ n ≤ cap) : (Instr.sliceBounds b len cap (some (.int k m)) (some (.int k' n)) none).run P w = .ok (m.toNat,n.toNat,cap) w := by
 have h1 : 0 ≤ n ∧ n ≤ cap := by omega
 have h2 : 0 ≤ m ∧ m ≤ (n.toNat : Nat) := by omega
 cases b <;> simp [Instr.sliceBounds,run_sliceBound h1,run_sliceBound h2]
def cutA (A : Option Addr) (cap l sz : Nat) : Option Addr := if cap = l then A else A.map (·.add (l * sz))
theorem cutA_zero (A : Option Addr) (cap sz : Nat) : cutA A cap 0 sz = A := by
 unfold cutA
 cases A <;> simp [Addr.add]
theorem cutA_some {A : Option Addr} {cap l sz b o0 : Nat} (hA : A = some ⟨b,o0,none⟩) (h : l < cap) : cutA A cap l sz = some ⟨b,o0 + l * sz,none⟩ := by
 subst hA
 unfold cutA
 rw [if_neg (by omega)]
 simp only [Option.map_some]
 unfold Addr.add
 split <;> simp_all
theorem run_slice_sl {t e : TypeId} {i : TypeInfo} (hu : P.underlying t = some (.slice e)) (hi : P.info? e = some i) {A : Option Addr} {len cap l h : Nat} {lo hi' : Option Value}
  (hb : (Instr.sliceBounds true len cap lo hi' none).run P w = .ok (l,h,cap) w) :
  (Instr.sliceAt t (.slice A len cap) lo hi' none).run P w = .ok (.slice (cutA A cap l i.size) (h - l) (cap - l)) w := by
 simp [Instr.sliceAt,Instr.slice,run_underlying hu,hb,sizeOf,typeInfo,hi,cutA]
theorem run_slice_str {t : TypeId} (hu : P.underlying t = some .string) {l : List UInt8} {m h : Nat} {lo hi' : Option Value} (_ : h ≤ l.length)
  (hb : (Instr.sliceBounds false l.length l.length lo hi' none).run P w = .ok (m,h,l.length) w) :
  (Instr.sliceAt t (.string ⟨l.toArray⟩) lo hi' none).run P w = .ok (.string ⟨((l.drop m).take (h - m)).toArray⟩) w := by
 have hsz : (⟨l.toArray⟩ : ByteArray).size = l.length := rfl
 have hex : (⟨l.toArray⟩ : ByteArray).extract m h = ⟨((l.drop m).take (h - m)).toArray⟩ := by
  ext1
  rw [ByteArray.data_extract]
  simp [List.extract]
 simp [Instr.sliceAt,Instr.slice,run_underlying hu,hsz,hb,hex]
theorem flatAt_cut {R : View} {p : Pay} {A : Option Addr} {c l n : Nat} (hf : p.isDeep = false) (h : FlatAt R p (.slice A p.len c)) (hl : l + n ≤ p.len) :
  FlatAt R ((p.drop l).take n) (.slice (cutA A c l p.size) n (c - l)) := by
 obtain ⟨A',c',h1,h2,h3⟩ := h
 injection h1 with h1 _ h1'
 subst h1 h1'
 obtain ⟨d1,d2,d3⟩ := subs_drop hf l
 obtain ⟨t1,t2,t3⟩ := subs_take d3 n
 have hlen : ((p.drop l).take n).len = n := by rw [len_take,len_drop]; omega
 refine ⟨_,_,by rw [hlen],by rw [hlen]; omega,?_⟩
 by_cases hn : n = 0
 ·left
  have := vals_length t1
  rw [hlen] at this
  refine List.eq_nil_of_length_eq_zero (this.trans ?_)
  rw [hn,Nat.zero_mul]
 ·rcases h3 with h3 | ⟨b,o0,cells,h4,h5,h6⟩
  ·have := vals_length (subs_flat.1 hf)
   rw [h3] at this
   have : p.len * p.size = 0 := by simpa using this.symm
   rcases Nat.mul_eq_zero.1 this with h | h
   ·omega
   ·cases p <;> simp [Pay.size] at h
  ·right
   refine ⟨b,o0 + l * p.size,cells,cutA_some h4 (by omega),h5,fun j u hu => ?_⟩
   rw [vals_take d1,vals_drop (subs_flat.1 hf)] at hu
   rw [List.getElem?_take] at hu
   split at hu
   ·rw [List.getElem?_drop] at hu
    rw [Nat.add_assoc]
    exact h6 _ _ hu
   ·cases hu
theorem take_all (p : Pay) : p.take p.len = p := by cases p <;> simp [Pay.take,Pay.len]
theorem drop_zero' (p : Pay) : p.drop 0 = p := by cases p <;> simp [Pay.drop]
theorem op_slice {t : TypeId} {x : Operand} {lo hi : Option Operand} (hT : TOk P T) (h : StW w0 F0 L0 nt σ a w L fp) (hd : okDst nt o.dst = true) (ho : o.op = .slice t x lo hi none)
  (he : evalOp T σ o = .ok cs av obs) (hc : AllP cs) : obs = [] ∧ Ran P o a w (St w0 F0 L0 nt ⟨put σ.sl o.dst av,σ.ob⟩) := by
 simp only [evalOp,ho,sliceV] at he
 have hx := opv_rel_none h x
 have hlo : ∀ k n,lo.map (opv σ none) = some (.int k n) → lo.map a.eval = some (.int k n) := by
  intro k n hl
  cases lo with
  | none => cases hl
  | some y =>
   simp only [Option.map_some,Option.some.injEq] at hl ⊢
   have := opv_rel_none h y
   rw [hl] at this
   simpa [RelV] using this
 have hhi : ∀ k n,hi.map (opv σ none) = some (.int k n) → hi.map a.eval = some (.int k n) := by
  intro k n hl
  cases hi with
  | none => cases hl
  | some y =>
   simp only [Option.map_some,Option.some.injEq] at hl ⊢
   have := opv_rel_none h y
   rw [hl] at this
   simpa [RelV] using this
 have hno : ∀ z : Option Operand,z.map (opv σ none) = none → z.map a.eval = none := by intro z hz; cases z <;> simp at hz ⊢
 split at he
 ·rename_i l hov
  rw [hov] at hx
  simp only [RelV] at hx
  split at he
  ·rename_i k m hs hl hh
   cases he
   simp only [AllP,and_true] at hc
   refine ⟨rfl,ran_val h hd (v := .string ⟨(l.drop m.toNat).toArray⟩) ?_ (by simp [RelV])⟩
   have hrun := run_slice_str (P := P) (w := w) (sh_str (hT t _ hs)) (l := l) (Nat.le_refl _) (run_bounds_lo (P := P) (w := w) (b := false) (len := l.length) (cap := l.length) (k := k) (n := m) hc)
   have ht : (l.drop m.toNat).take (l.length - m.toNat) = l.drop m.toNat := List.take_of_length_le (by simp)
   rw [ht] at hrun
   simp only [execOp,ho,hx,hlo _ _ hl,hno _ hh,Option.map_none,Sem.run_bind,hrun,Result.andThen_ok,Sem.run_pure]
  ·rename_i k m hs hl hh
   cases he
   simp only [AllP,and_true] at hc
   refine ⟨rfl,ran_val h hd (v := .string ⟨(l.take m.toNat).toArray⟩) ?_ (by simp [RelV])⟩
   have hrun := run_slice_str (P := P) (w := w) (sh_str (hT t _ hs)) (l := l) (h := m.toNat) (by omega) (run_bounds_hi (P := P) (w := w) (b := false) (len := l.length) (cap := l.length) (k := k) (n := m) hc)
   simp only [List.drop_zero,Nat.sub_zero] at hrun
   simp only [execOp,ho,hx,hhi _ _ hh,hno _ hl,Option.map_none,Sem.run_bind,hrun,Result.andThen_ok,Sem.run_pure]
  ·rename_i k m k' m' hs hl hh
   cases he
   simp only [AllP,and_true] at hc
   refine ⟨rfl,ran_val h hd (v := .string ⟨((l.drop m.toNat).take (m'.toNat - m.toNat)).toArray⟩) ?_ (by simp [RelV])⟩
   have hrun := run_slice_str (P := P) (w := w) (sh_str (hT t _ hs)) (l := l) (h := m'.toNat) (by omega) (run_bounds_both (P := P) (w := w) (b := false) (len := l.length) (cap := l.length) (k := k) (k' := k') (m := m) (n := m') hc)
   simp only [execOp,ho,hx,hlo _ _ hl,hhi _ _ hh,Option.map_none,Sem.run_bind,hrun,Result.andThen_ok,Sem.run_pure]
  ·cases he
 ·rename_i p hov
  rw [hov] at hx
  simp only [RelV] at hx
  have fin : ∀ {l n h' : Nat} {c : Nat} {A : Option Addr} {lo' hi' : Option Value},szOk T t p = true → p.isDeep = false → a.eval x = .slice A p.len c → l + n ≤ p.len → n = h' - l → lo.map a.eval = lo' → hi.map a.eval = hi' →
    (Instr.sliceBounds true p.len c lo' hi' none).run P w = .ok (l,h',c) w → Ran P o a w (St w0 F0 L0 nt ⟨put σ.sl o.dst (.list ((p.drop l).take n)),σ.ob⟩) := by
   intro l n h' c A lo' hi' hs hdp hax hln hn hl1 hh1 hb
   obtain ⟨e,i,h1,h2,h3⟩ := szOk_sh hT hs
   have hrun := run_slice_sl (P := P) (w := w) h1 h2 (A := A) hb
   rw [h3,← hn] at hrun
   refine ran_val h hd (v := .slice (cutA A c l p.size) n (c - l)) ?_ ?_
   ·simp only [execOp,ho,hax,hl1,hh1,Option.map_none,Sem.run_bind,hrun,Result.andThen_ok,Sem.run_pure]
   ·simp only [RelV]
    unfold ListAt at hx ⊢
    obtain ⟨d1,d2,d3⟩ := subs_drop hdp l
    rw [(subs_take d3 n).1]
    rw [subs_flat.1 hdp,hax] at hx
    exact flatAt_cut hdp hx hln
  obtain ⟨A,c,h1,h2,_⟩ := listAt_slice hx
  split at he
  ·rename_i k m hs hdp hl hh
   cases he
   simp only [AllP,and_true] at hc
   refine ⟨rfl,?_⟩
   have := fin (l := m.toNat) (n := p.len - m.toNat) (h' := p.len) hs hdp h1 (by omega) rfl (hlo _ _ hl) (hno _ hh) (run_bounds_lo hc)
   have e : (p.drop m.toNat).take (p.len - m.toNat) = p.drop m.toNat := by rw [← len_drop]; exact take_all _
   rw [e] at this
   exact this
  ·rename_i k m hs hdp hl hh
   cases he
   simp only [AllP,and_true] at hc
   refine ⟨rfl,?_⟩
   have := fin (l := 0) (n := m.toNat) (h' := m.toNat) hs hdp h1 (by omega) rfl (hno _ hl) (hhi _ _ hh) (run_bounds_hi (by omega))
   rw [drop_zero'] at this
   exact this
  ·rename_i k m k' m' hs hdp hl hh
   cases he
   simp only [AllP,and_true] at hc
   exact ⟨rfl,fin (l := m.toNat) (n := m'.toNat - m.toNat) (h' := m'.toNat) hs hdp h1 (by omega) rfl (hlo _ _ hl) (hhi _ _ hh) (run_bounds_both (by omega))⟩
  ·cases he
 ·rename_i ob ver hov
  rw [hov] at hx
  simp only [RelV] at hx
  split at he
  ·rename_i p hp
   obtain ⟨e',rv,hg⟩ := payOf_sl hp
   obtain ⟨hdr,inn,hL,h4,h5⟩ := arr_get h.owns hg hx
   obtain ⟨A,c,h6,h7,h8⟩ := ownAt_slice h5
   have fin : ∀ {l n h' : Nat} {lo' hi' : Option Value},szOk T t p = true → l + n ≤ p.len → n = h' - l → lo.map a.eval = lo' → hi.map a.eval = hi' →
     (Instr.sliceBounds true p.len c lo' hi' none).run P w = .ok (l,h',c) w → Ran P o a w (St w0 F0 L0 nt ⟨put σ.sl o.dst (.slp ob ver l n),σ.ob⟩) := by
    intro l n h' lo' hi' hs hln hn hl1 hh1 hb
    obtain ⟨e,i,h1,h2,h3⟩ := szOk_sh hT hs
    have hrun := run_slice_sl (P := P) (w := w) h1 h2 (A := A) hb
    rw [h3,← hn] at hrun
    have hax : a.eval x = .slice A p.len c := h4.trans h6
    refine ran_val h hd (v := .slice (cutA A c l p.size) n (c - l)) ?_ ?_
    ·simp only [execOp,ho,hax,hl1,hh1,Option.map_none,Sem.run_bind,hrun,Result.andThen_ok,Sem.run_pure]
    ·simp only [RelV]
     refine ⟨rfl,_,_,_,_,_,_,hL,Nat.le_refl _,fun _ => ⟨A,p.len,c,_,_,h6,hln,rfl,by omega,fun hn0 => ?_,fun h0 => ?_⟩⟩
     ·obtain ⟨b,rfl⟩ := h8 (by omega)
      exact ⟨b,0,rfl,cutA_some rfl (by omega)⟩
     ·subst h0
      exact ⟨cutA_zero A c p.size,by omega⟩
   split at he
   ·rename_i k m hs hl hh
    cases he
    simp only [AllP,and_true] at hc
    exact ⟨rfl,fin (l := m.toNat) (n := p.len - m.toNat) (h' := p.len) hs (by omega) rfl (hlo _ _ hl) (hno _ hh) (run_bounds_lo hc)⟩
   ·rename_i k m hs hl hh
    cases he
    simp only [AllP,and_true] at hc
    exact ⟨rfl,fin (l := 0) (n := m.toNat) (h' := m.toNat) hs (by omega) rfl (hno _ hl) (hhi _ _ hh) (run_bounds_hi (by omega))⟩
   ·rename_i k m k' m' hs hl hh
    cases he
    simp only [AllP,and_true] at hc
    exact ⟨rfl,fin (l := m.toNat) (n := m'.toNat - m.toNat) (h' := m'.toNat) hs (by omega) rfl (hlo _ _ hl) (hhi _ _ hh) (run_bounds_both (by omega))⟩
   ·cases he
  ·cases he
 ·rename_i ob ver rv kk hov
  rw [hov] at hx
  simp only [RelV] at hx
  split at he
  ·rename_i q hp
   obtain ⟨e',p,hg,hdeep,hq⟩ := payOf_sub hp
   obtain ⟨hdr,inn,hL,h4,h5⟩ := arr_get h.owns hg hx
   have hin := h4.2 rfl
   obtain ⟨ps,hps⟩ := subs_deep.1 hdeep
   unfold OwnAt at h5
   rw [hps] at h5
   obtain ⟨_,hlen,fps,hfl,h6,_⟩ := h5
   have hk : kk < inn.length := (List.getElem?_eq_some_iff.1 hin).1
   have hk' : kk < p.len := by rw [← (subs_get hps).1,← hlen]; exact hk
   obtain ⟨⟨e2,h7⟩,_⟩ := h6 kk _ _ _ ((subs_get hps).2 kk hk') hin (List.getElem?_eq_getElem (by omega))
   rw [← hq] at h7
   have hqs : q.size = p.sizei := by rw [hq]; exact (sub_flat hdeep kk).2
   obtain ⟨A,c,g1,g2,g3⟩ := own_slice h7
   split at he
   ·rename_i k m hs hl hh
    cases he
    simp only [AllP,and_true] at hc
    obtain ⟨e,i,h1,h2,h3⟩ := szOk_sh hT hs
    have hrun := run_slice_sl (P := P) (w := w) h1 h2 (A := A) (run_bounds_lo (P := P) (w := w) (b := true) (len := q.len) (cap := c) (k := k) (n := m) hc)
    rw [h3] at hrun
    refine ⟨rfl,ran_val h hd (v := .slice (cutA A c m.toNat q.size) (q.len - m.toNat) (c - m.toNat)) ?_ ?_⟩
    ·simp only [execOp,ho,g1,hlo _ _ hl,hno _ hh,Option.map_none,Sem.run_bind,hrun,Result.andThen_ok,Sem.run_pure]
    ·simp only [RelV]
     refine ⟨rfl,_,_,_,_,_,_,hL,Nat.le_refl _,fun _ => ⟨Nat.le_refl _,fun _ => ⟨_,hin,A,q.len,c,_,_,g1,by omega,rfl,by omega,fun hn0 => ?_,fun h0 => ?_⟩⟩⟩
     ·obtain ⟨b,rfl⟩ := g3 (by omega)
      exact ⟨b,0,rfl,by rw [cutA_some rfl (by omega),hqs]⟩
     ·rw [h0]
      exact ⟨cutA_zero A c q.size,by omega⟩
   ·cases he
  ·cases he
 ·cases he
end
end Go.AM
namespace Go.AM
theorem cellsOf_rel {R : View} {L : Locs} {v : AV} {u : Value} {cs : List AV} (h : RelV R L v u) (hc : cellsOf v = some cs) : RelVs R L cs u.cells.toList ∧ ∀ x ∈ u.cells.toList,x.oneCell' = true := by
 have one : ∀ {v : AV} {u : Value},RelV R L v u → u.oneCell' = true → cs = [v] → RelVs R L cs u.cells.toList ∧ ∀ x ∈ u.cells.toList,x.oneCell' = true := by
  intro v u hv h1 hcs
  subst hcs
  have : u.cells = #[u] := by cases u <;> simp [Value.oneCell'] at h1 <;> rfl
  rw [this]
  simp only [RelVs,and_true]
  exact ⟨hv,by simpa using h1⟩
 cases v <;> simp only [cellsOf,reduceCtorEq,Option.some.injEq] at hc
 case agg l =>
  subst hc
  simp only [RelV] at h
  obtain ⟨vs,rfl,h2,h3⟩ := h
  exact ⟨h2,h3⟩
 case int k n => exact one h (by simp only [RelV] at h; rw [h]; rfl) hc.symm
 case bool b => exact one h (by simp only [RelV] at h; rw [h]; rfl) hc.symm
 case lst x p => exact one h (by simp only [RelV] at h; obtain ⟨A,c,h,_⟩ := listAt_slice h.2; rw [h]; rfl) hc.symm
 case anyb p => exact one h (by simp only [RelV] at h; obtain ⟨b,h,_⟩ := h; rw [h]; rfl) hc.symm
 case blit b => exact one h (by simp only [RelV] at h; rw [h]; rfl) hc.symm
 case str l => exact one h (by simp only [RelV] at h; rw [h]; rfl) hc.symm
 case nilp => exact one h (by simp only [RelV] at h; rw [h]; rfl) hc.symm
 case ptr o i => exact one h (by simp only [RelV] at h; obtain ⟨b,_,h⟩ := h; rw [h]; rfl) hc.symm
 case sl o ver => exact one h (by simp only [RelV] at h; exact h.1) hc.symm
 case slp o ver off len => exact one h (by simp only [RelV] at h; exact h.1) hc.symm
 case sub o ver rv k => exact one h (by simp only [RelV] at h; exact h.1) hc.symm
 case eptr o ver e fo => exact one h (by simp only [RelV] at h; exact h.1) hc.symm
 case selt o ver rv k e fo => exact one h (by simp only [RelV] at h; exact h.1) hc.symm
 case subp o ver rv k off len => exact one h (by simp only [RelV] at h; exact h.1) hc.symm
 case list p => exact one h (by simp only [RelV] at h; obtain ⟨A,c,h,_⟩ := listAt_slice h; rw [h]; rfl) hc.symm
 case nil p => exact one h (by simp only [RelV] at h; rw [h.1]; rfl) hc.symm
 case pelt p e fo => exact one h (by simp only [RelV] at h; obtain ⟨hdr,_,h⟩ := h; obtain ⟨b,o0,h⟩ := h.ptr; rw [h]; rfl) hc.symm
 case pbox l i => exact one h (by simp only [RelV] at h; obtain ⟨b,vs,_,_,_,h⟩ := h; rw [h]; rfl) hc.symm
 case func f x y => exact one h (by simp only [RelV] at h; obtain ⟨x,y,h,_⟩ := h; rw [h]; rfl) hc.symm
def setVals (xs : List Value) (off : Nat) : List Value → List Value
 | [] => xs
 | u :: r => setVals (xs.set off u) (off + 1) r
theorem setVals_length (us : List Value) : ∀ (xs : List Value) (off : Nat),(setVals xs off us).length = xs.length := by
 induction us with
 | nil => intro xs off; rfl
 | cons u r ih => intro xs off; simp [setVals,ih]
theorem setVals_rel {R : View} {L : Locs} : ∀ (vs : List AV) (us : List Value) (as : List AV) (xs : List Value) (off : Nat),RelVs R L as xs → RelVs R L vs us → RelVs R L (setCells as off vs) (setVals xs off us)
 | [],[],as,xs,off,h,_ => h
 | [],_ :: _,_,_,_,_,h => by simp [RelVs] at h
 | _ :: _,[],_,_,_,_,h => by simp [RelVs] at h
 | v :: vs,u :: us,as,xs,off,h,k => by
  simp only [RelVs] at k
  exact setVals_rel vs us _ _ (off + 1) (h.set off k.1) k.2
theorem setVals_one {us : List Value} (h : ∀ u ∈ us,u.oneCell' = true) : ∀ {xs : List Value} {off : Nat},(∀ u ∈ xs,u.oneCell' = true) → ∀ u ∈ setVals xs off us,u.oneCell' = true := by
 induction us with
 | nil => intro xs off hx; exact hx
 | cons v r ih =>
  intro xs off hx
  refine ih (fun u hu => h u (by simp [hu])) (fun u hu => ?_)
  rcases List.mem_or_eq_of_mem_set hu with h1 | h1
  ·exact hx u h1
  ·subst h1; exact h _ (by simp)
theorem foldl_setVals (us : List Value) : ∀ (xs : Array Value) (off j : Nat),((us.zipIdx j).foldl (fun cs x => cs.setIfInBounds (off + x.2) x.1) xs).toList = setVals xs.toList (off + j) us := by
 induction us with
 | nil => intro xs off j; rfl
 | cons u r ih =>
  intro xs off j
  simp only [List.zipIdx_cons,List.foldl_cons,setVals]
  rw [ih,Array.toList_setIfInBounds,Nat.add_assoc]
theorem setVals_seg (us : List Value) : ∀ (xs : List Value) (off : Nat),off + us.length ≤ xs.length → setVals xs off us = xs.take off ++ us ++ xs.drop (off + us.length) := by
 induction us with
 | nil => intro xs off h; simp [setVals]
 | cons u r ih =>
  intro xs off h
  simp only [List.length_cons] at h
  simp only [setVals]
  rw [ih _ _ (by simp; omega)]
  have e := list_seg_step xs off u r (by omega)
  simpa [Nat.add_assoc,Nat.add_comm 1] using e
section
variable {P : Program} {T : TEnv} {w0 : World} {F0 : Nat → Prop} {L0 : Locs} {nt : Nat} {σ : ASt} {a : Act} {w : World} {L : Locs} {fp : Nat → List Nat}
variable {o : Oper} {cs : List Prop} {av : AV} {obs : List (Nat × Option AObj)}
theorem szIs_info {t n : Nat} (hT : TOk P T) (h : szIs T t n = true) : ∃ i,P.info? t = some i ∧ i.size = n := by
 unfold szIs at h
 split at h
 ·rename_i s hs
  obtain ⟨i,z,h1,h2,_⟩ := sh_info (hT t s hs)
  exact ⟨i,h1,by rw [h2]; exact Nat.eq_of_beq_eq_true h⟩
 ·cases h
theorem fill_rel {R : View} {fs : List (Nat × Nat)} {places : List (Nat × Nat)} (hT : TOk P T)
  (hpl : ∀ (i off ft : Nat) (j : TypeInfo),fs[i]? = some (off,ft) → P.info? ft = some j → places[i]? = some (off,j.size)) :
  ∀ (parts : List (Nat × AV)) (vals : List (Nat × Value)) (as : List AV) (xs : Array Value),parts.length = vals.length →
   (∀ (k : Nat) (f g : Nat) (v : AV) (u : Value),parts[k]? = some (f,v) → vals[k]? = some (g,u) → f = g ∧ RelV R L v u) → RelVs R L as xs.toList → (∀ u ∈ xs.toList,u.oneCell' = true) → ∀ cs,buildCells T fs as parts = some cs →
   ∃ ys : Array Value,Instr.fill (places.toArray[·]?) xs vals = some ys ∧ RelVs R L cs ys.toList ∧ ∀ u ∈ ys.toList,u.oneCell' = true
 | [],[],as,xs,_,_,hr,h1,cs,hb => by
  simp only [buildCells,Option.some.injEq] at hb
  subst hb
  exact ⟨xs,rfl,hr,h1⟩
 | [],_ :: _,_,_,hl,_,_,_,_,_ => by simp at hl
 | _ :: _,[],_,_,hl,_,_,_,_,_ => by simp at hl
 | (f,v) :: parts,(g,u) :: vals,as,xs,hl,hp,hr,h1,cs,hb => by
  obtain ⟨rfl,hv⟩ := hp 0 f g v u rfl rfl
  simp only [buildCells] at hb
  split at hb
  ·rename_i off ft vs hf hcv
   split at hb
   ·rename_i hsz hle
    obtain ⟨j,hj,hjs⟩ := szIs_info hT hsz
    obtain ⟨c1,c2⟩ := cellsOf_rel hv hcv
    have hlen : u.cells.size = vs.length := by have := c1.length; simpa using this.symm
    have hle' := Nat.le_of_ble_eq_true hle
    have hxs := hr.length
    simp only [Array.length_toList] at hxs
    have hplace := hpl f off ft j hf hj
    have hfold : (u.cells.zipIdx.foldl (fun cs x => cs.setIfInBounds (off + x.2) x.1) xs).toList = setVals xs.toList off u.cells.toList := by
     have := foldl_setVals u.cells.toList xs off 0
     rw [Nat.add_zero] at this
     rw [← this,← Array.foldl_toList]
     simp
    obtain ⟨ys,y1,y2,y3⟩ := fill_rel hT hpl parts vals (setCells as off vs) (u.cells.zipIdx.foldl (fun cs x => cs.setIfInBounds (off + x.2) x.1) xs) (by simpa using hl)
     (fun k f' g' v' u' hk hk' => hp (k + 1) f' g' v' u' (by simpa using hk) (by simpa using hk')) (by rw [hfold]; exact setVals_rel _ _ _ _ _ hr c1) (by rw [hfold]; exact setVals_one c2 h1) cs hb
    refine ⟨ys,?_,y2,y3⟩
    have hpl' : places.toArray[f]? = some (off,j.size) := by simpa using hplace
    simp only [Instr.fill,hpl',hjs,hlen]
    have hno : (vs.length != vs.length || decide (off + vs.length > xs.size)) = false := by simp; omega
    simp only [ne_eq,not_true_eq_false,decide_false,Bool.false_or]
    rw [if_neg (by simp; omega)]
    exact y1
   ·cases hb
  ·cases hb
theorem places_mapM : ∀ {fs : List (Nat × Nat)} {gl : List Field} (_ : placesB P fs gl = true),∃ places : List (Nat × Nat),gl.mapM (fun f => (P.info? f.type).map fun i => (f.offset,i.size)) = some places ∧
  ∀ (i off ft : Nat) (j : TypeInfo),fs[i]? = some (off,ft) → P.info? ft = some j → places[i]? = some (off,j.size)
 | [],[],_ => ⟨[],by simp,by intro i off ft j hi; simp at hi⟩
 | [],_ :: _,h => by simp [placesB] at h
 | _ :: _,[],h => by simp [placesB] at h
 | (off,ft) :: fs,g :: gl,h2 => by
  simp only [placesB,Bool.and_eq_true,decide_eq_true_eq] at h2
  obtain ⟨⟨⟨p1,p2⟩,p3⟩,p4⟩ := h2
  obtain ⟨pl,q1,q2⟩ := places_mapM p4
  split at p3
  ·rename_i j hj
   refine ⟨(off,j.size) :: pl,by simp [List.mapM_cons,hj,q1,p1],fun i off' ft' j' hi hj' => ?_⟩
   cases i with
   | zero =>
    simp only [List.getElem?_cons_zero,Option.some.injEq,Prod.mk.injEq] at hi ⊢
    obtain ⟨rfl,rfl⟩ := hi
    rw [p2] at hj
    rw [hj] at hj'
    cases hj'
    exact ⟨rfl,rfl⟩
   | succ i => simpa using q2 i off' ft' j' (by simpa using hi) hj'
  ·cases p3
theorem op_build {t : TypeId} {parts : Array (Nat × Operand)} (hT : TOk P T) (h : StW w0 F0 L0 nt σ a w L fp) (hd : okDst nt o.dst = true) (ho : o.op = .build t parts)
  (he : evalOp T σ o = .ok cs av obs) : obs = [] ∧ Ran P o a w (St w0 F0 L0 nt ⟨put σ.sl o.dst av,σ.ob⟩) := by
 simp only [evalOp,ho] at he
 split at he
 ·rename_i fs z r hs
  split at he
  ·rename_i cells hb
   cases he
   obtain ⟨gs,h1,h2⟩ := sh_struct (hT t _ hs)
   obtain ⟨i,zv,i1,i2,i3,i4,i5⟩ := sh_info (hT t _ hs)
   obtain ⟨z1,z2⟩ := zeroB_rel (R := view w (Owned σ.ob fp)) (L := L) i4
   have hpl := places_mapM h2
   obtain ⟨places,hm,hpl⟩ := hpl
   obtain ⟨ys,y1,y2,y3⟩ := fill_rel (L := L) (R := view w (Owned σ.ob fp)) hT hpl (parts.toList.map fun x => (x.1,opv σ none x.2)) (parts.toList.map fun x => (x.1,a.eval x.2)) z zv.cells (by simp)
    (fun k f g v u hk hk' => by
     simp only [List.getElem?_map,Option.map_eq_some_iff] at hk hk'
     obtain ⟨x,x1,x2⟩ := hk
     obtain ⟨y,y1,y2⟩ := hk'
     rw [x1] at y1
     cases y1
     cases x2
     cases y2
     exact ⟨rfl,opv_rel_none h _⟩) z1 z2 _ hb
   refine ⟨rfl,ran_val h hd (v := .agg ys) ?_ ⟨ys,rfl,y2,y3⟩⟩
   have hbuilt : P.built t (parts.map fun x => (x.1,a.eval x.2)).toList = some ys := by
    simp only [Program.built,i1,h1,i3,hm]
    simpa using y1
   have := run_build (P := P) w t (parts.map fun x => (x.1,a.eval x.2)) ys hbuilt
   simp only [execOp,ho,Sem.run_bind]
   rw [this]
   rfl
  ·cases he
 ·cases he
end
end Go.AM
namespace Go.AM
theorem World.heap_alloc_keep (w : World) (x : Obj) (b : Nat) (hb : b < w.heap.size) : (w.alloc x).heap[b]? = w.heap[b]? := by
 show (w.heap.push x)[b]? = _
 rw [Array.getElem?_push,if_neg (by omega)]
theorem getO_del (ob : List (Nat × AObj)) (u o : Nat) : getO (delO ob u) o = if o = u then none else getO ob o := by
 induction ob with
 | nil => simp [delO,getO]
 | cons x r ih =>
  obtain ⟨j,y⟩ := x
  simp only [delO]
  by_cases hj : j = u
  ·rw [if_pos hj,ih]
   by_cases ho : o = u
   ·simp [ho]
   ·rw [if_neg ho,if_neg ho]
    simp only [getO]
    rw [if_neg (by omega)]
  ·rw [if_neg hj]
   simp only [getO]
   by_cases hjo : j = o
   ·rw [if_pos hjo,if_pos hjo,if_neg (by omega)]
   ·rw [if_neg hjo,if_neg hjo,ih]
theorem getO_set (ob : List (Nat × AObj)) (d : Nat) (x : AObj) (o : Nat) : getO (setO ob d x) o = if d = o then some x else getO ob o := rfl
theorem getO_upd (ob : List (Nat × AObj)) (d : Nat) (x : AObj) (used : Option Nat) (o : Nat) :
  getO (updO ob ((d,some x) :: dropped used)) o = if used = some o then none else if d = o then some x else getO ob o := by
 cases used with
 | none => simp [updO,dropped,getO_set]
 | some u =>
  simp only [updO,dropped,getO_del,getO_set]
  by_cases h : o = u
  ·subst h; simp
  ·have : ¬ u = o := fun e => h e.symm
   simp [h,this]
def updN {α : Type} (f : Nat → α) (d : Nat) (x : α) : Nat → α := fun o => if o = d then x else f o
theorem updN_same {α : Type} (f : Nat → α) (d : Nat) (x : α) : updN f d x d = x := by simp [updN]
theorem updN_other {α : Type} (f : Nat → α) (d : Nat) (x : α) {o : Nat} (h : o ≠ d) : updN f d x o = f o := by simp [updN,h]
theorem free_parts {σ : ASt} {d : Nat} (h : σ.free d = true) : getO σ.ob d = none ∧ freeS d σ.sl = true ∧ freeO d σ.ob = true := by
 unfold ASt.free at h
 split at h
 ·rename_i hg
  simp only [Bool.and_eq_true] at h
  exact ⟨hg,h.1,h.2⟩
 ·cases h
section
variable {P : Program} {T : TEnv} {w0 : World} {F0 : Nat → Prop} {L0 : Locs} {nt : Nat} {σ : ASt} {a : Act} {w : World} {L : Locs} {fp : Nat → List Nat}
variable {o : Oper} {cs : List Prop} {av : AV} {obs : List (Nat × Option AObj)}
theorem StW.new (h : StW w0 F0 L0 nt σ a w L fp) (hL0 : ∀ o l,L0 o = some l → 2000 ≤ o) {w' : World} {d : Nat} {x : AObj} {l : Loc} {f : List Nat} {used : Option Nat}
  (hfree : σ.free d = true) (hd2 : d < 2000) (hud : used ≠ some d)
  (hk : Kept w (fun _ => False) w') (hf : ∀ b ∈ f,b < w'.heap.size ∧ (w.heap.size ≤ b ∨ ∃ u,used = some u ∧ (getO σ.ob u).isSome = true ∧ b ∈ fp u)) (hnd : f.Nodup)
  (hnew : ∀ (ob' : List (Nat × AObj)) (fp' : Nat → List Nat),ViewLe (view w (Owned σ.ob fp)) (view w' (Owned ob' fp')) → LocsLe L (updN L d (some l)) (fun o => o ≠ d) → ObjRel (view w' (Owned ob' fp')) (updN L d (some l)) w' x l f)
  {dst : Option Nat} (hd : okDst nt dst = true) {av : AV} {v : Value}
  (hv : ∀ (ob' : List (Nat × AObj)) (fp' : Nat → List Nat),ViewLe (view w (Owned σ.ob fp)) (view w' (Owned ob' fp')) → RelV (view w' (Owned ob' fp')) (updN L d (some l)) av v) :
  StW w0 F0 L0 nt ⟨put σ.sl dst av,updO σ.ob ((d,some x) :: dropped used)⟩ (a.put dst v) w' (updN L d (some l)) (updN fp d f) := by
 obtain ⟨g1,g2,g3⟩ := free_parts hfree
 have hLle : LocsLe L (updN L d (some l)) (fun o => o ≠ d) := fun o' l' ho' hl' => ⟨l',by rw [updN_other _ _ _ ho']; exact hl',LocLe.refl _⟩
 refine h.change (fun o => o = d ∨ used = some o) ⟨hk.os,hk.tape,hk.output,hk.size,fun b hb _ => hk.block b hb id,hk.drawn⟩ (fun o ho => ?_) (fun o ho => ?_) (fun o ho => ?_) (fun o ho => ?_) (fun b hb _ => hk.block b hb id) (fun o b ho hs hb => ?_)
  (fun hR o x' ho hx => ?_) (fun o ho hs => ?_) (fun o o' b ho ho' hne hs hs' hb hb' => ?_) hd (hv _ _)
 ·rw [getO_upd,if_neg (fun e => ho (.inr e)),if_neg (fun e => ho (.inl e.symm))]
 ·exact updN_other _ _ _ (fun e => ho (.inl e))
 ·exact updN_other _ _ _ (fun e => ho (.inl e))
 ·by_cases e : o = d
  ·subst e
   refine .inl ⟨fun o' cs _ hg => freeO_get g3 hg,g2,fun b hl0 => ?_⟩
   have := hL0 o _ hl0; omega
  ·exact .inr fun l' hl' => ⟨l',by rw [updN_other _ _ _ e]; exact hl',LocLe.refl _⟩
 ·rw [getO_upd] at hs
  rcases ho with rfl | hu
  ·rw [updN_same] at hb
   obtain ⟨k1,k2⟩ := hf b hb
   refine ⟨k1,k2.imp id fun ⟨u,hu,hs',hb'⟩ => ⟨u,.inr hu,hs',hb'⟩⟩
  ·rw [if_pos hu] at hs; cases hs
 ·rw [getO_upd] at hx
  rcases ho with rfl | hu
  ·rw [if_neg hud,if_pos rfl] at hx
   cases hx
   exact ⟨l,updN_same _ _ _,by rw [updN_same]; exact hnew _ _ hR hLle⟩
  ·rw [if_pos hu] at hx; cases hx
 ·rcases ho with rfl | hu
  ·rw [updN_same]; exact hnd
  ·rw [getO_upd,if_pos hu] at hs; cases hs
 ·rcases ho with rfl | hu
  ·rcases ho' with rfl | hu'
   ·exact hne rfl
   ·rw [getO_upd,if_pos hu'] at hs'; cases hs'
  ·rw [getO_upd,if_pos hu] at hs; cases hs
theorem StW.upd (h : StW w0 F0 L0 nt σ a w L fp) {w' : World} {d : Nat} {x x0 : AObj} {l l0 : Loc} {f : List Nat} {used : Option Nat}
  (hg : getO σ.ob d = some x0) (hl0 : L d = some l0) (hle : LocLe l0 l) (hud : used ≠ some d)
  (hk : Kept w (fun b => b ∈ fp d) w') (hf : ∀ b ∈ f,b < w'.heap.size ∧ (w.heap.size ≤ b ∨ b ∈ fp d ∨ ∃ u,used = some u ∧ (getO σ.ob u).isSome = true ∧ b ∈ fp u)) (hnd : f.Nodup)
  (hnew : ∀ (ob' : List (Nat × AObj)) (fp' : Nat → List Nat),ViewLe (view w (Owned σ.ob fp)) (view w' (Owned ob' fp')) → LocsLe L (updN L d (some l)) (fun _ => True) → ObjRel (view w' (Owned ob' fp')) (updN L d (some l)) w' x l f)
  {dst : Option Nat} (hd : okDst nt dst = true) {av : AV} {v : Value}
  (hv : ∀ (ob' : List (Nat × AObj)) (fp' : Nat → List Nat),ViewLe (view w (Owned σ.ob fp)) (view w' (Owned ob' fp')) → RelV (view w' (Owned ob' fp')) (updN L d (some l)) av v) :
  StW w0 F0 L0 nt ⟨put σ.sl dst av,updO σ.ob ((d,some x) :: dropped used)⟩ (a.put dst v) w' (updN L d (some l)) (updN fp d f) := by
 have hLle : LocsLe L (updN L d (some l)) (fun _ => True) := fun o' l' _ hl' => by
  by_cases e : o' = d
  ·subst e
   rw [hl0] at hl'
   cases hl'
   exact ⟨l,updN_same _ _ _,hle⟩
  ·exact ⟨l',by rw [updN_other _ _ _ e]; exact hl',LocLe.refl _⟩
 have hown : ∀ b,b ∈ fp d → Owned σ.ob fp b := fun b hb => ⟨d,by rw [hg]; rfl,hb⟩
 refine h.change (fun o => o = d ∨ used = some o) ⟨hk.os,hk.tape,hk.output,hk.size,fun b hb hF => hk.block b hb fun hb' => hF (hown b hb'),hk.drawn⟩ (fun o ho => ?_) (fun o ho => ?_) (fun o ho => ?_) (fun o ho => ?_)
  (fun b hb hno => hk.block b hb fun hb' => hno d (.inl rfl) (by rw [hg]; rfl) hb') (fun o b ho hs hb => ?_)
  (fun hR o x' ho hx => ?_) (fun o ho hs => ?_) (fun o o' b ho ho' hne hs hs' hb hb' => ?_) hd (hv _ _)
 ·rw [getO_upd,if_neg (fun e => ho (.inr e)),if_neg (fun e => ho (.inl e.symm))]
 ·exact updN_other _ _ _ (fun e => ho (.inl e))
 ·exact updN_other _ _ _ (fun e => ho (.inl e))
 ·exact .inr fun l' hl' => hLle o l' trivial hl'
 ·rw [getO_upd] at hs
  rcases ho with rfl | hu
  ·rw [updN_same] at hb
   obtain ⟨k1,k2⟩ := hf b hb
   refine ⟨k1,?_⟩
   rcases k2 with k2 | k2 | ⟨u,hu,hs',hb'⟩
   ·exact .inl k2
   ·exact .inr ⟨o,.inl rfl,by rw [hg]; rfl,k2⟩
   ·exact .inr ⟨u,.inr hu,hs',hb'⟩
  ·rw [if_pos hu] at hs; cases hs
 ·rw [getO_upd] at hx
  rcases ho with rfl | hu
  ·rw [if_neg hud,if_pos rfl] at hx
   cases hx
   exact ⟨l,updN_same _ _ _,by rw [updN_same]; exact hnew _ _ hR hLle⟩
  ·rw [if_pos hu] at hx; cases hx
 ·rcases ho with rfl | hu
  ·rw [updN_same]; exact hnd
  ·rw [getO_upd,if_pos hu] at hs; cases hs
 ·rcases ho with rfl | hu
  ·rcases ho' with rfl | hu'
   ·exact hne rfl
   ·rw [getO_upd,if_pos hu'] at hs'; cases hs'
  ·rw [getO_upd,if_pos hu] at hs; cases hs
theorem kept_alloc (w : World) (x : Obj) : Kept w (fun _ => False) (w.alloc x) :=
 ⟨rfl,rfl,rfl,by simp,fun b hb _ => (World.heap_alloc_keep w x b hb),Nat.le_refl _⟩
theorem ran_box (h : StW w0 F0 L0 nt σ a w L fp) (hL0 : ∀ o l,L0 o = some l → 2000 ≤ o) {d : Nat} {cells : List AV} {vs : Array Value} {t : TypeId} (hd : okDst nt (some d) = true) (hdst : o.dst = some d) (hfree : σ.free d = true) (hd2 : d < 2000)
  (hr : RelVs (view w (Owned σ.ob fp)) L cells vs.toList) (h1 : ∀ u ∈ vs.toList,u.oneCell' = true) (hfc : ∀ cs,AV.free.go d cells = cs → cs = true)
  (hrun : (execOp a.eval o).run P w = .ok (.value (.pointer (some ⟨w.heap.size,0,none⟩))) (w.alloc (.cells vs t))) :
  Ran P o a w (St w0 F0 L0 nt ⟨put σ.sl o.dst (.ptr d 0),updO σ.ob [(d,some (.box cells))]⟩) := by
 refine .inl ⟨_,_,hrun,updN L d (some (.box w.heap.size)),updN fp d [w.heap.size],?_⟩
 rw [hdst]
 refine h.new hL0 (used := none) hfree hd2 (by simp) (kept_alloc w _) (fun b hb => ?_) (by simp) (fun ob' fp' hR hLle => ?_) hd (fun ob' fp' hR => ?_)
 ·simp at hb
  subst hb
  exact ⟨by simp,.inl (Nat.le_refl _)⟩
 ·refine ⟨w.heap.size,t,vs,rfl,rfl,heap_alloc_new w _,?_,h1⟩
  exact hr.mono hR _ _ fun o' l' hm hl' => hLle o' l' (fun e => by subst e; exact absurd ((hfc _ rfl).symm.trans hm) (by simp)) hl'
 ·simp only [RelV]
  exact ⟨w.heap.size,updN_same _ _ _,rfl⟩
theorem free_made {d : Nat} {x : AObj} {r : List (Nat × Option AObj)} (hg : getO σ.ob d = none) (h : freeAll σ (madeOf σ.ob ((d,some x) :: r)) = true) : σ.free d = true ∧ d < 2000 := by
 simp only [madeOf,hg,freeAll,Bool.and_eq_true] at h
 exact ⟨h.1.1,Nat.le_of_ble_eq_true h.1.2⟩
theorem op_alloc {t : TypeId} (hT : TOk P T) (h : StW w0 F0 L0 nt σ a w L fp) (hL0 : ∀ o l,L0 o = some l → 2000 ≤ o) (hd : okDst nt o.dst = true) (ho : o.op = .alloc t)
  (he : evalOp T σ o = .ok cs av obs) (hfree : freeAll σ (madeOf σ.ob obs) = true) :
  Ran P o a w (St w0 F0 L0 nt ⟨put σ.sl o.dst av,updO σ.ob obs⟩) := by
 simp only [evalOp,ho] at he
 split at he
 ·rename_i s d hs hdst
  split at he
  case h_2 => cases he
  rename_i hgn
  cases he
  obtain ⟨hf1,hf2⟩ := free_made hgn hfree
  obtain ⟨z,z1,z2⟩ := sh_zero (hT t s hs) w
  obtain ⟨r1,r2⟩ := zeroB_rel (R := view w (Owned σ.ob fp)) (L := L) z2
  refine ran_box h hL0 (hdst ▸ hd) hdst hf1 hf2 r1 r2 ?_ (t := t) ?_
  ·intro cs hcs
   subst hcs
   have : ∀ {as : List AV} {vs : List Value},zeroB as vs = true → AV.free.go d as = true := by
    intro as vs hz
    fun_induction zeroB as vs <;> simp_all [AV.free.go,AV.free]
   exact this z2
  ·simp [execOp,ho,Instr.alloc,z1,newVar,newRow]
 ·cases he
theorem op_box {t : TypeId} {x : Operand} (h : StW w0 F0 L0 nt σ a w L fp) (hL0 : ∀ o l,L0 o = some l → 2000 ≤ o) (hd : okDst nt o.dst = true) (ho : o.op = .box t x)
  (he : evalOp T σ o = .ok cs av obs) (hfree : freeAll σ (madeOf σ.ob obs) = true) :
  Ran P o a w (St w0 F0 L0 nt ⟨put σ.sl o.dst av,updO σ.ob obs⟩) := by
 simp only [evalOp,ho] at he
 split at he
 ·rename_i d cells hdst hcs
  split at he
  case h_2 => cases he
  rename_i hgn
  cases he
  obtain ⟨hf1,hf2⟩ := free_made hgn hfree
  have hx := opv_rel_none h x
  obtain ⟨r1,r2⟩ := cellsOf_rel hx hcs
  refine ran_box h hL0 (hdst ▸ hd) hdst hf1 hf2 r1 r2 ?_ (t := t) ?_
  ·intro cs hcs'
   subst hcs'
   have hfx : (opv σ none x).free d = true := by
    cases x with
    | tmp i => exact freeS_get (free_parts hf1).2.1 i
    | global g => rfl
    | func f => rfl
    | const v =>
     unfold opv
     split <;> first | rfl | (rename_i he; cases he) | skip
     all_goals (split <;> rfl)
   revert hfx hcs
   cases opv σ none x <;> simp [cellsOf,AV.free] <;> intros <;> subst_vars <;> simp_all [AV.free,AV.free.go]
  ·simp [execOp,ho,Instr.box,newVar,newRow]
 ·cases he
end
end Go.AM
namespace Go.AM
theorem ownsRow_base {w : World} {base base' : Nat} {e : TypeId} {size n : Nat} {v : Value} {xs : List Value} (h : w.ownsRow base e size v n xs) (hb : base' ≤ base) : w.ownsRow base' e size v n xs := by
 refine ⟨h.1,?_⟩
 rcases h.2 with h2 | ⟨g,cap,cur,rfl,h3,r⟩
 ·exact .inl h2
 ·exact .inr ⟨g,cap,cur,rfl,Nat.le_trans hb h3,r⟩
theorem ownsRow_one {w : World} {base : Nat} {e : TypeId} {size n : Nat} {v : Value} {xs : List Value} (h : w.ownsRow base e size v n xs) : v.oneCell' = true := by
 rcases h.2 with ⟨rfl,_⟩ | ⟨g,cap,cur,rfl,_⟩ <;> rfl
theorem grown_kept {w w' : World} (h : w.grownBy w' none) (hd : w.drawn ≤ w'.drawn) : Kept w (fun _ => False) w' := ⟨h.os,h.tape,h.output,h.size,fun b hb _ => h.block b hb (by simp),hd⟩
theorem ownBlock_nodup (v : Value) : v.ownBlock.toList.Nodup := by cases v.ownBlock <;> simp
theorem zeros_vals {p : Pay} (h : p.subs = none) (n : Nat) : (p.zeros n).subs = none ∧ (p.zeros n).size = p.size ∧ (p.zeros n).sizei = p.sizei ∧ (p.zeros n).len = n := by
 cases p <;> simp only [Pay.subs,reduceCtorEq] at h <;> simp [Pay.zeros,Pay.subs,Pay.size,Pay.sizei,Pay.len]
theorem one_made (c : Array Value) (v : Value) (hc : c.toList = [v]) (n : Nat) : (madeCells c (n * 1)).toList = List.replicate n v := by
 have : c = #[v] := by apply Array.ext'; exact hc
 rw [this,Nat.mul_one]
 exact toList_madeCells_one v n
theorem rats_made (c : Array Value) (hc : c.toList = [.int .i64 0,.int .i64 0]) (n : Nat) : (madeCells c (n * 2)).toList = (Pay.rats (List.replicate n ⟨0,0⟩)).vals := by
 have hv' : c = #[.int .i64 0,.int .i64 0] := by apply Array.ext'; exact hc
 rw [hv']
 simp only [Pay.vals]
 have e2 : (List.replicate n (⟨0,0⟩ : Q)).flatMap (fun q => [Value.int .i64 q.num,Value.int .i64 q.den]) = List.replicate (n * 2) (Value.int .i64 0) := by
  induction n with
  | zero => rfl
  | succ n ih => rw [List.replicate_succ,List.flatMap_cons,ih,show (n + 1) * 2 = n * 2 + 1 + 1 by omega,List.replicate_succ,List.replicate_succ]; rfl
 rw [e2]
 apply List.ext_getElem?
 intro j
 by_cases hj : j < n * 2
 ·have : j % 2 = 0 ∨ j % 2 = 1 := by omega
  rcases this with hm | hm <;> simp [madeCells,hj,hm]
 ·simp [madeCells,hj]
section
variable {P : Program} {T : TEnv} {w0 : World} {F0 : Nat → Prop} {L0 : Locs} {nt : Nat} {σ : ASt} {a : Act} {w : World} {L : Locs} {fp : Nat → List Nat}
variable {o : Oper} {cs : List Prop} {av : AV} {obs : List (Nat × Option AObj)}
theorem sh_elem {t e : TypeId} {p : Pay} (h : shB P t (.slice e p) = true) : P.underlying t = some (.slice e) ∧ p.len = 0 ∧ ∃ i z,P.info? e = some i ∧ i.zero = some z ∧ i.size = p.size ∧ i.bytes ≤ 64 ∧ z.cells.size = p.size ∧
  (p.subs = none → ∀ n,(madeCells z.cells (n * p.size)).toList = (p.zeros n).vals) ∧ (p.isDeep = true → z = .slice none 0 0 ∧ ∃ e',P.underlying e = some (.slice e')) := by
 have hd := sh_desc h
 simp only [descB,Bool.and_eq_true,beq_iff_eq] at hd
 obtain ⟨⟨h1,h0⟩,h2⟩ := hd
 refine ⟨(sh_slice h).1,h0,?_⟩
 split at h2
 ·rename_i i hi
  simp only [Bool.and_eq_true,decide_eq_true_eq] at h2
  obtain ⟨⟨h3,h4⟩,h5⟩ := h2
  split at h5
  ·rename_i z hz
   simp only [Bool.and_eq_true,decide_eq_true_eq] at h5
   obtain ⟨h6,h7⟩ := h5
   refine ⟨i,z,hi,hz,h3,h4,h6,?_,?_⟩
   ·intro hs n
    split at h7
    ·rename_i hv; simp only [Pay.size,Pay.zeros,Pay.vals,List.map_replicate]; exact one_made _ _ hv n
    ·rename_i hv; simp only [Pay.size,Pay.zeros,Pay.vals,List.map_replicate]; exact one_made _ _ hv n
    ·rename_i hv; exact rats_made _ hv n
    ·rename_i s hv
     simp only [Bool.and_eq_true,List.isEmpty_iff] at h7
     simp only [Pay.size,Pay.zeros,Pay.vals,List.map_replicate]
     have := one_made _ _ hv n
     obtain ⟨⟨l⟩⟩ := s
     have hl := h7.1
     simp at hl
     subst hl
     exact this
    ·simp [Pay.subs] at hs
    ·simp [Pay.subs] at hs
    ·cases h7
   ·intro hdp
    split at h7 <;> simp [Pay.isDeep] at hdp
    ·refine ⟨rfl,?_⟩
     split at h7
     ·exact ⟨_,by assumption⟩
     ·cases h7
    ·refine ⟨rfl,?_⟩
     split at h7
     ·exact ⟨_,by assumption⟩
     ·cases h7
    ·cases h7
  ·cases h5
 ·cases h2
theorem zeros_deep {p : Pay} (h : p.isDeep = true) (n : Nat) : ∃ q : Pay,q.subs = none ∧ q.len = 0 ∧ q.vals = [] ∧ (p.zeros n).subs = some (List.replicate n q) ∧ (p.zeros n).len = n ∧ (p.zeros n).size = 1 ∧ (p.zeros n).sizei = p.sizei ∧ p.size = 1 ∧ q.size = p.sizei := by
 cases p <;> simp [Pay.isDeep] at h
 ·exact ⟨.ints [],rfl,rfl,rfl,by simp [Pay.zeros,Pay.subs],by simp [Pay.zeros,Pay.len],rfl,rfl,rfl,rfl⟩
 ·exact ⟨.rats [],rfl,rfl,rfl,by simp [Pay.zeros,Pay.subs],by simp [Pay.zeros,Pay.len],rfl,rfl,rfl,rfl⟩
theorem replicate_get {α : Type} {n k : Nat} {x y : α} (h : (List.replicate n x)[k]? = some y) : y = x := by
 rw [List.getElem?_replicate] at h
 split at h
 ·cases h; rfl
 ·cases h
theorem op_makeSlice {t : TypeId} {x y : Operand} (hT : TOk P T) (h : StW w0 F0 L0 nt σ a w L fp) (hL0 : ∀ o l,L0 o = some l → 2000 ≤ o) (hd : okDst nt o.dst = true) (ho : o.op = .makeSlice t x y)
  (he : evalOp T σ o = .ok cs av obs) (hfree : freeAll σ (madeOf σ.ob obs) = true) (hcs : AllP cs) :
  Ran P o a w (St w0 F0 L0 nt ⟨put σ.sl o.dst av,updO σ.ob obs⟩) := by
 simp only [evalOp,ho] at he
 split at he
 case h_2 => cases he
 rename_i _ _ _ _ e p d n c hs hdst hx hy
 split at he
 case h_2 => cases he
 rename_i hgn
 cases he
 obtain ⟨hf1,hf2⟩ := free_made hgn hfree
 obtain ⟨hu,h0,i,z,hi,hz,hisz,hib,hzsz,hflat,hdeep⟩ := sh_elem (hT t _ hs)
 simp only [AllP,and_true] at hcs
 obtain ⟨c1,rfl,c3⟩ := hcs
 have ex := opv_rel_none h x
 have ey := opv_rel_none h y
 rw [hx] at ex
 rw [hy] at ey
 simp only [RelV] at ex ey
 obtain ⟨m,rfl⟩ := Int.eq_ofNat_of_zero_le c1
 simp only [room] at c3
 obtain ⟨w',r1,r2,r3⟩ := run_make_full (P := P) w 0 t e i z p.size hu hi hz hisz .i64 .i64 m (by
  have : i.bytes * m ≤ 64 * 1099511627776 := Nat.mul_le_mul hib (by omega)
  omega) (by simp only [maxLen]; omega) (Nat.zero_le _)
 refine .inl ⟨.slice (some ⟨w.heap.size,0,none⟩) m m,w',?_,updN L d (some (.arr 0 0 (p.zeros m).size (p.zeros m).sizei (.slice (some ⟨w.heap.size,0,none⟩) m m) (if p.isDeep then List.replicate m (.slice none 0 0) else []))),updN fp d [w.heap.size],?_⟩
 ·simp only [execOp,ho,Sem.run_bind,ex,ey]
  rw [show (Instr.makeSlice t (.int .i64 (m : Int)) (.int .i64 (m : Int))).run P w = _ from r1]
  rfl
 rw [hdst]
 simp only [Int.toNat_natCast]
 refine h.new hL0 (used := none) hf1 hf2 (by simp) (grown_kept r3 (run_drawn _ _ _ _ r1)) (fun b hb => ?_) (by simp) (fun ob' fp' hR hLle => ?_) (hdst ▸ hd) (fun ob' fp' hR => ?_)
 ·simp at hb
  subst hb
  refine ⟨?_,.inl (Nat.le_refl _)⟩
  rcases r2.2 with ⟨h1,_⟩ | ⟨g,cap,cur,h1,_,h2,_⟩
  ·cases h1
  ·injection h1 with h1
   injection h1 with h1
   injection h1 with h1
   subst h1
   exact heap_lt h2
 ·refine ⟨_,_,rfl,?_⟩
  unfold OwnAt
  split
  ·rename_i hsb
   have hpd : p.isDeep = false := by cases p <;> simp [Pay.zeros,Pay.subs] at hsb <;> rfl
   obtain ⟨q1,q2,q3,q4⟩ := zeros_vals (subs_flat.1 hpd) m
   rw [hpd]
   refine ⟨rfl,?_,rfl⟩
   rw [q2,q4,← hflat (subs_flat.1 hpd)]
   exact r2
  ·rename_i ps hsb
   have hpd : p.isDeep = true := by cases p <;> simp [Pay.zeros,Pay.subs] at hsb <;> rfl
   obtain ⟨q,q1,q2,q3,q4,q5,q6,q7,q8,q9⟩ := zeros_deep hpd m
   rw [q4] at hsb
   cases hsb
   rw [hpd,q5]
   obtain ⟨rfl,_⟩ := hdeep hpd
   rw [q8] at r2
   refine ⟨?_,by simp,List.replicate m [],by simp,fun k q' u g hq hu' hg => ?_,?_⟩
   ·have := one_made (Value.cells (.slice none 0 0)) (.slice none 0 0) rfl m
    rw [← this]
    exact r2
   ·rw [if_pos rfl] at hu'
    rw [replicate_get hq,replicate_get hu',replicate_get hg,q2,q3]
    exact ⟨⟨0,World.ownsRow_nil _ _ _ _⟩,rfl⟩
   ·simp [Value.ownBlock]
 ·simp only [RelV]
  exact ⟨rfl,_,_,_,_,_,_,updN_same _ _ _,Nat.le_refl _,fun _ => rfl⟩
end
end Go.AM
namespace Go.AM
theorem fill_seq (size : Nat) : ∀ (parts : List (Nat × Value)) (k : Nat) (xs : Array Value) (us : List Value),(∀ (j i : Nat) (u : Value),parts[j]? = some (i,u) → i = k + j ∧ u.cells.size = size) →
  us = parts.flatMap (fun x => x.2.cells.toList) → k * size + us.length ≤ xs.size →
  ∃ ys,Instr.fill (fun i => some (i * size,size)) xs parts = some ys ∧ ys.toList = setVals xs.toList (k * size) us
 | [],k,xs,us,_,hus,_ => by subst hus; exact ⟨xs,rfl,rfl⟩
 | (i,u) :: parts,k,xs,us,hp,hus,hl => by
  obtain ⟨hi,hu⟩ := hp 0 i u rfl
  simp only [Nat.add_zero] at hi
  subst hi
  simp only [List.flatMap_cons] at hus
  have hfold : (u.cells.zipIdx.foldl (fun cs x => cs.setIfInBounds (i * size + x.2) x.1) xs).toList = setVals xs.toList (i * size) u.cells.toList := by
   have := foldl_setVals u.cells.toList xs (i * size) 0
   rw [Nat.add_zero] at this
   rw [← this,← Array.foldl_toList]
   simp
  have hlen : us.length = size + (parts.flatMap fun x => x.2.cells.toList).length := by rw [hus,List.length_append,Array.length_toList,hu]
  have hsz : (u.cells.zipIdx.foldl (fun cs x => cs.setIfInBounds (i * size + x.2) x.1) xs).size = xs.size := by
   rw [← Array.length_toList,hfold,setVals_length,Array.length_toList]
  obtain ⟨ys,y1,y2⟩ := fill_seq size parts (i + 1) (u.cells.zipIdx.foldl (fun cs x => cs.setIfInBounds (i * size + x.2) x.1) xs) _ (fun j i' u' hj => by
   obtain ⟨h1,h2⟩ := hp (j + 1) i' u' (by simpa using hj)
   exact ⟨by omega,h2⟩) rfl (by rw [hsz,Nat.add_mul]; omega)
  refine ⟨ys,?_,?_⟩
  ·simp only [Instr.fill,hu]
   rw [if_neg (by simp; omega)]
   exact y1
  ·rw [y2,hfold,hus]
   have : ∀ (as bs : List Value) (xs : List Value) (off : Nat),setVals xs off (as ++ bs) = setVals (setVals xs off as) (off + as.length) bs := by
    intro as
    induction as with
    | nil => intro bs xs off; rfl
    | cons x r ih => intro bs xs off; simp only [List.cons_append,setVals,ih,List.length_cons]; rw [Nat.add_assoc,Nat.add_comm 1]
   rw [this,Array.length_toList,hu,Nat.add_mul,Nat.one_mul]
theorem payLit_nil (p : Pay) : payLit p [] = some p := by unfold payLit; rfl
theorem payLit_vals {R : View} {L : Locs} : ∀ (as : List AV) (us : List Value) (p p' : Pay),p.subs = none → payLit p as = some p' → AllP (byteConds p as) → RelVs R L as us →
  p'.vals = p.vals ++ us.flatMap (fun u => u.cells.toList) ∧ p'.size = p.size ∧ p'.sizei = p.sizei ∧ p'.subs = none ∧ (∀ u ∈ us,u.cells.size = p.size) ∧ p'.len = p.len + us.length
 | [],[],p,p',hs,h,_,_ => by
  rw [payLit_nil] at h
  cases h
  simp [hs]
 | [],_ :: _,_,_,_,_,_,h => by simp [RelVs] at h
 | _ :: _,[],_,_,_,_,_,h => by simp [RelVs] at h
 | x :: as,u :: us,p,p',hs,h,hc,hr => by
  simp only [RelVs] at hr
  obtain ⟨hx,hr⟩ := hr
  have step : ∀ p1 : Pay,p1.subs = none → payLit p1 as = some p' → AllP (byteConds p1 as) → p1.vals = p.vals ++ u.cells.toList → p1.size = p.size → p1.sizei = p.sizei → u.cells.size = p.size → p1.len = p.len + 1 →
    p'.vals = p.vals ++ (u :: us).flatMap (fun u => u.cells.toList) ∧ p'.size = p.size ∧ p'.sizei = p.sizei ∧ p'.subs = none ∧ (∀ v ∈ u :: us,v.cells.size = p.size) ∧ p'.len = p.len + (u :: us).length := by
   intro p1 h1 h2 h3 h4 h5 h6 h7 h8
   obtain ⟨k1,k2,k3,k4,k5,k6⟩ := payLit_vals as us p1 p' h1 h2 h3 hr
   refine ⟨by rw [k1,h4]; simp,k2.trans h5,k3.trans h6,k4,fun v hv => ?_,by rw [k6,h8]; simp; omega⟩
   rcases List.mem_cons.1 hv with rfl | hv
   ·exact h7
   ·rw [k5 v hv,h5]
  unfold payLit at h
  split at h
  ·rename_i he; cases he
  ·rename_i l n r he
   cases he
   simp only [RelV] at hx
   subst hx
   exact step _ rfl h (by cases as <;> simp [byteConds,AllP]) (by simp [Pay.vals,Value.cells]) rfl rfl rfl (by simp [Pay.len])
  ·rename_i l n d r he
   cases he
   simp only [RelV] at hx
   obtain ⟨vs,rfl,h1,_⟩ := hx
   obtain ⟨vs⟩ := vs
   have hvs : vs = [.int .i64 n,.int .i64 d] := by
    match vs,h1 with
    | [x,y],h1 => simp only [RelVs,RelV] at h1; rw [h1.1,h1.2.1]
    | [],h1 => simp [RelVs] at h1
    | [_],h1 => simp [RelVs] at h1
    | _ :: _ :: _ :: _,h1 => simp [RelVs] at h1
   subst hvs
   exact step _ rfl h (by cases as <;> simp [byteConds,AllP]) (by simp [Pay.vals,Value.cells]) rfl rfl rfl (by simp [Pay.len])
  ·rename_i l s r he
   cases he
   simp only [RelV] at hx
   subst hx
   exact step _ rfl h (by cases as <;> simp [byteConds,AllP]) (by simp [Pay.vals,Value.cells]) rfl rfl rfl (by simp [Pay.len])
  ·rename_i l n r he
   cases he
   simp only [RelV] at hx
   subst hx
   simp only [byteConds,AllP] at hc
   obtain ⟨⟨c1,c2⟩,c3⟩ := hc
   have hbc : ∀ (l l' : List UInt8) (as : List AV),byteConds (.bytes l) as = byteConds (.bytes l') as := by
    intro l l' as
    induction as with
    | nil => simp [byteConds]
    | cons y r ih =>
     unfold byteConds
     split
     ·rename_i he; cases he; rename_i he2; cases he2; simp [ih]
     ·rename_i hn; split
      ·rename_i he; cases he; rename_i he2; cases he2; exact (hn _ _ _ rfl rfl).elim
      ·rfl
   refine step _ rfl h (by rw [hbc _ l]; exact c3) ?_ rfl rfl rfl (by simp [Pay.len])
   simp only [Pay.vals,List.map_append,List.map_cons,List.map_nil,Value.cells]
   have : ((UInt8.ofNat n.toNat).toNat : Int) = n := by
    have h1 : n.toNat < 256 := by omega
    simp [UInt8.toNat_ofNat',Nat.mod_eq_of_lt h1]
    omega
   rw [this]
  ·cases h
section
variable {P : Program} {T : TEnv} {w0 : World} {F0 : Nat → Prop} {L0 : Locs} {nt : Nat} {σ : ASt} {a : Act} {w : World} {L : Locs} {fp : Nat → List Nat}
variable {o : Oper} {cs : List Prop} {av : AV} {obs : List (Nat × Option AObj)}
theorem run_buildSlice' (w : World) (t e : TypeId) (len : Nat) (parts : Array (Nat × Value)) (cells : Array Value) (ie : TypeInfo) (z : Value)
  (hu : P.underlying t = some (.slice e)) (hie : P.info? e = some ie) (hz : ie.zero = some z) (hsmall : len * ie.size ≤ 2 ^ 24)
  (h : Instr.fill (fun i => some (i * ie.size,ie.size)) (madeCells z.cells (len * ie.size)) parts.toList = some cells) :
  (Instr.buildSlice t len parts).run P w = .ok (.slice (some ⟨w.heap.size,0,none⟩) len len) (w.alloc (.cells cells e)) := by
 by_cases hp : len * ie.size = 0
 ·rw [hp] at h
  simp only [madeCells,Array.range_zero',Array.map_empty] at h
  simp [Instr.buildSlice,run_underlying hu,sizeOf,typeInfo,zeroValue,hie,hz,hp,h,newRow,Array.range_zero']
 ·exact run_buildSlice w t e len parts cells ie z hu hie hz (by omega) hp h
theorem idxOk_get : ∀ (k : Nat) (parts : List (Nat × Operand)),idxOk k parts = true → ∀ (j i : Nat) (x : Operand),parts[j]? = some (i,x) → i = k + j
 | _,[],_,j,i,x,h => by simp at h
 | k,(i0,x0) :: r,h,j,i,x,hj => by
  simp only [idxOk,Bool.and_eq_true] at h
  cases j with
  | zero => simp at hj; rw [← hj.1]; exact Nat.eq_of_beq_eq_true h.1
  | succ j => have := idxOk_get (k + 1) r h.2 j i x (by simpa using hj); omega
theorem byteConds_ints : ∀ (l : List Int) (as : List AV),AllP (byteConds (.ints l) as) := fun l as => by
 cases as <;> trivial
theorem setVals_all (xs us : List Value) (h : us.length = xs.length) : setVals xs 0 us = us := by
 rw [setVals_seg us xs 0 (by omega)]
 simp [h]
theorem row_own {o1 e1 : Nat} {q : Pay} {hdr : Value} {inn : List Value} (hq : q.subs = none) (h : OwnAt w e1 q hdr inn (fp o1)) : w.ownsRow 0 e1 q.size hdr q.len q.vals ∧ fp o1 = hdr.ownBlock.toList := by
 unfold OwnAt at h
 rw [hq] at h
 exact h.2
theorem setRow_some {p q p' : Pay} {k : Nat} (h : setRow p k q = some p') : q.subs = none ∧ p.isDeep = true ∧ p'.isDeep = true ∧ p'.len = p.len ∧ p'.size = p.size ∧ p'.sizei = p.sizei ∧ q.size = p.sizei ∧ ∃ ps,p.subs = some ps ∧ p'.subs = some (ps.set k q) := by
 unfold setRow at h
 split at h
 ·cases h; exact ⟨rfl,rfl,rfl,by simp [Pay.len],rfl,rfl,rfl,_,rfl,by simp [Pay.subs,List.map_set]⟩
 ·cases h; exact ⟨rfl,rfl,rfl,by simp [Pay.len],rfl,rfl,rfl,_,rfl,by simp [Pay.subs,List.map_set]⟩
 ·cases h
theorem op_buildSlice {t : TypeId} {n : Nat} {parts : Array (Nat × Operand)} (hT : TOk P T) (h : StW w0 F0 L0 nt σ a w L fp) (hL0 : ∀ o l,L0 o = some l → 2000 ≤ o) (hd : okDst nt o.dst = true) (ho : o.op = .buildSlice t n parts)
  (he : evalOp T σ o = .ok cs av obs) (hfree : freeAll σ (madeOf σ.ob obs) = true) (hcs : AllP cs) :
  Ran P o a w (St w0 F0 L0 nt ⟨put σ.sl o.dst av,updO σ.ob obs⟩) := by
 simp only [evalOp,ho] at he
 split at he
 case h_2 => cases he
 rename_i _ _ e p d hs hdst
 obtain ⟨hu,h0,i,z,hi,hz,hisz,hib,hzsz,hflat,hdeep⟩ := sh_elem (hT t _ hs)
 have exec : ∀ (cells : Array Value),n * p.size ≤ 2 ^ 24 → Instr.fill (fun i => some (i * p.size,p.size)) (madeCells z.cells (n * p.size)) (parts.toList.map fun x => (x.1,a.eval x.2)) = some cells →
   (execOp a.eval o).run P w = .ok (.value (.slice (some ⟨w.heap.size,0,none⟩) n n)) (w.alloc (.cells cells e)) := by
  intro cells hn hf
  have hr := run_buildSlice' (P := P) w t e n (parts.map fun x => (x.1,a.eval x.2)) cells i z hu hi hz (by rw [hisz]; exact hn) (by rw [hisz]; simpa using hf)
  simp only [execOp,ho,Sem.run_bind]
  rw [hr]
  rfl
 split at he
 ·rename_i p' hout
  cases he
  unfold outLit at hout
  split at hout
  case h_2 => cases hout
  split at hout
  case h_2 => cases hout
  rename_i _ _ _ hidx _ hn1
  split at hout
  case h_2 => cases hout
  rename_i p2 hlit
  split at hout
  case h_2 => cases hout
  rename_i hpn
  cases hout
  have hpn := Nat.eq_of_beq_eq_true hpn
  have hn1 := Nat.le_of_ble_eq_true hn1
  have hsub : (Pay.ints []).subs = none := rfl
  have hrel : RelVs (view w (Owned σ.ob fp)) L (parts.toList.map fun x => opv σ none x.2) (parts.toList.map fun x => a.eval x.2) := by
   refine RelVs.of_get (by simp) fun j x y hx hy => ?_
   simp only [List.getElem?_map,Option.map_eq_some_iff] at hx hy
   obtain ⟨u,hu1,hu2⟩ := hx
   obtain ⟨v,hv1,hv2⟩ := hy
   rw [hu1] at hv1
   cases hv1
   subst hu2 hv2
   exact opv_rel_none h _
  obtain ⟨k1,k2,k3,k4,k5,k6⟩ := payLit_vals _ _ (.ints []) p' hsub hlit (byteConds_ints _ _) hrel
  have hpv : (Pay.ints []).vals = [] := rfl
  rw [hpv,List.nil_append] at k1
  have hs1 : (Pay.ints []).size = 1 := rfl
  rw [hs1] at k2 k5 exec hzsz hisz
  have hlen : p'.vals.length = n * 1 := by rw [vals_length k4,hpn,k2]
  have hmsz : (madeCells z.cells (n * 1)).size = n * 1 := size_madeCells _ _
  obtain ⟨ys,y1,y2⟩ := fill_seq 1 (parts.toList.map fun x => (x.1,a.eval x.2)) 0 (madeCells z.cells (n * 1)) p'.vals (fun j i u hj => by
    simp only [List.getElem?_map,Option.map_eq_some_iff] at hj
    obtain ⟨⟨i',x⟩,hj1,hj2⟩ := hj
    cases hj2
    exact ⟨idxOk_get 0 _ hidx j i' x hj1,k5 _ (List.mem_map.2 ⟨_,List.mem_of_getElem? hj1,rfl⟩)⟩)
   (by rw [k1]; simp [List.flatMap_map]) (by rw [hlen,hmsz]; omega)
  rw [Nat.zero_mul,setVals_all _ _ (by rw [hlen,Array.length_toList,hmsz])] at y2
  refine .inl ⟨_,_,exec ys (by omega) y1,L,fp,?_⟩
  have hka := kept_alloc w (.cells ys e)
  refine h.change (fun _ => False) ⟨hka.os,hka.tape,hka.output,hka.size,fun b hb _ => hka.block b hb id,hka.drawn⟩ (fun _ _ => rfl) (fun _ _ => rfl) (fun _ _ => rfl) (fun _ hD => hD.elim) (fun b hb _ => hka.block b hb id) (fun _ _ hD => hD.elim) (fun _ _ _ hD => hD.elim) (fun _ hD => hD.elim) (fun _ _ _ hD => hD.elim) hd (fun hR => ?_)
  simp only [RelV]
  unfold ListAt
  rw [k4]
  refine ⟨_,_,by rw [hpn],by rw [hpn]; exact Nat.le_refl _,.inr ⟨w.heap.size,0,ys,rfl,view_of (fun hF => ?_) (heap_alloc_new w _),fun j u hu => ?_⟩⟩
  ·obtain ⟨o',ho',hb'⟩ := hF
   have := h.owns.lt o' _ ho' hb'
   omega
  ·rw [Nat.zero_add,← Array.getElem?_toList,y2]
   exact hu
 split at he
 ·cases he
 ·rename_i hgn hpd
  split at he
  case h_2 => cases he
  rename_i _ _ p' hlit hidx
  split at he
  case h_2 => cases he
  rename_i _ _ hpn hn1
  have hpn := Nat.eq_of_beq_eq_true hpn
  have hn1 := Nat.le_of_ble_eq_true hn1
  cases he
  obtain ⟨hf1,hf2⟩ := free_made hgn hfree
  have hsub := subs_flat.1 hpd
  have hrel : RelVs (view w (Owned σ.ob fp)) L (parts.toList.map fun x => opv σ none x.2) (parts.toList.map fun x => a.eval x.2) := by
   refine RelVs.of_get (by simp) fun j x y hx hy => ?_
   simp only [List.getElem?_map,Option.map_eq_some_iff] at hx hy
   obtain ⟨u,hu1,hu2⟩ := hx
   obtain ⟨v,hv1,hv2⟩ := hy
   rw [hu1] at hv1
   cases hv1
   subst hu2 hv2
   exact opv_rel_none h _
  obtain ⟨k1,k2,k3,k4,k5,k6⟩ := payLit_vals _ _ p p' hsub hlit hcs hrel
  have hpv : p.vals = [] := List.eq_nil_of_length_eq_zero (by rw [vals_length hsub,h0,Nat.zero_mul])
  rw [hpv,List.nil_append] at k1
  have hsz2 : p.size ≤ 2 := by cases p <;> simp [Pay.size]
  have hlen : p'.vals.length = n * p.size := by rw [vals_length k4,hpn,k2]
  have hmsz : (madeCells z.cells (n * p.size)).size = n * p.size := size_madeCells _ _
  obtain ⟨ys,y1,y2⟩ := fill_seq p.size (parts.toList.map fun x => (x.1,a.eval x.2)) 0 (madeCells z.cells (n * p.size)) p'.vals (fun j i u hj => by
    simp only [List.getElem?_map,Option.map_eq_some_iff] at hj
    obtain ⟨⟨i',x⟩,hj1,hj2⟩ := hj
    cases hj2
    exact ⟨idxOk_get 0 _ hidx j i' x hj1,k5 _ (List.mem_map.2 ⟨_,List.mem_of_getElem? hj1,rfl⟩)⟩)
   (by rw [k1]; simp [List.flatMap_map]) (by rw [hlen,hmsz]; omega)
  rw [Nat.zero_mul,setVals_all _ _ (by rw [hlen,Array.length_toList,hmsz])] at y2
  have hys : ys.size = n * p.size := by rw [← Array.length_toList,y2,hlen]
  refine .inl ⟨_,_,exec ys (by have := Nat.mul_le_mul hn1 hsz2; omega) y1,updN L d (some (.arr 0 0 p'.size p'.sizei (.slice (some ⟨w.heap.size,0,none⟩) n n) [])),updN fp d [w.heap.size],?_⟩
  rw [hdst]
  refine h.new hL0 (used := none) hf1 hf2 (by simp) (kept_alloc w _) (fun b hb => ?_) (by simp) (fun ob' fp' hR hLle => ?_) (hdst ▸ hd) (fun ob' fp' hR => ?_)
  ·simp at hb
   subst hb
   exact ⟨by simp,.inl (Nat.le_refl _)⟩
  ·refine ⟨_,_,rfl,?_⟩
   unfold OwnAt
   rw [k4]
   refine ⟨rfl,?_,rfl⟩
   rw [hpn,k2,← y2]
   exact World.ownsRow_lit w ys n (Nat.zero_le _) (by simp only [maxLen]; omega) hys
  ·simp only [RelV]
   exact ⟨rfl,_,_,_,_,_,_,updN_same _ _ _,Nat.le_refl _,fun _ => rfl⟩
 ·rename_i hgn hpd
  obtain ⟨zq,z1,z2,z3,z4,z5,z6,z7,z8,z9⟩ := zeros_deep hpd n
  obtain ⟨rfl,_⟩ := hdeep hpd
  rw [z8] at exec
  split at he
  ·rename_i hnil
   split at he
   case isFalse => cases he
   rename_i hn0
   subst hn0
   cases he
   obtain ⟨hf1,hf2⟩ := free_made hgn hfree
   have hparts : parts.toList = [] := by simpa using hnil
   refine .inl ⟨_,_,exec (madeCells (Value.cells (.slice none 0 0)) (0 * 1)) (by omega) (by rw [hparts]; rfl),updN L d (some (.arr 0 0 (p.zeros 0).size (p.zeros 0).sizei (.slice (some ⟨w.heap.size,0,none⟩) 0 0) [])),updN fp d [w.heap.size],?_⟩
   rw [hdst]
   refine h.new hL0 (used := none) hf1 hf2 (by simp) (kept_alloc w _) (fun b hb => ?_) (by simp) (fun ob' fp' hR hLle => ?_) (hdst ▸ hd) (fun ob' fp' hR => ?_)
   ·simp at hb
    subst hb
    exact ⟨by simp,.inl (Nat.le_refl _)⟩
   ·refine ⟨_,_,rfl,?_⟩
    unfold OwnAt
    rw [z4]
    refine ⟨?_,by simp,[],by simp,fun k q' u g hq _ _ => by simp at hq,by simp [Value.ownBlock]⟩
    rw [z5]
    have := World.ownsRow_lit (base := 0) (e := e) (size := 1) w (madeCells (Value.cells (.slice none 0 0)) (0 * 1)) 0 (Nat.zero_le _) (by simp only [maxLen]; omega) (size_madeCells _ _)
    rwa [one_made (Value.cells (.slice none 0 0)) (.slice none 0 0) rfl 0] at this
   ·simp only [RelV]
    exact ⟨rfl,_,_,_,_,_,_,updN_same _ _ _,Nat.le_refl _,fun _ => rfl⟩
  ·rename_i o1 v1 hone
   split at he
   case h_2 => cases he
   rename_i q hq
   split at he
   case h_2 => cases he
   rename_i p' hrow
   split at he
   case isFalse => cases he
   rename_i hn1
   subst hn1
   cases he
   obtain ⟨hf1,hf2⟩ := free_made hgn hfree
   obtain ⟨x,hparts,hx⟩ : ∃ x,parts.toList = [(0,x)] ∧ opv σ none x = .sl o1 v1 := by
    cases hpl : parts.toList with
    | nil => rw [hpl] at hone; simp at hone
    | cons y r =>
     rw [hpl] at hone
     obtain ⟨i0,x⟩ := y
     simp only [List.map_cons,List.cons.injEq,Prod.mk.injEq,List.map_eq_nil_iff] at hone
     obtain ⟨⟨rfl,h2⟩,rfl⟩ := hone
     exact ⟨x,rfl,h2⟩
   have hrx := opv_rel_none h x
   rw [hx] at hrx
   simp only [RelV] at hrx
   obtain ⟨e1,rv1,hg1⟩ := payOf_sl hq
   obtain ⟨hdr,inn,hL1,hx1,hown⟩ := arr_get h.owns hg1 hrx
   obtain ⟨s1,s2,s3,s4,s5,s6,s7,ps,s8,s9⟩ := setRow_some hrow
   rw [z4] at s8
   cases s8
   simp only [List.replicate,List.set_cons_zero] at s9
   obtain ⟨r1,r2⟩ := row_own s1 hown
   have hone1 := ownsRow_one r1
   have hcells : hdr.cells = #[hdr] := by cases hdr <;> simp [Value.oneCell'] at hone1 <;> rfl
   obtain ⟨ys,y1,y2⟩ := fill_seq 1 (parts.toList.map fun x => (x.1,a.eval x.2)) 0 (madeCells (Value.cells (.slice none 0 0)) (1 * 1)) [hdr] (fun j i u hj => by
     rw [hparts] at hj
     cases j with
     | zero => simp at hj; obtain ⟨rfl,rfl⟩ := hj; rw [hx1,hcells]; simp
     | succ j => simp at hj) (by rw [hparts]; simp [hx1,hcells]) (by simp [size_madeCells])
   rw [Nat.zero_mul,setVals_all _ _ (by simp [size_madeCells])] at y2
   have hys : ys.size = 1 * 1 := by rw [← Array.length_toList,y2]; rfl
   have hlt := h.owns.lt o1
   have hd1 : getO σ.ob o1 ≠ none := by rw [hg1]; simp
   refine .inl ⟨_,_,exec ys (by omega) y1,updN L d (some (.arr 0 0 p'.size p'.sizei (.slice (some ⟨w.heap.size,0,none⟩) 1 1) [hdr])),updN fp d (w.heap.size :: fp o1),?_⟩
   rw [hdst]
   refine h.new hL0 (used := some o1) hf1 hf2 (fun e => by cases e; exact hd1 hgn) (kept_alloc w _) (fun b hb => ?_) ?_ (fun ob' fp' hR hLle => ?_) (hdst ▸ hd) (fun ob' fp' hR => ?_)
   ·rcases List.mem_cons.1 hb with rfl | hb
    ·exact ⟨by simp,.inl (Nat.le_refl _)⟩
    ·have := hlt b (by rw [hg1]; rfl) hb
     exact ⟨by simp; omega,.inr ⟨o1,rfl,by rw [hg1]; rfl,hb⟩⟩
   ·refine List.nodup_cons.2 ⟨fun hm => ?_,h.owns.nodup o1 (by rw [hg1]; rfl)⟩
    have := hlt _ (by rw [hg1]; rfl) hm
    omega
   ·refine ⟨_,_,rfl,?_⟩
    unfold OwnAt
    rw [s9]
    refine ⟨?_,by simp,[fp o1],by simp,fun k q' u g hq' hu' hg' => ?_,by simp [Value.ownBlock]⟩
    ·rw [s4,z5]
     have := World.ownsRow_lit (base := 0) (e := e) (size := 1) w ys 1 (Nat.zero_le _) (by simp only [maxLen]; omega) hys
     rwa [y2] at this
    ·cases k with
     | zero =>
      simp only [List.getElem?_cons_zero,Option.some.injEq] at hq' hu' hg'
      subst hq' hu' hg'
      refine ⟨⟨e1,ownsRow_heap r1 fun b hb => ?_⟩,r2⟩
      refine World.heap_alloc_keep _ _ _ (hlt b (by rw [hg1]; rfl) ?_)
      rw [r2,hb]; simp
     | succ k => simp at hq'
   ·simp only [RelV]
    exact ⟨rfl,_,_,_,_,_,_,updN_same _ _ _,Nat.le_refl _,fun _ => rfl⟩
  ·cases he
end
end Go.AM
namespace Go.AM
theorem row_at {w : World} {R : View} {base e size n : Nat} {v : Value} {xs : List Value} (h : w.ownsRow base e size v n xs)
  (hR : ∀ b,v.ownBlock = some b → ∀ (c : Array Value) (t : TypeId) (fr : Nat × Nat),w.heap[b]? = some (.cells c t fr) → R b = some c) : ∃ A c,v = .slice A n c ∧ n ≤ c ∧ RowAt R A xs := by
 obtain ⟨h1,h2⟩ := h
 rcases h2 with ⟨rfl,rfl⟩ | ⟨g,cap,cur,rfl,_,h4,h5,_,_,h8⟩
 ·refine ⟨none,0,rfl,Nat.le_refl _,.inl (List.eq_nil_of_length_eq_zero (by simpa using h1))⟩
 ·refine ⟨_,cap,rfl,h5,.inr ⟨g,0,cur,rfl,hR g rfl cur e (0,0) h4,fun j u hu => ?_⟩⟩
  have hj : j < n * size := by rw [← h1]; exact (List.getElem?_eq_some_iff.1 hu).1
  rw [← h8,List.getElem?_take,if_pos hj] at hu
  simpa using hu
theorem RowAt.sub {R : View} {b o off : Nat} {vals vals' : List Value} (h : RowAt R (some ⟨b,o,none⟩) vals) (hs : ∀ (j : Nat) (u : Value),vals'[j]? = some u → vals[off + j]? = some u) : RowAt R (some ⟨b,o + off,none⟩) vals' := by
 rcases h with h | ⟨b',o',cs,h1,h2,h3⟩
 ·subst h
  cases vals' with
  | nil => exact .inl rfl
  | cons x r => have := hs 0 x rfl; simp at this
 ·cases h1
  refine .inr ⟨_,_,cs,rfl,h2,fun j u hu => ?_⟩
  rw [Nat.add_assoc]
  exact h3 _ _ (hs j u hu)
theorem setVals_take (us : List Value) : ∀ (xs : List Value) (off n : Nat),(setVals xs off us).take n = setVals (xs.take n) off us := by
 induction us with
 | nil => intro xs off n; rfl
 | cons u r ih => intro xs off n; simp only [setVals,ih,List.take_set]
theorem kept_setRow (w : World) (g : Nat) (cs : Array Value) : Kept w (fun b => b = g) (w.setRow g cs) :=
 ⟨rfl,rfl,rfl,by simp [World.setRow],fun b _ hb => setRow_other w g b cs hb,Nat.le_refl _⟩
theorem setRow_size (w : World) (g : Nat) (cs : Array Value) : (w.setRow g cs).heap.size = w.heap.size := by simp [World.setRow]
section
variable {P : Program} {T : TEnv} {w0 : World} {F0 : Nat → Prop} {L0 : Locs} {nt : Nat} {σ : ASt} {a : Act} {w : World} {L : Locs} {fp : Nat → List Nat}
variable {o : Oper} {cs : List Prop} {av : AV} {obs : List (Nat × Option AObj)}
theorem run_storeAt_row {t : TypeId} {u : Value} {n : Nat} (hi : ∃ i,P.info? t = some i ∧ i.size = n) (hn : u.cells.size = n) {g off : Nat} {cur : Array Value} {te : TypeId} (hg : w.heap[g]? = some (.cells cur te (0,0)))
  (hl : off + u.cells.size ≤ cur.size) (h1 : ∀ x ∈ u.cells.toList,x.oneCell' = true) :
  (Instr.storeAt t (.pointer (some ⟨g,off,none⟩)) u).run P w = .ok () (w.setRow g (setVals cur.toList off u.cells.toList).toArray) := by
 obtain ⟨i,hi,his⟩ := hi
 have hst := run_storeCells_at P g off te u.cells.toList 0 cur w hg (by simpa using hl) h1
 rw [setVals_seg _ _ _ (by simpa using hl)]
 simp only [Instr.storeAt,Instr.sureAddr,storeVar,Sem.run_bind,sizeOf,typeInfo]
 simp [hi,his,hn] at hst ⊢
 exact hst
theorem ownsRow_set {base e size n : Nat} {hdr : Value} {xs us : List Value} {b off : Nat} (h : w.ownsRow base e size hdr n xs) (hb : hdr.ownBlock = some b) (hl : off + us.length ≤ xs.length) :
  ∃ cur,w.heap[b]? = some (.cells cur e (0,0)) ∧ off + us.length ≤ cur.size ∧ (w.setRow b (setVals cur.toList off us).toArray).ownsRow base e size hdr n (setVals xs off us) := by
 obtain ⟨h1,h2⟩ := h
 rcases h2 with ⟨rfl,_⟩ | ⟨g,cap,cur,rfl,h3,h4,h5,h6,h7,h8⟩
 ·simp [Value.ownBlock] at hb
 ·simp [Value.ownBlock] at hb
  subst hb
  have hxs : xs.length ≤ cur.size := by rw [← h8]; simp; omega
  refine ⟨cur,h4,by omega,by rw [setVals_length]; exact h1,.inr ⟨g,cap,_,rfl,h3,setRow_heap w g cur _ e _ h4,h5,h6,?_,?_⟩⟩
  ·simp [setVals_length,h7]
  ·simp only [setVals_take,h8]
theorem rats_set (l : List Q) : ∀ (e : Nat) (q : Q),e < l.length → (Pay.rats (l.set e q)).vals = ((Pay.rats l).vals.set (e * 2) (.int .i64 q.num)).set (e * 2 + 1) (.int .i64 q.den) := by
 induction l with
 | nil => intro e q h; simp at h
 | cons x r ih =>
  intro e q h
  cases e with
  | zero => simp [Pay.vals]
  | succ e =>
   have := ih e q (by simpa using h)
   simp only [Pay.vals] at this ⊢
   rw [List.set_cons_succ,List.flatMap_cons,this,List.flatMap_cons,show (e + 1) * 2 = e * 2 + 1 + 1 by omega]
   simp
theorem setElem_vals {R : View} {p p' : Pay} {e fo : Nat} {v : AV} {u : Value} {vs : List AV} (h : setElem p e fo v = some p') (he : e < p.len) (hv : RelV R L v u) (hc : cellsOf v = some vs) :
  p.subs = none ∧ p'.subs = none ∧ p'.len = p.len ∧ p'.size = p.size ∧ p'.sizei = p.sizei ∧ p'.vals = setVals p.vals (e * p.size + fo) u.cells.toList ∧ e * p.size + fo + u.cells.size ≤ p.vals.length := by
 unfold setElem at h
 split at h <;> cases h
 ·rename_i l n
  simp only [RelV] at hv
  subst hv
  simp only [Pay.len] at he
  refine ⟨rfl,rfl,by simp [Pay.len],rfl,rfl,?_,?_⟩
  ·simp [Pay.vals,Pay.size,Value.cells,setVals,List.map_set]
  ·simp [Pay.vals,Pay.size,Value.cells]; omega
 ·rename_i l n
  simp only [RelV] at hv
  subst hv
  simp only [Pay.len] at he
  have hr := rats_get l e he
  refine ⟨rfl,rfl,by simp [Pay.len],rfl,rfl,?_,?_⟩
  ·rw [rats_set l e _ he]
   simp only [Pay.size,Value.cells,setVals,Nat.add_zero]
   apply List.ext_getElem?
   intro j
   rw [List.getElem?_set]
   split
   ·rename_i hj
    subst hj
    rw [List.getElem?_set_ne (by omega),hr.2]
    rw [List.length_set,rats_length,if_pos (by omega)]
   ·rfl
  ·simp only [Pay.size,Value.cells,rats_length]; simp; omega
 ·rename_i l n
  simp only [RelV] at hv
  subst hv
  simp only [Pay.len] at he
  have hr := rats_get l e he
  refine ⟨rfl,rfl,by simp [Pay.len],rfl,rfl,?_,?_⟩
  ·rw [rats_set l e _ he]
   simp only [Pay.size,Value.cells,setVals]
   apply List.ext_getElem?
   intro j
   rw [List.getElem?_set,List.getElem?_set,List.getElem?_set]
   by_cases h1 : e * 2 + 1 = j
   ·simp [h1]
   ·rw [if_neg h1,if_neg h1]
    split
    ·rename_i hj
     subst hj
     rw [hr.1,rats_length,if_pos (by omega)]
    ·rfl
  ·simp only [Pay.size,Value.cells,rats_length]; simp; omega
 ·rename_i l n d
  simp only [RelV] at hv
  obtain ⟨us,rfl,h1,_⟩ := hv
  obtain ⟨us⟩ := us
  have hus : us = [.int .i64 n,.int .i64 d] := by
   match us,h1 with
   | [x,y],h1 => simp only [RelVs,RelV] at h1; rw [h1.1,h1.2.1]
   | [],h1 => simp [RelVs] at h1
   | [_],h1 => simp [RelVs] at h1
   | _ :: _ :: _ :: _,h1 => simp [RelVs] at h1
  subst hus
  simp only [Pay.len] at he
  refine ⟨rfl,rfl,by simp [Pay.len],rfl,rfl,?_,?_⟩
  ·rw [rats_set l e _ he]
   simp [Pay.size,Value.cells,setVals]
  ·simp only [Pay.size,Value.cells,rats_length]; simp; omega
 ·rename_i l s
  simp only [RelV] at hv
  subst hv
  simp only [Pay.len] at he
  refine ⟨rfl,rfl,by simp [Pay.len],rfl,rfl,?_,?_⟩
  ·simp [Pay.vals,Pay.size,Value.cells,setVals,List.map_set]
  ·simp [Pay.vals,Pay.size,Value.cells]; omega
theorem nodup_rows {f : List Nat} {fps : List (List Nat)} (h : (f ++ fps.flatten).Nodup) {k j b b' : Nat} {g g' : List Nat} (hk : fps[k]? = some g) (hj : fps[j]? = some g') (hkj : j ≠ k) (hb : b ∈ g) (hb' : b' ∈ g') : b' ≠ b ∧ b ∉ f := by
 obtain ⟨h1,h2,h3⟩ := List.nodup_append.1 h
 obtain ⟨_,h4⟩ := List.pairwise_flatten.1 h2
 rw [List.pairwise_iff_getElem] at h4
 obtain ⟨lk,ek⟩ := List.getElem?_eq_some_iff.1 hk
 obtain ⟨lj,ej⟩ := List.getElem?_eq_some_iff.1 hj
 refine ⟨fun e => ?_,fun hm => h3 b hm b (List.mem_flatten.2 ⟨g,List.mem_of_getElem? hk,hb⟩) rfl⟩
 subst e
 rcases Nat.lt_or_gt_of_ne hkj with hlt | hlt
 ·have := h4 j k lj lk hlt
  rw [ej,ek] at this
  exact this b' hb' b' hb rfl
 ·have := h4 k j lk lj hlt
  rw [ej,ek] at this
  exact this b' hb b' hb' rfl
theorem rows_head {f : List Nat} {fps : List (List Nat)} (h : (f ++ fps.flatten).Nodup) {k b : Nat} {g : List Nat} (hk : fps[k]? = some g) (hb : b ∈ g) : b ∉ f := fun hm =>
 (List.nodup_append.1 h).2.2 b hm b (List.mem_flatten.2 ⟨g,List.mem_of_getElem? hk,hb⟩) rfl
theorem ownBlock_lt {base e size n : Nat} {hdr : Value} {xs : List Value} {b : Nat} (h : w.ownsRow base e size hdr n xs) (hb : hdr.ownBlock = some b) : b < w.heap.size := by
 rcases h.2 with ⟨rfl,_⟩ | ⟨g,cap,cur,rfl,_,h4,_⟩
 ·simp [Value.ownBlock] at hb
 ·simp [Value.ownBlock] at hb
  subst hb
  exact heap_lt h4
theorem size_one {v : Value} (h : v.oneCell' = true) : v.cells = #[v] := by cases v <;> simp [Value.oneCell'] at h <;> rfl
theorem ran_store {t : TypeId} {x v : Operand} {w' : World} {σ' : ASt} (ho : o.op = .store t x v) (hrun : (Instr.storeAt t (a.eval x) (a.eval v)).run P w = .ok () w')
  (hS : ∃ L' fp',StW w0 F0 L0 nt σ' (a.put o.dst undef) w' L' fp') : Ran P o a w (St w0 F0 L0 nt σ') := by
 refine .inr ⟨w',?_,hS⟩
 simp only [execOp,ho,Sem.run_bind]
 rw [hrun]
 rfl
theorem flat_part {R : View} {q : Pay} {off len : Nat} {hdr v : Value} (hqd : q.isDeep = false) (h : FlatAt R q hdr) (hs : SlpAt off len q.size hdr v) : FlatAt R ((q.drop off).take len) v := by
 have hps := subs_flat.1 hqd
 obtain ⟨A,c,k1,k2,k3⟩ := h
 obtain ⟨A1,n1,c1,A',c',s1,s2,s3,s4,s5,_⟩ := hs
 rw [s1] at k1
 injection k1 with e1 e2 e3
 subst e1 e2 e3
 have hlen : ((q.drop off).take len).len = len := by rw [len_take,len_drop]; omega
 have hval : ((q.drop off).take len).vals = (q.vals.drop (off * q.size)).take (len * q.size) := by
  rw [vals_take (subs_drop hqd off).1,vals_drop hps,(subs_drop hqd off).2.1]
 refine ⟨A',c',by rw [s3,hlen],by rw [hlen]; exact s4,?_⟩
 by_cases h0 : 0 < len
 ·obtain ⟨b,o0,e1,e2⟩ := s5 h0
  rw [e1] at k3
  rw [e2,hval]
  exact k3.sub fun j u hu => drop_take_get hu
 ·have : len = 0 := by omega
  subst this
  exact .inl (by rw [hval]; simp)
theorem store_part {t : TypeId} {x v : Operand} {ob v0 rv el e k1 off len : Nat} {p p' : Pay} {hdr : Value} {inn : List Value} {vs : List AV} (h : StW w0 F0 L0 nt σ a w L fp) (hsz : ∃ i,P.info? t = some i ∧ i.size = vs.length)
  (hlen : (a.eval v).cells.size = vs.length) (c2 : ∀ u ∈ (a.eval v).cells.toList,u.oneCell' = true) (hd : okDst nt o.dst = true) (ho : o.op = .store t x v) (hg : getO σ.ob ob = some (.arr el v0 rv p)) (hL : L ob = some (.arr v0 rv p.size p.sizei hdr inn))
  (hK : EltAt e 0 p.size hdr (a.eval x)) (hown : OwnAt w el p hdr inn (fp ob)) (hpd : p.isDeep = true) (hv : RelV (view w (Owned σ.ob fp)) L (.subp ob v0 rv k1 off len) (a.eval v)) (hrow1 : setRow p e (((p.sub k1).drop off).take len) = some p') :
  Ran P o a w (St w0 F0 L0 nt ⟨put σ.sl o.dst .dead,updO σ.ob [(ob,some (.hol 0 v0 (rv + 1) p' 0))]⟩) := by
 obtain ⟨s1,s2,s3,s4,s5,s6,s7,ps,s8,s9⟩ := setRow_some hrow1
 simp only [RelV] at hv
 obtain ⟨hone,_,_,_,_,_,_,m1,_,m3⟩ := hv
 rw [hL] at m1
 injection m1 with m1
 injection m1 with e1 e2 e3 e4 e5 e6
 subst e1 e2 e3 e4 e5 e6
 obtain ⟨_,m4⟩ := m3 rfl
 obtain ⟨hdr1,hin,hcut⟩ := m4 rfl
 unfold OwnAt at hown
 rw [s8] at hown
 obtain ⟨hrow,hil,fps,hfl,hrows,hfp⟩ := hown
 have hp1 := deep_size hpd
 have hpl := (subs_get s8).1
 obtain ⟨b,o0,n,c,hhdr,hen,hax⟩ := hK
 obtain ⟨A,c',hs1,_,hs3⟩ := own_slice hrow
 rw [hhdr] at hs1
 injection hs1 with hA hn hc
 subst hA hn hc
 obtain ⟨b',hb'⟩ := hs3 (by omega)
 injection hb' with hb'
 injection hb' with hb1 hb2
 subst hb1 hb2
 have hb : hdr.ownBlock = some b := by rw [hhdr]; rfl
 have hcells : (a.eval v).cells.toList = [a.eval v] := by rw [size_one hone]
 obtain ⟨cur,g1,g2,g3⟩ := ownsRow_set hrow hb (us := [a.eval v]) (off := e) (by simp; omega)
 have hst := run_storeAt_row (P := P) (u := a.eval v) hsz hlen g1 (off := e) (by rw [← Array.length_toList,hcells]; simpa using g2) c2
 rw [hcells] at hst
 have hko : ∀ k,k ≠ b → (w.setRow b (setVals cur.toList e [a.eval v]).toArray).heap[k]? = w.heap[k]? := fun k hk => setRow_other w b k _ hk
 have hnd := h.owns.nodup ob (by rw [hg]; rfl)
 have hnd0 := hnd
 rw [hfp] at hnd
 have hbm : b ∈ hdr.ownBlock.toList := by rw [hb]; simp
 have hrowf : ∀ (j : Nat) (q : Pay) (u : Value),ps[j]? = some q → inn[j]? = some u → FlatAt (inB (w.setRow b (setVals cur.toList e [a.eval v]).toArray) (fp ob)) q u := fun j q u hq hu => by
  have hjl : j < fps.length := by
   have := (List.getElem?_eq_some_iff.1 hq).1
   omega
  have hg' : fps[j]? = some fps[j] := List.getElem?_eq_getElem hjl
  obtain ⟨⟨e',h6⟩,h7⟩ := hrows j q u _ hq hu hg'
  have h8 := ownsRow_heap (w' := w.setRow b (setVals cur.toList e [a.eval v]).toArray) h6 fun k' hk => hko k' fun e => rows_head (k := j) (g := fps[j]) (b := b) hnd hg' (by rw [h7,hk,e]; simp) hbm
  exact row_at h8 fun b' hb' c t fr hh => inB_of (by
   rw [hfp]
   exact List.mem_append_right _ (List.mem_flatten.2 ⟨_,List.getElem_mem hjl,by rw [h7,hb']; simp⟩)) hh
 refine ran_store ho (by rw [hax]; simp only [Nat.zero_add,Nat.add_zero,hp1,Nat.mul_one]; exact hst) ⟨updN L ob (some (.arr v0 (rv + 1) p'.size p'.sizei hdr inn)),updN fp ob (fp ob),?_⟩
 refine h.upd (l := .arr v0 (rv + 1) p'.size p'.sizei hdr inn) (x := .hol 0 v0 (rv + 1) p' 0) (used := none) hg hL ⟨Nat.le_refl _,fun _ => ⟨s5.symm,s6.symm,rfl,by omega,fun e => by omega⟩⟩ (by simp) ?_ (fun b' hb' => ⟨?_,.inr (.inl hb')⟩) hnd0 (fun ob' fp' hR hLle => ?_) hd (fun ob' fp' hR => by simp [RelV])
 ·have kk := kept_setRow w b (setVals cur.toList e [a.eval v]).toArray
  refine ⟨kk.os,kk.tape,kk.output,kk.size,fun k hk hn => kk.block k hk (fun e => hn ?_),kk.drawn⟩
  rw [hfp,e]
  exact List.mem_append_left _ hbm
 ·rw [setRow_size]
  exact h.owns.lt _ b' (by rw [hg]; rfl) hb'
 ·refine ⟨hdr,inn,rfl,.inr ⟨rfl,?_⟩⟩
  unfold ListAt
  rw [s9]
  dsimp only
  obtain ⟨A,c2,r1,r2,r3⟩ := row_at (R := inB (w.setRow b (setVals cur.toList e [a.eval v]).toArray) (fp ob)) g3 fun b' hb' c t fr hh => inB_of (by
   rw [hfp]
   exact List.mem_append_left _ (by rw [hb']; simp)) hh
  have hset : setVals inn e [a.eval v] = inn.set e (a.eval v) := rfl
  rw [hset] at r3
  refine ⟨A,c2,inn.set e (a.eval v),by rw [s4]; exact r1,by rw [s4]; exact r2,r3,by rw [List.length_set,s4]; omega,fun j q u hq hu => ?_⟩
  by_cases hje : e = j
  ·subst hje
   rw [List.getElem?_set_self (by omega)] at hq hu
   cases hq
   cases hu
   have hk1 : k1 < p.len := by
    have := (List.getElem?_eq_some_iff.1 hin).1
    omega
   have hf := hrowf k1 _ _ ((subs_get s8).2 k1 hk1) hin
   have hsub := sub_flat hpd k1
   refine flat_part (subs_flat.2 hsub.1) hf ?_
   rw [hsub.2]
   exact hcut
  ·rw [List.getElem?_set_ne hje] at hq hu
   exact hrowf j q u hq hu
theorem op_store {t : TypeId} {x v : Operand} (hT : TOk P T) (h : StW w0 F0 L0 nt σ a w L fp) (hd : okDst nt o.dst = true) (ho : o.op = .store t x v)
  (he : evalOp T σ o = .ok cs av obs) (hcs : AllP cs) : Ran P o a w (St w0 F0 L0 nt ⟨put σ.sl o.dst av,updO σ.ob obs⟩) := by
 simp only [evalOp,ho] at he
 have hx := opv_rel_none h x
 have hv := opv_rel_none h v
 split at he
 ·cases he
 rename_i vs hvs
 split at he
 ·cases he
 rename_i hsz
 have hsz := szIs_info hT hsz
 obtain ⟨c1,c2⟩ := cellsOf_rel hv hvs
 have hlen : (a.eval v).cells.size = vs.length := by have := c1.length; simpa using this.symm
 split at he
 ·-- a variable
  rename_i ob i hov
  rw [hov] at hx
  simp only [RelV] at hx
  obtain ⟨b,hb,hax⟩ := hx
  split at he
  case h_2 => cases he
  rename_i cells hg
  split at he
  case h_2 => cases he
  rename_i hle
  have hle := Nat.le_of_ble_eq_true hle
  cases he
  obtain ⟨l,h1,b',t',us,rfl,hf,hh,hr,hone⟩ := h.owns.obj ob _ hg
  rw [hb] at h1
  injection h1 with h1
  injection h1 with h1
  subst h1
  have hul := hr.length
  simp only [Array.length_toList] at hul
  refine ran_store ho (by rw [hax]; exact run_storeAt_row hsz hlen hh (by omega) c2) ⟨updN L ob (some (.box b)),updN fp ob [b],?_⟩
  refine h.upd (used := none) hg hb (LocLe.refl _) (by simp) ?_ (fun b' hb' => ?_) (by simp) (fun ob' fp' hR hLle => ?_) hd (fun ob' fp' hR => by simp [RelV])
  ·rw [hf]
   have := kept_setRow w b (setVals us.toList i (a.eval v).cells.toList).toArray
   exact ⟨this.os,this.tape,this.output,this.size,fun k hk hn => this.block k hk (fun e => hn (by rw [e]; simp)),this.drawn⟩
  ·simp at hb'
   subst hb'
   exact ⟨by rw [setRow_size]; exact heap_lt hh,.inr (.inl (by rw [hf]; simp))⟩
  ·refine ⟨b,t',_,rfl,rfl,setRow_heap w b us _ t' _ hh,?_,?_⟩
   ·dsimp only
    have hle' : ∀ as : List AV,LocsLe L (updN L ob (some (.box b))) (fun o => AV.free.go o as = false) := fun as => hLle.mono fun _ _ => trivial
    exact setVals_rel _ _ _ _ _ (hr.mono hR _ _ (hle' _)) (c1.mono hR _ _ (hle' _))
   ·dsimp only
    exact setVals_one c2 hone
 ·-- an element of an own slice
  rename_i ob ver e fo hov
  rw [hov] at hx
  simp only [RelV] at hx
  split at he
  case h_3 => cases he
  case h_2 =>
   rename_i el v0 r0 p kk hg
   split at he
   case h_2 => cases he
   rename_i o1 v1 r1 k1 hov1
   split at he
   case h_2 => cases he
   rename_i hchk
   cases he
   simp only [Bool.and_eq_true,Bool.not_eq_true'] at hchk
   obtain ⟨b0,b1,b2,b3,b4⟩ := hchk
   have b0 := Nat.ne_of_beq_eq_false b0
   have b1 := Nat.eq_of_beq_eq_true b1
   have b2 := Nat.eq_of_beq_eq_true b2
   have b3 := Nat.eq_of_beq_eq_true b3
   have b4 := Nat.eq_of_beq_eq_true b4
   subst b1 b2 b4
   subst b3
   obtain ⟨q1,q2,_⟩ := hcs
   subst q1
   subst q2
   rw [hov1] at hv
   simp only [RelV] at hv
   obtain ⟨l,hL,hdr,inn,rfl,hhol⟩ := h.owns.obj _ _ hg
   obtain ⟨_,ps,u0,p1,p2,p3,p4,fps,p5,p6,p7⟩ := hhol.resolve_right fun h => b0 h.1
   obtain ⟨hone,_,_,_,_,_,_,m1,_,m3⟩ := hv
   rw [hL] at m1
   injection m1 with m1
   injection m1 with e1 e2 e3 e4 e5 e6
   subst e1 e2 e3 e4 e5 e6
   have hin := (m3 rfl).2 rfl
   obtain ⟨_,_,_,_,_,_,_,m4,_,m6⟩ := hx
   rw [hL] at m4
   injection m4 with m4
   injection m4 with e1 e2 e3 e4 e5 e6
   subst e1 e2 e3 e4 e5 e6
   obtain ⟨b,o0,n,c,hhdr,hen,hax⟩ := m6 rfl
   have hpl := (subs_get p1).1
   have hcells : (a.eval v).cells.toList = [a.eval v] := by rw [size_one hone]
   have hpd : p.isDeep = true := subs_deep.2 ⟨_,p1⟩
   have hp1 := deep_size hpd
   obtain ⟨A,c',hs1,_,hs3⟩ := own_slice p3
   rw [hhdr] at hs1
   injection hs1 with hA hn hc
   subst hA hn hc
   obtain ⟨b',hb'⟩ := hs3 (by omega)
   injection hb' with hb'
   injection hb' with hb1 hb2
   subst hb1 hb2
   have hb : hdr.ownBlock = some b := by rw [hhdr]; rfl
   have hlen1 : (a.eval v).cells.size = 1 := by rw [size_one hone]; rfl
   obtain ⟨cur,g1,g2,g3⟩ := ownsRow_set p3 hb (us := [a.eval v]) (off := k1) (by simp; omega)
   have hst := run_storeAt_row (P := P) (u := a.eval v) hsz hlen g1 (off := k1) (by rw [hlen1]; simpa using g2) c2
   rw [hcells] at hst
   have hko : ∀ k,k ≠ b → (w.setRow b (setVals cur.toList k1 [a.eval v]).toArray).heap[k]? = w.heap[k]? := fun k hk => setRow_other w b k _ hk
   have hnd := h.owns.nodup _ (by rw [hg]; rfl)
   have hnd0 := hnd
   rw [p7] at hnd
   have hbm : b ∈ hdr.ownBlock.toList := by rw [hb]; simp
   have hinn : (inn.set k1 u0).set k1 (a.eval v) = inn := by
    rw [List.set_set]
    apply List.ext_getElem?
    intro m
    by_cases hm : k1 = m
    ·subst hm
     rw [List.getElem?_set_self p2,hin]
    ·rw [List.getElem?_set_ne hm]
   refine ran_store ho (by rw [hax]; simp only [Nat.zero_add,Nat.add_zero,hp1,Nat.mul_one]; exact hst) ⟨_,_,h.upd (l := .arr ver r1 p.size p.sizei hdr inn) (x := .arr el ver r1 p) (used := none) hg hL (LocLe.refl _) (by simp) ?_ (fun b' hb' => ⟨?_,.inr (.inl hb')⟩) hnd0 (fun ob' fp' hR hLle => ?_) hd (fun ob' fp' hR => by simp [RelV])⟩
   ·have kk := kept_setRow w b (setVals cur.toList k1 [a.eval v]).toArray
    refine ⟨kk.os,kk.tape,kk.output,kk.size,fun k hk hn => kk.block k hk (fun e => hn ?_),kk.drawn⟩
    rw [p7,e]
    exact List.mem_append_left _ hbm
   ·rw [setRow_size]
    exact h.owns.lt _ b' (by rw [hg]; rfl) hb'
   ·refine ⟨hdr,inn,rfl,?_⟩
    unfold OwnAt
    rw [p1]
    refine ⟨?_,p4,fps,p5,fun j q u g hq hu hg' => ?_,p7⟩
    ·have g3' : (w.setRow b (setVals cur.toList k1 [a.eval v]).toArray).ownsRow 0 el 1 hdr p.len ((inn.set k1 u0).set k1 (a.eval v)) := g3
     rw [hinn] at g3'
     exact g3'
    ·obtain ⟨⟨e',h6⟩,h7⟩ := p6 j q u g hq hu hg'
     exact ⟨⟨e',ownsRow_heap h6 fun k' hk => hko k' fun e => rows_head (k := j) (g := g) (b := b) hnd hg' (by rw [h7,hk,e]; simp) hbm⟩,h7⟩
  rename_i el v0 rv p hg
  split at he
  case isFalse => cases he
  rename_i hver
  subst hver
  obtain ⟨hdr,inn,hL,hK,hown⟩ := arr_get h.owns hg hx
  split at he
  ·rename_i hpd
   split at he
   case h_2 => cases he
   rename_i p' hse
   cases he
   have hsub := subs_flat.1 hpd
   unfold OwnAt at hown
   rw [hsub] at hown
   obtain ⟨hinn,hrow,hfp⟩ := hown
   obtain ⟨b,hb,hax,hep,_⟩ := own_cells hsub hrow hK
   obtain ⟨_,q1,q2,q3,q4,q5,q6⟩ := setElem_vals hse hep hv hvs
   obtain ⟨cur,k1,k2,k3⟩ := ownsRow_set hrow hb (us := (a.eval v).cells.toList) (off := e * p.size + fo) (by simpa using q6)
   refine ran_store ho (by rw [hax]; exact run_storeAt_row hsz hlen k1 (by simpa using k2) c2) ⟨updN L ob (some (.arr v0 rv p.size p.sizei hdr inn)),updN fp ob (fp ob),?_⟩
   have hbf : ∀ k,k ∈ fp ob ↔ k = b := by rw [hfp,hb]; simp
   refine h.upd (used := none) hg hL (LocLe.refl _) (by simp) ?_ (fun b' hb' => ⟨?_,.inr (.inl hb')⟩) (h.owns.nodup ob (by rw [hg]; rfl)) (fun ob' fp' hR hLle => ?_) hd (fun ob' fp' hR => by simp [RelV])
   ·have := kept_setRow w b (setVals cur.toList (e * p.size + fo) (a.eval v).cells.toList).toArray
    exact ⟨this.os,this.tape,this.output,this.size,fun k hk hn => this.block k hk (fun e => hn ((hbf k).2 e)),this.drawn⟩
   ·rw [setRow_size]; exact h.owns.lt ob b' (by rw [hg]; rfl) hb'
   ·refine ⟨hdr,inn,by rw [q3,q4],?_⟩
    unfold OwnAt
    rw [q1]
    refine ⟨hinn,?_,hfp⟩
    rw [q2,q3,q5]
    exact k3
  ·rename_i hpd
   split at he
   case h_3 => cases he
   case h_2 =>
    -- a part of a row
    rename_i o1 v1 r1 k1 off len hov1
    split at he
    case h_2 => cases he
    rename_i hchk
    split at he
    case h_2 => cases he
    rename_i p' hrow1
    cases he
    simp only [Bool.and_eq_true] at hchk
    have b1 := Nat.eq_of_beq_eq_true hchk.1
    have b2 := Nat.eq_of_beq_eq_true hchk.2.1
    have b3 := Nat.eq_of_beq_eq_true hchk.2.2
    subst b1 b2 b3
    rw [hov1] at hv
    exact store_part h hsz hlen c2 hd ho hg hL hK hown hpd hv hrow1
   rename_i o1 v1 hov1
   rw [hov1] at hv
   split at he
   case h_2 => cases he
   rename_i q hq
   split at he
   case h_2 => cases he
   rename_i p' hrow1
   split at he
   ·cases he
   rename_i hne
   cases he
   simp only [RelV] at hv
   obtain ⟨e1,rv1,hg1⟩ := payOf_sl hq
   obtain ⟨hdr1,inn1,hL1,hx1,hown1⟩ := arr_get h.owns hg1 hv
   obtain ⟨s1,s2,s3,s4,s5,s6,s7,ps,s8,s9⟩ := setRow_some hrow1
   obtain ⟨r1,r2⟩ := row_own s1 hown1
   have hone1 := ownsRow_one r1
   have hcells : (a.eval v).cells.toList = [hdr1] := by rw [hx1,size_one hone1]
   unfold OwnAt at hown
   rw [s8] at hown
   obtain ⟨hrow,hil,fps,hfl,hrows,hfp⟩ := hown
   have hp1 := deep_size hpd
   have hpl := (subs_get s8).1
   have hil' : inn.length = p.len := hil.trans hpl
   obtain ⟨b,o0,n,c,hhdr,hen,hax⟩ := hK
   obtain ⟨A,c',hs1,_,hs3⟩ := own_slice hrow
   rw [hhdr] at hs1
   injection hs1 with hA hn hc
   subst hA hn hc
   obtain ⟨b',hb'⟩ := hs3 (by omega)
   injection hb' with hb'
   injection hb' with hb1 hb2
   subst hb1 hb2
   have hb : hdr.ownBlock = some b := by rw [hhdr]; rfl
   obtain ⟨cur,k1,k2,k3⟩ := ownsRow_set hrow hb (us := [hdr1]) (off := e) (by simp; omega)
   have hnd := h.owns.nodup ob (by rw [hg]; rfl)
   have hnd1 := h.owns.nodup o1 (by rw [hg1]; rfl)
   have hdj : ∀ k,k ∈ fp ob → k ∈ fp o1 → False := fun k hk hk' => h.owns.disj ob o1 k (by rw [hg]; rfl) (by rw [hg1]; rfl) (fun e => hne e.symm) hk hk'
   rw [hfp] at hnd hdj
   have hbm : b ∈ hdr.ownBlock.toList := by rw [hb]; simp
   have helt : e < fps.length := by omega
   obtain ⟨n1,n2,n3⟩ := List.nodup_append.1 hnd
   obtain ⟨n4,n5⟩ := List.pairwise_flatten.1 n2
   have hmem : ∀ k,k ∈ (fps.set e (fp o1)).flatten → k ∈ fps.flatten ∨ k ∈ fp o1 := by
    intro k hk
    obtain ⟨g,hg',hk'⟩ := List.mem_flatten.1 hk
    rcases List.mem_or_eq_of_mem_set hg' with h1 | h1
    ·exact .inl (List.mem_flatten.2 ⟨g,h1,hk'⟩)
    ·subst h1; exact .inr hk'
   have hst := run_storeAt_row (P := P) (u := a.eval v) hsz hlen k1 (off := e) (by rw [← Array.length_toList,hcells]; simpa using k2) c2
   rw [hcells] at hst
   have hko : ∀ k,k ≠ b → (w.setRow b (setVals cur.toList e [hdr1]).toArray).heap[k]? = w.heap[k]? := fun k hk => setRow_other w b k _ hk
   refine ran_store ho (by rw [hax]; simp only [Nat.zero_add,Nat.add_zero,hp1,Nat.mul_one]; exact hst) ⟨updN L ob (some (.arr v0 (rv + 1) p.size p.sizei hdr (inn.set e hdr1))),updN fp ob (hdr.ownBlock.toList ++ (fps.set e (fp o1)).flatten),?_⟩
   refine h.upd (l := .arr v0 (rv + 1) p.size p.sizei hdr (inn.set e hdr1)) (used := some o1) hg hL ⟨Nat.le_refl _,fun _ => ⟨rfl,rfl,rfl,by omega,fun e => by omega⟩⟩ (fun e => hne (Option.some.inj e)) ?_ (fun b' hb' => ⟨?_,?_⟩) ?_ (fun ob' fp' hR hLle => ?_) hd (fun ob' fp' hR => by simp [RelV])
   ·have := kept_setRow w b (setVals cur.toList e [hdr1]).toArray
    refine ⟨this.os,this.tape,this.output,this.size,fun k hk hn => this.block k hk (fun e => hn ?_),this.drawn⟩
    rw [hfp,e]
    exact List.mem_append_left _ hbm
   ·rw [setRow_size]
    rcases List.mem_append.1 hb' with h1 | h1
    ·exact h.owns.lt ob b' (by rw [hg]; rfl) (by rw [hfp]; exact List.mem_append_left _ h1)
    ·rcases hmem _ h1 with h2 | h2
     ·exact h.owns.lt ob b' (by rw [hg]; rfl) (by rw [hfp]; exact List.mem_append_right _ h2)
     ·exact h.owns.lt o1 b' (by rw [hg1]; rfl) h2
   ·rcases List.mem_append.1 hb' with h1 | h1
    ·exact .inr (.inl (by rw [hfp]; exact List.mem_append_left _ h1))
    ·rcases hmem _ h1 with h2 | h2
     ·exact .inr (.inl (by rw [hfp]; exact List.mem_append_right _ h2))
     ·exact .inr (.inr ⟨o1,rfl,by rw [hg1]; rfl,h2⟩)
   ·refine List.nodup_append.2 ⟨n1,List.pairwise_flatten.2 ⟨fun l hl => ?_,?_⟩,fun k hk k' hk' => ?_⟩
    ·rcases List.mem_or_eq_of_mem_set hl with h1 | h1
     ·exact n4 l h1
     ·subst h1; exact hnd1
    ·rw [List.pairwise_iff_getElem] at n5 ⊢
     intro i j hi hj hij x hxm y hym
     simp only [List.length_set] at hi hj
     have ini : ∀ k (hk : k < fps.length) z,z ∈ fps[k] → z ∈ hdr.ownBlock.toList ++ fps.flatten := fun k hk z hz => List.mem_append_right _ (List.mem_flatten.2 ⟨_,List.getElem_mem hk,hz⟩)
     rw [List.getElem_set] at hxm hym
     split at hxm <;> split at hym
     ·omega
     ·exact fun e => hdj y (ini j hj y hym) (e ▸ hxm)
     ·exact fun e => hdj x (ini i hi x hxm) (e ▸ hym)
     ·exact n5 i j hi hj hij x hxm y hym
    ·rcases hmem _ hk' with h2 | h2
     ·exact n3 k hk k' h2
     ·exact fun e => hdj k (List.mem_append_left _ hk) (e ▸ h2)
   ·refine ⟨hdr,inn.set e hdr1,by rw [s5,s6],?_⟩
    unfold OwnAt
    rw [s9]
    refine ⟨by rw [s4]; exact k3,by simp [hil],fps.set e (fp o1),by simp [hfl],fun k q' u g hq' hu' hg' => ?_,rfl⟩
    by_cases hke : e = k
    ·subst hke
     rw [List.getElem?_set_self (by omega)] at hq' hu' hg'
     cases hq'
     cases hu'
     cases hg'
     refine ⟨⟨e1,ownsRow_heap r1 fun k hk => hko k fun e => ?_⟩,r2⟩
     exact hdj k (List.mem_append_left _ (e ▸ hbm)) (by rw [r2,hk]; simp)
    ·rw [List.getElem?_set_ne hke] at hq' hu' hg'
     obtain ⟨⟨e',h6⟩,h7⟩ := hrows k q' u g hq' hu' hg'
     refine ⟨⟨e',ownsRow_heap h6 fun k' hk => hko k' fun e => ?_⟩,h7⟩
     exact rows_head (k := k) (g := g) (b := b) hnd hg' (by rw [h7,hk,e]; simp) hbm
 ·-- an element of a row of an own slice
  rename_i ob ver rv k e fo hov
  rw [hov] at hx
  simp only [RelV] at hx
  split at he
  case h_2 => cases he
  rename_i el v0 r0 p hg
  split at he
  case isFalse => cases he
  rename_i hver
  subst hver
  split at he
  case isFalse => cases he
  rename_i hrv
  subst hrv
  split at he
  case h_2 => cases he
  rename_i hpd
  split at he
  case h_2 => cases he
  rename_i r hse
  split at he
  case h_2 => cases he
  rename_i p' hrow1
  cases he
  obtain ⟨hdr,inn,hL,⟨_,hK⟩,hown⟩ := arr_get h.owns hg hx
  obtain ⟨hdk,hik,hK⟩ := hK rfl
  obtain ⟨s1,s2,s3,s4,s5,s6,s7,ps,s8,s9⟩ := setRow_some hrow1
  unfold OwnAt at hown
  rw [s8] at hown
  obtain ⟨hrow,hil,fps,hfl,hrows,hfp⟩ := hown
  have hpl := (subs_get s8).1
  have hk1 : k < inn.length := (List.getElem?_eq_some_iff.1 hik).1
  have hps := (subs_get s8).2 k (by omega)
  have hgk : fps[k]? = some fps[k] := List.getElem?_eq_getElem (by omega)
  obtain ⟨⟨e',hr⟩,hg'⟩ := hrows k _ _ _ hps hik hgk
  obtain ⟨f1,f2⟩ := sub_flat hpd k
  rw [← f2] at hK
  obtain ⟨b,hb,hax,hep,_⟩ := own_cells f1 hr hK
  obtain ⟨_,q1,q2,q3,q4,q5,q6⟩ := setElem_vals hse hep hv hvs
  obtain ⟨cur,k1,k2,k3⟩ := ownsRow_set hr hb (us := (a.eval v).cells.toList) (off := e * (p.sub k).size + fo) (by simpa using q6)
  have hnd := h.owns.nodup ob (by rw [hg]; rfl)
  have hnd' := hnd
  rw [hfp] at hnd'
  have hbm : b ∈ fps[k] := by rw [hg',hb]; simp
  have hbf : b ∈ fp ob := by rw [hfp]; exact List.mem_append_right _ (List.mem_flatten.2 ⟨_,List.getElem_mem _,hbm⟩)
  have hko : ∀ j,j ≠ b → (w.setRow b (setVals cur.toList (e * (p.sub k).size + fo) (a.eval v).cells.toList).toArray).heap[j]? = w.heap[j]? := fun j hj => setRow_other w b j _ hj
  refine ran_store ho (by rw [hax]; exact run_storeAt_row hsz hlen k1 (by simpa using k2) c2) ⟨updN L ob (some (.arr v0 r0 p.size p.sizei hdr inn)),updN fp ob (fp ob),?_⟩
  refine h.upd (used := none) hg hL (LocLe.refl _) (by simp) ?_ (fun b' hb' => ⟨?_,.inr (.inl hb')⟩) hnd (fun ob' fp' hR hLle => ?_) hd (fun ob' fp' hR => by simp [RelV])
  ·have := kept_setRow w b (setVals cur.toList (e * (p.sub k).size + fo) (a.eval v).cells.toList).toArray
   exact ⟨this.os,this.tape,this.output,this.size,fun k hk hn => this.block k hk (fun e => hn (e ▸ hbf)),this.drawn⟩
  ·rw [setRow_size]; exact h.owns.lt ob b' (by rw [hg]; rfl) hb'
  ·refine ⟨hdr,inn,by rw [s5,s6],?_⟩
   unfold OwnAt
   rw [s9]
   refine ⟨?_,by simp [hil],fps,by simp [hfl],fun j q' u g hq' hu' hg'' => ?_,hfp⟩
   ·rw [s4]
    refine ownsRow_heap hrow fun j hj => hko j fun e => ?_
    exact rows_head hnd' hgk hbm (by rw [hj,e]; simp)
   ·by_cases hke : k = j
    ·subst hke
     rw [List.getElem?_set_self (by omega)] at hq'
     rw [hik] at hu'
     rw [hgk] at hg''
     cases hq'
     cases hu'
     cases hg''
     refine ⟨⟨e',?_⟩,hg'⟩
     rw [q2,q3,q5]
     exact k3
    ·rw [List.getElem?_set_ne hke] at hq'
     obtain ⟨⟨e2,h6⟩,h7⟩ := hrows j q' u g hq' hu' hg''
     refine ⟨⟨e2,ownsRow_heap h6 fun k' hk' => hko k' fun e => ?_⟩,h7⟩
     exact (nodup_rows hnd' hgk hg'' (fun e => hke e.symm) hbm (b' := k') (by rw [h7,hk']; simp)).1 e
 ·cases he
end
end Go.AM
namespace Go.AM
def SrcAt (w : World) (q : Pay) (u : Value) : Prop :=
 ∃ A c,u = .slice A q.len c ∧ (q.vals = [] ∨ ∃ b off,A = some ⟨b,off,none⟩ ∧ ∀ (j : Nat) (x : Value),q.vals[j]? = some x → w.cell? ⟨b,off + j,none⟩ = some x)
theorem vals_one {p : Pay} (h : p.subs = none) : ∀ u ∈ p.vals,u.oneCell' = true := by
 cases p <;> simp only [Pay.subs,reduceCtorEq] at h <;> simp [Pay.vals,Value.oneCell']
 intro u x _ hu
 rcases hu with rfl | rfl <;> rfl
theorem app_flat {p q p' : Pay} (h : p.app q = some p') : p'.len = p.len + q.len ∧ p'.size = p.size ∧ p'.sizei = p.sizei ∧ q.size = p.size ∧ q.isDeep = p.isDeep ∧ p'.isDeep = p.isDeep ∧ p'.vals = p.vals ++ q.vals ∧ (∀ ps qs,p.subs = some ps → q.subs = some qs → p'.subs = some (ps ++ qs)) := by
 cases p <;> cases q <;> simp only [Pay.app,reduceCtorEq,Option.some.injEq] at h <;> subst h <;> simp [Pay.len,Pay.size,Pay.sizei,Pay.isDeep,Pay.vals,Pay.subs] <;> (intros; subst_vars; simp)
section
variable {P : Program} {T : TEnv} {w0 : World} {F0 : Nat → Prop} {L0 : Locs} {nt : Nat} {σ : ASt} {a : Act} {w : World} {L : Locs} {fp : Nat → List Nat}
variable {o : Oper} {cs : List Prop} {av : AV} {obs : List (Nat × Option AObj)}
theorem row_src {base e : TypeId} {q : Pay} {u : Value} (h : w.ownsRow base e q.size u q.len q.vals) : SrcAt w q u := by
 obtain ⟨A,c,h1,h2,h3⟩ := own_slice h
 refine ⟨A,c,h1,?_⟩
 cases hv : q.vals with
 | nil => exact .inl rfl
 | cons x r =>
  have hl : 0 < q.len := by
   have := h.1
   rw [hv] at this
   by_cases h0 : q.len = 0
   ·rw [h0] at this; simp at this
   ·omega
  obtain ⟨b,hb⟩ := h3 hl
  subst hb
  refine .inr ⟨b,0,rfl,fun j x hx => ?_⟩
  have := h.cells (g := b) (by rw [h1]; rfl) j x (by rw [hv]; exact hx)
  have hadd : (⟨b,0,none⟩ : Addr).add j = ⟨b,0 + j,none⟩ := by unfold Addr.add; split <;> simp_all
  rw [hadd] at this
  exact this
theorem src_of {v : AV} {u : Value} {q : Pay} (h : Owns w σ.ob L fp) (hq : payOf σ.ob v = some q) (hf : q.isDeep = false) (hv : RelV (view w (Owned σ.ob fp)) L v u) : SrcAt w q u := by
 have hfs := subs_flat.1 hf
 cases v <;> simp only [payOf,reduceCtorEq,Option.some.injEq] at hq
 case list p =>
  subst hq
  simp only [RelV] at hv
  unfold ListAt at hv
  rw [hfs] at hv
  obtain ⟨A,c,h1,h2⟩ := flatAt_cells hv
  refine ⟨A,c,h1,?_⟩
  cases hp : p.vals with
  | nil => exact .inl rfl
  | cons x r =>
   obtain ⟨b,o0,cs,h3,h4,h5⟩ := h2 (by rw [hp]; simp)
   refine .inr ⟨b,o0,h3,fun j u hu => ?_⟩
   rw [view_cell h4]
   exact h5 j u (by rw [hp]; exact hu)
 case nil p =>
  subst hq
  simp only [RelV] at hv
  refine ⟨none,0,by rw [hv.1,hv.2],.inl ?_⟩
  exact List.eq_nil_of_length_eq_zero (by rw [vals_length hfs,hv.2,Nat.zero_mul])
 case sl o ver =>
  obtain ⟨e,rv,hg⟩ := payOf_sl (ob := σ.ob) (o := o) (ver := ver) (q := q) (by simp only [payOf]; exact hq)
  simp only [RelV] at hv
  obtain ⟨hdr,inn,_,h1,h2⟩ := arr_get h hg hv
  subst h1
  unfold OwnAt at h2
  rw [hfs] at h2
  exact row_src h2.2.1
 case slp o ver off len =>
  obtain ⟨e,rv,p,hg,hpd,rfl⟩ := payOf_slp (ob := σ.ob) (o := o) (ver := ver) (off := off) (len := len) (q := q) (by simp only [payOf]; exact hq)
  simp only [RelV] at hv
  obtain ⟨hdr,inn,_,h1,h2⟩ := arr_get h hg hv
  have hps := subs_flat.1 hpd
  unfold OwnAt at h2
  rw [hps] at h2
  obtain ⟨_,hrow,_⟩ := h2
  obtain ⟨A,n,c,A',c',s1,s2,s3,s4,s5,_⟩ := h1
  obtain ⟨A2,c2,t1,t2,t3⟩ := own_slice hrow
  rw [s1] at t1
  injection t1 with t1 t1' t1''
  subst t1 t1' t1''
  have hlen : ((p.drop off).take len).len = len := by rw [len_take,len_drop]; omega
  have hval : ((p.drop off).take len).vals = (p.vals.drop (off * p.size)).take (len * p.size) := by
   rw [vals_take (subs_drop hpd off).1,vals_drop hps,(subs_drop hpd off).2.1]
  refine ⟨A',c',by rw [s3,hlen],?_⟩
  by_cases h0 : 0 < len
  ·obtain ⟨b,o0,e1,e2⟩ := s5 h0
   obtain ⟨b',hb'⟩ := t3 (by omega)
   rw [e1] at hb'
   injection hb' with hb'
   injection hb' with hb1 hb2
   subst hb1 hb2
   refine .inr ⟨b,_,e2,fun j x hx => ?_⟩
   rw [hval] at hx
   have hx := drop_take_get hx
   have := hrow.cells (g := b) (by rw [s1,e1]; rfl) _ _ hx
   have hadd : (⟨b,0,none⟩ : Addr).add (off * p.size + j) = ⟨b,0 + off * p.size + j,none⟩ := by unfold Addr.add; split <;> simp_all
   rw [hadd] at this
   exact this
  ·have : len = 0 := by omega
   subst this
   exact .inl (by rw [hval]; simp)
 case sub o ver rv k =>
  obtain ⟨e,p,hg,hdeep,rfl⟩ := payOf_sub (ob := σ.ob) (o := o) (ver := ver) (rv := rv) (k := k) (q := q) (by simp only [payOf]; exact hq)
  simp only [RelV] at hv
  obtain ⟨hdr,inn,_,h1,h2⟩ := arr_get h hg hv
  have hin := h1.2 rfl
  obtain ⟨ps,hps⟩ := subs_deep.1 hdeep
  unfold OwnAt at h2
  rw [hps] at h2
  obtain ⟨_,hlen,fps,hfl,h3,_⟩ := h2
  have hk : k < inn.length := (List.getElem?_eq_some_iff.1 hin).1
  have hk' : k < p.len := by rw [← (subs_get hps).1,← hlen]; exact hk
  obtain ⟨⟨e',h4⟩,_⟩ := h3 k _ _ _ ((subs_get hps).2 k hk') hin (List.getElem?_eq_getElem (by omega))
  exact row_src h4
theorem run_app {t ty e : TypeId} {i : TypeInfo} {z : Value} {size n m : Nat} {v u : Value} {xs news : List Value} (ht : P.underlying t = some (.slice e)) (hi : P.info? e = some i) (hz : i.zero = some z)
  (hsize : i.size = size) (hby : i.bytes ≤ 64) (hzs : z.cells.size = size) (hsz : 0 < size) (hown : w.ownsRow 0 e size v n xs) (hroom : n + m ≤ room)
  (hl : news.length = m * size) (h1 : ∀ u ∈ news,u.oneCell' = true)
  (hu : ∃ A c,u = .slice A m c ∧ (news = [] ∨ ∃ b off,A = some ⟨b,off,none⟩ ∧ ∀ (j : Nat) (x : Value),news[j]? = some x → w.cell? ⟨b,off + j,none⟩ = some x)) :
  ∃ v' w',(Builtin.append_ #[t,t] ty #[v,u]).run P w = .ok v' w' ∧ w'.ownsRow 0 e size v' (n + m) (xs ++ news) ∧ w.grownBy w' v.ownBlock ∧ (v'.ownBlock = v.ownBlock ∨ v'.ownBlock = some w.heap.size) := by
 obtain ⟨A,c,rfl,hA⟩ := hu
 simp only [room] at hroom
 have hb2 : (n + m) * i.bytes ≤ 140737488355328 := by
  have := Nat.mul_le_mul hroom hby
  omega
 have some_case : ∀ ad : Addr,A = some ad → (∀ (j : Nat) (x : Value),news[j]? = some x → w.cell? (ad.add j) = some x) → ∃ v' w',(Builtin.append_ #[t,t] ty #[v,.slice A m c]).run P w = .ok v' w' ∧ w'.ownsRow 0 e size v' (n + m) (xs ++ news) ∧ w.grownBy w' v.ownBlock ∧ (v'.ownBlock = v.ownBlock ∨ v'.ownBlock = some w.heap.size) := by
  intro ad hA' hc
  subst hA'
  obtain ⟨v',w',r1,r2,r3,_,r5⟩ := run_append_own_at (P := P) w 0 t ty e i z size i.bytes ht hi hz hsize rfl hzs hsz v n xs hown ad m c news hl hc h1 (by simp only [maxLen]; omega) hb2 (Nat.zero_le _)
  exact ⟨v',w',r1,r2,r3,r5⟩
 rcases hA with hn | ⟨b,off,hA,hc⟩
 ·subst hn
  have hm : m = 0 := by
   simp only [List.length_nil] at hl
   rcases Nat.mul_eq_zero.1 hl.symm with h | h
   ·exact h
   ·omega
  subst hm
  cases A with
  | some ad => exact some_case ad rfl (fun j x hx => by simp at hx)
  | none =>
   obtain ⟨A',c',hv,hle,_⟩ := own_slice hown
   refine ⟨v,w,?_,by simpa using hown,⟨rfl,rfl,rfl,Nat.le_refl _,fun _ _ _ => rfl⟩,.inl rfl⟩
   rw [hv]
   exact run_append_nothing w t t ty e i ht hi A' n c' hle _ ⟨.inl ⟨e,ht⟩,fun w' => rfl,rfl,rfl,by simp,by simp⟩
 ·exact some_case _ hA fun j x hx => by
   have hadd : (⟨b,off,none⟩ : Addr).add j = ⟨b,off + j,none⟩ := by unfold Addr.add; split <;> simp_all
   rw [hadd]
   exact hc j x hx
theorem run_append_room2 (t ty e e' : TypeId) (i : TypeInfo) (ht : P.underlying t = some (.slice e)) (hi : P.info? e = some i)
  (g sLen sCap : Nat) (cur : Array Value) (hg : w.heap[g]? = some (.cells cur e' (0,0)))
  (a : Addr) (m c : Nat) (news : List Value) (hl : news.length = m * i.size) (hnews : ∀ j u,news[j]? = some u → w.cell? (a.add j) = some u) (h1 : ∀ u ∈ news,u.oneCell' = true)
  (hroom : sLen + m ≤ sCap) (hfit : sLen * i.size + news.length ≤ cur.size) :
  (Builtin.append_ #[t,t] ty #[.slice (some ⟨g,0,none⟩) sLen sCap,.slice (some a) m c]).run P w =
   .ok (.slice (some ⟨g,0,none⟩) (sLen + m) sCap) (w.setRow g (cur.toList.take (sLen * i.size) ++ news ++ cur.toList.drop (sLen * i.size + news.length)).toArray) := by
 have hf := run_firstCells_some (P := P) w i.size m a m c news hl hnews
 have hst := run_storeCells_at P g (sLen * i.size) e' news 0 cur w hg (by simpa using hfit) h1
 simp only [Nat.add_zero] at hst
 simp [Builtin.append_,run_underlying ht,sizeOf,typeInfo,hi,Builtin.lenOf,hroom,hf,Addr.add_lit,hst]
theorem run_app_any {t ty e e' : TypeId} {i : TypeInfo} {z : Value} {size n m : Nat} {v u : Value} {xs news : List Value} (ht : P.underlying t = some (.slice e)) (hi : P.info? e = some i) (hz : i.zero = some z)
  (hsize : i.size = size) (hby : i.bytes ≤ 64) (hzs : z.cells.size = size) (hsz : 0 < size) (hown : w.ownsRow 0 e' size v n xs) (hroom : n + m ≤ room)
  (hl : news.length = m * size) (h1 : ∀ u ∈ news,u.oneCell' = true)
  (hu : ∃ A c,u = .slice A m c ∧ (news = [] ∨ ∃ b off,A = some ⟨b,off,none⟩ ∧ ∀ (j : Nat) (x : Value),news[j]? = some x → w.cell? ⟨b,off + j,none⟩ = some x)) :
  ∃ v' w' e2,(Builtin.append_ #[t,t] ty #[v,u]).run P w = .ok v' w' ∧ w'.ownsRow 0 e2 size v' (n + m) (xs ++ news) ∧ w.grownBy w' v.ownBlock ∧ ∀ b,v'.ownBlock = some b → v.ownBlock = some b ∨ w.heap.size ≤ b := by
 rcases hown.2 with ⟨rfl,rfl⟩ | ⟨g,cap,cur,rfl,_,hg,hnc,hcm,hcs,htake⟩
 ·have hx : xs = [] := List.eq_nil_of_length_eq_zero (by simpa using hown.1)
  subst hx
  obtain ⟨v',w',r1,r2,r3,r4⟩ := run_app (P := P) (w := w) (t := t) (ty := ty) ht hi hz hsize hby hzs hsz (World.ownsRow_nil w 0 e size) hroom hl h1 hu
  refine ⟨v',w',e,r1,r2,r3,fun b hb => ?_⟩
  rcases r4 with r4 | r4
  ·exact .inl (r4 ▸ hb)
  ·rw [r4] at hb
   cases hb
   exact .inr (Nat.le_refl _)
 ·obtain ⟨A,c,rfl,hA⟩ := hu
  simp only [room] at hroom
  subst hsize
  have hb2 : (n + m) * i.bytes ≤ 140737488355328 := by
   have := Nat.mul_le_mul hroom hby
   omega
  have hlen : (xs ++ news).length = (n + m) * i.size := by rw [List.length_append,hown.1,hl,Nat.add_mul]
  have some_case : ∀ ad : Addr,A = some ad → (∀ (j : Nat) (x : Value),news[j]? = some x → w.cell? (ad.add j) = some x) → ∃ v' w' e2,(Builtin.append_ #[t,t] ty #[.slice (some ⟨g,0,none⟩) n cap,.slice A m c]).run P w = .ok v' w' ∧ w'.ownsRow 0 e2 i.size v' (n + m) (xs ++ news) ∧ w.grownBy w' (Value.ownBlock (.slice (some ⟨g,0,none⟩) n cap)) ∧ ∀ b,v'.ownBlock = some b → Value.ownBlock (.slice (some ⟨g,0,none⟩) n cap) = some b ∨ w.heap.size ≤ b := by
   intro ad hA' hc
   subst hA'
   by_cases hrm : n + m ≤ cap
   ·have hfit : n * i.size + news.length ≤ cur.size := by rw [hl,hcs,← Nat.add_mul]; exact Nat.mul_le_mul_right _ hrm
    have hr := run_append_room2 (P := P) t ty e e' i ht hi g n cap cur hg ad m c news hl hc h1 hrm hfit
    refine ⟨_,_,e',hr,⟨hlen,.inr ⟨g,cap,_,rfl,Nat.zero_le _,setRow_heap w g cur _ e' _ hg,hrm,hcm,?_,?_⟩⟩,⟨rfl,rfl,rfl,by simp,fun k _ hk => setRow_other w g k _ (fun e => hk (by simp [Value.ownBlock,e]))⟩,fun b hb => .inl hb⟩
    ·simp only [List.size_toArray,List.length_append,List.length_take,List.length_drop,Array.length_toList]
     omega
    ·rw [htake,← hlen]
     exact List.take_left
   ·have holds : ∀ j u,xs[j]? = some u → w.cell? ((⟨g,0,none⟩ : Addr).add j) = some u := hown.cells (g := g) rfl
    obtain ⟨v',w',r1,r2,r3⟩ := run_append_arg_grows (P := P) w t ty e i z i.size i.bytes ht hi hz rfl rfl hzs hsz ⟨g,0,none⟩ n cap xs hown.1 holds ad m c news hl hc (by omega) (by simp only [maxLen]; omega) hb2
    refine ⟨v',w',e,r1,⟨r2.1,?_⟩,⟨r3.os,r3.tape,r3.output,r3.size,fun k hk _ => r3.block k hk (by simp)⟩,fun b hb => .inr ?_⟩
    ·rcases r2.2 with h | ⟨g',cap',cur',h1,_,h3⟩
     ·exact .inl h
     ·exact .inr ⟨g',cap',cur',h1,Nat.zero_le _,h3⟩
    ·rcases r2.2 with ⟨h,_⟩ | ⟨g',cap',cur',h1,h2,_⟩
     ·rw [h] at hb
      simp [Value.ownBlock] at hb
     ·rw [h1] at hb
      simp [Value.ownBlock] at hb
      omega
  rcases hA with hn | ⟨b,off,hA,hc⟩
  ·subst hn
   have hm : m = 0 := by
    simp only [List.length_nil] at hl
    rcases Nat.mul_eq_zero.1 hl.symm with h | h
    ·exact h
    ·omega
   subst hm
   cases A with
   | some ad => exact some_case ad rfl (fun j x hx => by simp at hx)
   | none =>
    refine ⟨_,w,e',run_append_nothing w t t ty e i ht hi (some ⟨g,0,none⟩) n cap hnc _ ⟨.inl ⟨e,ht⟩,fun w' => rfl,rfl,rfl,by simp,by simp⟩,by simpa using hown,⟨rfl,rfl,rfl,Nat.le_refl _,fun _ _ _ => rfl⟩,fun b hb => .inl hb⟩
  ·exact some_case _ hA fun j x hx => by
    have hadd : (⟨b,off,none⟩ : Addr).add j = ⟨b,off + j,none⟩ := by unfold Addr.add; split <;> simp_all
    rw [hadd]
    exact hc j x hx
theorem own_nil {e : TypeId} {p : Pay} (h : p.len = 0) : OwnAt w e p (.slice none 0 0) [] [] := by
 unfold OwnAt
 split
 ·rename_i hs
  have hv : p.vals = [] := List.eq_nil_of_length_eq_zero (by rw [vals_length hs,h,Nat.zero_mul])
  rw [hv,h]
  exact ⟨rfl,World.ownsRow_nil _ _ _ _,rfl⟩
 ·rename_i ps hs
  have hl := (subs_get hs).1
  rw [h] at hl ⊢
  exact ⟨World.ownsRow_nil _ _ _ _,by simp [hl],[],by simp [hl],fun k q u g _ hu _ => by simp at hu,rfl⟩
theorem rows_src {e : TypeId} {u : Value} {n : Nat} {xs : List Value} (h : w.ownsRow 0 e 1 u n xs) :
  ∃ A c,u = .slice A n c ∧ (xs = [] ∨ ∃ b off,A = some ⟨b,off,none⟩ ∧ ∀ (j : Nat) (x : Value),xs[j]? = some x → w.cell? ⟨b,off + j,none⟩ = some x) := by
 obtain ⟨A,c,h1,h2,h3⟩ := own_slice h
 refine ⟨A,c,h1,?_⟩
 cases hv : xs with
 | nil => exact .inl rfl
 | cons x r =>
  have hl : 0 < n := by
   have := h.1
   rw [hv] at this
   simp at this
   omega
  obtain ⟨b,hb⟩ := h3 hl
  subst hb
  refine .inr ⟨b,0,rfl,fun j x hx => ?_⟩
  have := h.cells (g := b) (by rw [h1]; rfl) j x (by rw [hv]; exact hx)
  have hadd : (⟨b,0,none⟩ : Addr).add j = ⟨b,0 + j,none⟩ := by unfold Addr.add; split <;> simp_all
  rw [hadd] at this
  exact this
theorem own_appended {t ty e : TypeId} {p0 p q p' : Pay} {v u : Value} {inn : List Value} {f f2 : List Nat} (hs : shB P t (.slice e p0) = true) (hp0 : p0.size = p.size) (happ : p.app q = some p') (hroom : p.len + q.len ≤ room)
  (hown : OwnAt w e p v inn f) (hn : f.Nodup) (hlt : ∀ b ∈ f,b < w.heap.size)
  (hsrc : (q.isDeep = false ∧ SrcAt w q u) ∨ (q.isDeep = true ∧ ∃ e2 inn2,OwnAt w e2 q u inn2 f2)) (hn2 : f2.Nodup) (hlt2 : ∀ b ∈ f2,b < w.heap.size) (hdj : ∀ b,b ∈ f → b ∈ f2 → False) :
  ∃ v' w' inn' f',(Builtin.append_ #[t,t] ty #[v,u]).run P w = .ok v' w' ∧ Kept w (fun b => b ∈ f) w' ∧ OwnAt w' e p' v' inn' f' ∧ f'.Nodup ∧ (∀ b ∈ f',b < w'.heap.size ∧ (w.heap.size ≤ b ∨ b ∈ f ∨ b ∈ f2)) ∧ v'.oneCell' = true := by
 obtain ⟨hu,h0,i,z,hi,hz,hisz,hib,hzsz,_,_⟩ := sh_elem hs
 rw [hp0] at hisz hzsz
 obtain ⟨a1,a2,a3,a4,a5,a6,a7,a8⟩ := app_flat happ
 have hpos : 0 < p.size := by cases p <;> simp [Pay.size]
 rcases hsrc with ⟨hqd,hsrc⟩ | ⟨hqd,e2,inn2,hown2⟩
 ·have hps := subs_flat.1 (a5 ▸ hqd : p.isDeep = false)
  have hqs := subs_flat.1 hqd
  have hps' := subs_flat.1 (a6.trans (a5 ▸ hqd) : p'.isDeep = false)
  unfold OwnAt at hown
  rw [hps] at hown
  obtain ⟨hinn,hrow,hf⟩ := hown
  obtain ⟨v',w',r1,r2,r3,r4⟩ := run_app (P := P) (ty := ty) hu hi hz hisz hib hzsz hpos hrow hroom (by rw [vals_length hqs,a4]) (vals_one hqs) hsrc
  have hkept : Kept w (fun b => b ∈ f) w' := ⟨r3.os,r3.tape,r3.output,r3.size,fun k hk hnf => r3.block k hk fun e => hnf (by rw [hf,← e]; simp),run_drawn _ _ _ _ r1⟩
  refine ⟨v',w',[],v'.ownBlock.toList,r1,hkept,?_,ownBlock_nodup _,fun b hb => ?_,ownsRow_one r2⟩
  ·unfold OwnAt
   rw [hps',a1,a2,a7]
   exact ⟨rfl,r2,rfl⟩
  ·have hb' : v'.ownBlock = some b := by simpa using hb
   refine ⟨ownBlock_lt r2 hb',?_⟩
   rcases r4 with h | h
   ·exact .inr (.inl (by rw [hf,← h]; exact hb))
   ·rw [h] at hb'; cases hb'; exact .inl (Nat.le_refl _)
 ·have hpd : p.isDeep = true := a5 ▸ hqd
  have hpd' : p'.isDeep = true := a6.trans hpd
  obtain ⟨ps,hps⟩ := subs_deep.1 hpd
  obtain ⟨qs,hqs⟩ := subs_deep.1 hqd
  have hps' := a8 ps qs hps hqs
  rw [deep_size hpd] at hisz hzsz
  unfold OwnAt at hown hown2
  rw [hps] at hown
  rw [hqs] at hown2
  obtain ⟨hrow,hil,fps,hfl,hrows,hf⟩ := hown
  obtain ⟨hrow2,hil2,fps2,hfl2,hrows2,hf2⟩ := hown2
  have one2 : ∀ u ∈ inn2,u.oneCell' = true := fun u hu => by
   obtain ⟨k,hk⟩ := List.getElem?_of_mem hu
   have hk' : k < inn2.length := (List.getElem?_eq_some_iff.1 hk).1
   obtain ⟨⟨e',h6⟩,_⟩ := hrows2 k _ u _ (List.getElem?_eq_getElem (by omega)) hk (List.getElem?_eq_getElem (by omega))
   exact ownsRow_one h6
  obtain ⟨v',w',r1,r2,r3,r4⟩ := run_app (P := P) (ty := ty) (m := q.len) hu hi hz hisz hib hzsz (by omega) hrow hroom (by rw [hil2,(subs_get hqs).1,Nat.mul_one]) one2 (rows_src hrow2)
  have hkept : Kept w (fun b => b ∈ f) w' := ⟨r3.os,r3.tape,r3.output,r3.size,fun k hk hnf => r3.block k hk fun e => hnf (by rw [hf,← e]; simp),run_drawn _ _ _ _ r1⟩
  rw [hf] at hn hdj hlt
  rw [hf2] at hn2 hdj hlt2
  obtain ⟨n1,n2,n3⟩ := List.nodup_append.1 hn
  obtain ⟨m1,m2,m3⟩ := List.nodup_append.1 hn2
  have hdj' : ∀ b,b ∈ fps.flatten → b ∈ fps2.flatten → False := fun b h1 h2 => hdj b (List.mem_append_right _ h1) (List.mem_append_right _ h2)
  refine ⟨v',w',inn ++ inn2,v'.ownBlock.toList ++ (fps ++ fps2).flatten,r1,hkept,?_,?_,fun b hb => ?_,ownsRow_one r2⟩
  ·unfold OwnAt
   rw [hps',a1]
   refine ⟨r2,by simp [hil,hil2],fps ++ fps2,by simp [hfl,hfl2],fun k q' u' g hq' hu' hg' => ?_,rfl⟩
   by_cases hk : k < ps.length
   ·rw [List.getElem?_append_left (by omega)] at hq' hu' hg'
    obtain ⟨⟨e',h6⟩,h7⟩ := hrows k q' u' g hq' hu' hg'
    refine ⟨⟨e',ownsRow_heap h6 fun b hb => ?_⟩,h7⟩
    have hbm : b ∈ fps.flatten := List.mem_flatten.2 ⟨g,List.mem_of_getElem? hg',by rw [h7,hb]; simp⟩
    exact r3.block b (hlt b (List.mem_append_right _ hbm)) fun e => n3 b (by rw [← e]; simp) b hbm rfl
   ·rw [List.getElem?_append_right (by omega)] at hq' hu' hg'
    rw [hil] at hu'
    rw [hfl] at hg'
    obtain ⟨⟨e',h6⟩,h7⟩ := hrows2 _ q' u' g hq' hu' hg'
    refine ⟨⟨e',ownsRow_heap h6 fun b hb => ?_⟩,h7⟩
    have hbm : b ∈ fps2.flatten := List.mem_flatten.2 ⟨g,List.mem_of_getElem? hg',by rw [h7,hb]; simp⟩
    exact r3.block b (hlt2 b (List.mem_append_right _ hbm)) fun e => hdj b (List.mem_append_left _ (by rw [← e]; simp)) (List.mem_append_right _ hbm)
  ·rw [List.flatten_append]
   refine List.nodup_append.2 ⟨ownBlock_nodup _,List.nodup_append.2 ⟨n2,m2,fun x hx y hy e => hdj' x hx (e ▸ hy)⟩,fun x hx y hy e => ?_⟩
   subst e
   have hx' : v'.ownBlock = some x := by simpa using hx
   rcases r4 with h | h
   ·have hxv : x ∈ v.ownBlock.toList := by rw [← h]; exact hx
    rcases List.mem_append.1 hy with hy | hy
    ·exact n3 x hxv x hy rfl
    ·exact hdj x (List.mem_append_left _ hxv) (List.mem_append_right _ hy)
   ·rw [h] at hx'
    cases hx'
    rcases List.mem_append.1 hy with hy | hy
    ·have := hlt _ (List.mem_append_right _ hy); omega
    ·have := hlt2 _ (List.mem_append_right _ hy); omega
  ·rcases List.mem_append.1 hb with hb | hb
   ·have hb' : v'.ownBlock = some b := by simpa using hb
    refine ⟨ownBlock_lt r2 hb',?_⟩
    rcases r4 with h | h
    ·exact .inr (.inl (by rw [hf,← h]; exact List.mem_append_left _ hb))
    ·rw [h] at hb'; cases hb'; exact .inl (Nat.le_refl _)
   ·rw [List.flatten_append] at hb
    rcases List.mem_append.1 hb with hb | hb
    ·refine ⟨Nat.lt_of_lt_of_le (hlt b (List.mem_append_right _ hb)) r3.size,.inr (.inl (by rw [hf]; exact List.mem_append_right _ hb))⟩
    ·refine ⟨Nat.lt_of_lt_of_le (hlt2 b (List.mem_append_right _ hb)) r3.size,.inr (.inr (by rw [hf2]; exact List.mem_append_right _ hb))⟩
theorem brings_src {v : AV} {u : Value} {q : Pay} {used : Option Nat} (h : Owns w σ.ob L fp) (hb : brings σ.ob v = some (q,used)) (hv : RelV (view w (Owned σ.ob fp)) L v u) :
  (q.isDeep = false ∧ used = none ∧ SrcAt w q u) ∨ (q.isDeep = true ∧ ∃ o2 e2 inn2 rv2 ver2,used = some o2 ∧ getO σ.ob o2 = some (.arr e2 ver2 rv2 q) ∧ OwnAt w e2 q u inn2 (fp o2)) := by
 unfold brings at hb
 split at hb
 ·rename_i p hp
  split at hb
  ·rename_i hd
   cases hb
   exact .inl ⟨hd,rfl,src_of h hp hd hv⟩
  ·rename_i o2 ver hd
   cases hb
   obtain ⟨e,rv,hg⟩ := payOf_sl hp
   simp only [RelV] at hv
   obtain ⟨hdr,inn,_,h1,h2⟩ := arr_get h hg hv
   subst h1
   exact .inr ⟨hd,o2,e,inn,rv,ver,rfl,hg,h2⟩
  ·cases hb
 ·cases hb
theorem szOk_shape {t : Nat} {e : TypeId} {p0 p : Pay} (hs : getT T t = some (.slice e p0)) (h : szOk T t p = true) : p0.size = p.size := by
 unfold szOk at h
 rw [hs] at h
 exact Nat.eq_of_beq_eq_true h
theorem op_append {c : Call} (hT : TOk P T) (h : StW w0 F0 L0 nt σ a w L fp) (hL0 : ∀ o l,L0 o = some l → 2000 ≤ o) (hd : okDst nt o.dst = true) (ho : o.op = .call c) (hcb : c.callee = .builtin .append)
  (he : evalOp T σ o = .ok cs av obs) (hfree : freeAll σ (madeOf σ.ob obs) = true) (hcs : AllP cs) :
  Ran P o a w (St w0 F0 L0 nt ⟨put σ.sl o.dst av,updO σ.ob obs⟩) := by
 obtain ⟨callee,args,argTypes⟩ := c
 simp only at hcb
 subst hcb
 simp only [evalOp,ho] at he
 obtain ⟨args⟩ := args
 obtain ⟨argTypes⟩ := argTypes
 split at he
 case h_2 => cases he
 rename_i _ _ _ x y t t' d hxs hts hdst
 simp only at hxs hts
 subst hxs hts
 split at he
 case h_2 => cases he
 rename_i _ e p0 hs
 split at he
 case isFalse => cases he
 rename_i htt
 subst htt
 have hx := opv_rel_none h x
 have hy := opv_rel_none h y
 have exec : ∀ {v' w'},(Builtin.append_ #[t,t] o.type #[a.eval x,a.eval y]).run P w = .ok v' w' → (execOp a.eval o).run P w = .ok (.value v') w' := by
  intro v' w' hr
  simp [execOp,ho,resolve,invoke,builtin,hr]
 split at he
 ·-- onto nil
  rename_i p q used hox hbr
  rw [hox] at hx
  simp only [RelV] at hx
  split at he
  case h_2 => cases he
  rename_i p' happ hszk hgn
  cases he
  obtain ⟨hf1,hf2⟩ := free_made hgn hfree
  simp only [AllP,and_true] at hcs
  have hcs' : p.len + q.len ≤ room := by rw [hx.2]; omega
  have hp0 := szOk_shape hs hszk
  have hb := brings_src h.owns hbr hy
  have main : ∃ v' w' inn' f',(Builtin.append_ #[t,t] o.type #[a.eval x,a.eval y]).run P w = .ok v' w' ∧ Kept w (fun _ => False) w' ∧ OwnAt w' e p' v' inn' f' ∧ f'.Nodup ∧
    (∀ b ∈ f',b < w'.heap.size ∧ (w.heap.size ≤ b ∨ ∃ u,used = some u ∧ (getO σ.ob u).isSome = true ∧ b ∈ fp u)) ∧ v'.oneCell' = true ∧ used ≠ some d := by
   rw [hx.1]
   rcases hb with ⟨hqd,hus,hsrc⟩ | ⟨hqd,o2,e2,inn2,rv2,ver2,hus,hg2,hown2⟩
   ·obtain ⟨v',w',inn',f',r1,r2,r3,r4,r5,r6⟩ := own_appended (ty := o.type) (f2 := []) (hT t _ hs) hp0 happ hcs' (own_nil hx.2) (by simp) (by simp) (.inl ⟨hqd,hsrc⟩) (by simp) (by simp) (by simp)
    exact ⟨v',w',inn',f',r1,⟨r2.os,r2.tape,r2.output,r2.size,fun b hb _ => r2.block b hb (by simp),r2.drawn⟩,r3,r4,fun b hb => ⟨(r5 b hb).1,by have := (r5 b hb).2; simp at this; exact .inl this⟩,r6,by rw [hus]; simp⟩
   ·obtain ⟨v',w',inn',f',r1,r2,r3,r4,r5,r6⟩ := own_appended (ty := o.type) (f2 := fp o2) (hT t _ hs) hp0 happ hcs' (own_nil hx.2) (by simp) (by simp) (.inr ⟨hqd,e2,inn2,hown2⟩) (h.owns.nodup o2 (by rw [hg2]; rfl)) (fun b hb => h.owns.lt o2 b (by rw [hg2]; rfl) hb) (by simp)
    refine ⟨v',w',inn',f',r1,⟨r2.os,r2.tape,r2.output,r2.size,fun b hb _ => r2.block b hb (by simp),r2.drawn⟩,r3,r4,fun b hb => ⟨(r5 b hb).1,?_⟩,r6,fun e => ?_⟩
    ·have := (r5 b hb).2
     simp at this
     exact this.imp id fun hm => ⟨o2,hus,by rw [hg2]; rfl,hm⟩
    ·rw [hus] at e
     cases e
     rw [hg2] at hgn
     cases hgn
  obtain ⟨v',w',inn',f',r1,r2,r3,r4,r5,r6,r7⟩ := main
  refine .inl ⟨v',w',exec r1,updN L d (some (.arr 0 0 p'.size p'.sizei v' inn')),updN fp d f',?_⟩
  rw [hdst]
  refine h.new (x := .arr e 0 0 p') (l := .arr 0 0 p'.size p'.sizei v' inn') hL0 (used := used) hf1 hf2 r7 r2 r5 r4 (fun ob' fp' hR hLle => ⟨v',inn',rfl,r3⟩) (hdst ▸ hd) (fun ob' fp' hR => ?_)
  simp only [RelV]
  exact ⟨r6,_,_,_,_,_,_,updN_same _ _ _,Nat.le_refl _,fun _ => rfl⟩
 ·-- onto an own slice
  rename_i o1 ver q used hox hbr
  rw [hox] at hx
  simp only [RelV] at hx
  split at he
  case h_2 => cases he
  rename_i e1 v1 rv p hg
  split at he
  case h_2 => cases he
  rename_i p' happ hszk
  split at he
  case isFalse => cases he
  rename_i hver
  subst hver
  split at he
  case isFalse => cases he
  rename_i hee
  subst hee
  split at he
  ·cases he
  rename_i hused
  cases he
  obtain ⟨hdr,inn,hL,hK,hown⟩ := arr_get h.owns hg hx
  simp only [AllP,and_true] at hcs
  have hp0 := szOk_shape hs hszk
  have hb := brings_src h.owns hbr hy
  have main : ∃ v' w' inn' f',(Builtin.append_ #[t,t] o.type #[a.eval x,a.eval y]).run P w = .ok v' w' ∧ Kept w (fun b => b ∈ fp o1) w' ∧ OwnAt w' e1 p' v' inn' f' ∧ f'.Nodup ∧
    (∀ b ∈ f',b < w'.heap.size ∧ (w.heap.size ≤ b ∨ b ∈ fp o1 ∨ ∃ u,used = some u ∧ (getO σ.ob u).isSome = true ∧ b ∈ fp u)) ∧ v'.oneCell' = true := by
   rw [hK]
   have hlt1 := fun b hb => h.owns.lt o1 b (by rw [hg]; rfl) hb
   have hn1 := h.owns.nodup o1 (by rw [hg]; rfl)
   rcases hb with ⟨hqd,hus,hsrc⟩ | ⟨hqd,o2,e2,inn2,rv2,ver2,hus,hg2,hown2⟩
   ·obtain ⟨v',w',inn',f',r1,r2,r3,r4,r5,r6⟩ := own_appended (ty := o.type) (f2 := []) (hT t _ hs) hp0 happ hcs hown hn1 hlt1 (.inl ⟨hqd,hsrc⟩) (by simp) (by simp) (by simp)
    refine ⟨v',w',inn',f',r1,r2,r3,r4,fun b hb => ⟨(r5 b hb).1,?_⟩,r6⟩
    have := (r5 b hb).2
    simp at this
    exact this.imp id .inl
   ·have hne : o2 ≠ o1 := fun e => hused (by rw [hus,e])
    obtain ⟨v',w',inn',f',r1,r2,r3,r4,r5,r6⟩ := own_appended (ty := o.type) (f2 := fp o2) (hT t _ hs) hp0 happ hcs hown hn1 hlt1 (.inr ⟨hqd,e2,inn2,hown2⟩) (h.owns.nodup o2 (by rw [hg2]; rfl)) (fun b hb => h.owns.lt o2 b (by rw [hg2]; rfl) hb)
     (fun b hb hb' => h.owns.disj o2 o1 b (by rw [hg2]; rfl) (by rw [hg]; rfl) hne hb' hb)
    refine ⟨v',w',inn',f',r1,r2,r3,r4,fun b hb => ⟨(r5 b hb).1,?_⟩,r6⟩
    exact (r5 b hb).2.imp id fun h => h.imp id fun hm => ⟨o2,hus,by rw [hg2]; rfl,hm⟩
  obtain ⟨v',w',inn',f',r1,r2,r3,r4,r5,r6⟩ := main
  refine .inl ⟨v',w',exec r1,updN L o1 (some (.arr (v1 + 1) 0 p'.size p'.sizei v' inn')),updN fp o1 f',?_⟩
  refine h.upd (x := .arr e1 (v1 + 1) 0 p') (l := .arr (v1 + 1) 0 p'.size p'.sizei v' inn') (used := used) hg hL ⟨by omega,fun e => by omega⟩ hused r2 r5 r4 (fun ob' fp' hR hLle => ⟨v',inn',rfl,r3⟩) hd (fun ob' fp' hR => ?_)
  simp only [RelV]
  exact ⟨r6,_,_,_,_,_,_,updN_same _ _ _,Nat.le_refl _,fun _ => rfl⟩
 ·-- onto a row of an own slice of slices
  rename_i ob ver rv k q hox hbr
  rw [hox] at hx
  split at he
  case h_2 => cases he
  rename_i eo v0 r0 p q0 hg hpay
  split at he
  case h_2 => cases he
  rename_i q1 happ hszk
  split at he
  case h_2 => cases he
  rename_i p' hrow1
  split at he
  case h_2 => cases he
  rename_i hne0
  have hne0 := Nat.ne_of_beq_eq_false hne0
  cases he
  simp only [AllP,and_true] at hcs
  obtain ⟨eo',pp,hg',hdeep,hq0⟩ := payOf_sub hpay
  rw [hg] at hg'
  cases hg'
  simp only [RelV] at hx
  obtain ⟨hdr,inn,hL,hKs,hown⟩ := arr_get h.owns hg hx
  obtain ⟨s1,s2,s3,s4,s5,s6,s7,ps',s8,s9⟩ := setRow_some hrow1
  unfold OwnAt at hown
  rw [s8] at hown
  obtain ⟨hrow,hil,fps,hfl,hrows,hfp⟩ := hown
  have hpl := (subs_get s8).1
  have hu : inn[k]? = some (a.eval x) := hKs.2 rfl
  have hk1 : k < inn.length := (List.getElem?_eq_some_iff.1 hu).1
  have helt : k < fps.length := by omega
  obtain ⟨⟨e',hr0⟩,hr1⟩ := hrows k _ _ _ ((subs_get s8).2 k (by omega)) hu (List.getElem?_eq_getElem helt)
  rw [← hq0] at hr0
  obtain ⟨hqd,hsrc⟩ : q.isDeep = false ∧ SrcAt w q (a.eval y) := by
   rcases brings_src h.owns hbr hy with ⟨h1,_,h3⟩ | ⟨_,o2',_,_,_,_,h2,_⟩
   ·exact ⟨h1,h3⟩
   ·cases h2
  have hqs := subs_flat.1 hqd
  obtain ⟨g1,g2,g3,g4,g5,g6,g7,_⟩ := app_flat happ
  have hp0 := szOk_shape hs hszk
  obtain ⟨ht,_,i,z,hi,hz,hisz,hib,hzsz,_,_⟩ := sh_elem (hT t _ hs)
  have hpos : 0 < q0.size := by cases q0 <;> simp [Pay.size]
  obtain ⟨v',w1,e2,r1,r2,r3,r4⟩ := run_app_any (P := P) (w := w) (t := t) (ty := o.type) ht hi hz (hisz.trans hp0) hib (hzsz.trans hp0) hpos hr0 hcs (by rw [vals_length hqs,g4]) (vals_one hqs) hsrc
  have hone := ownsRow_one r2
  have hdr1 := run_drawn _ _ _ _ r1
  have hnd := h.owns.nodup ob (by rw [hg]; rfl)
  have hlt := fun k hk => h.owns.lt ob k (by rw [hg]; rfl) hk
  rw [hfp] at hnd hlt
  obtain ⟨n1,n2,n3⟩ := List.nodup_append.1 hnd
  obtain ⟨n4,n5⟩ := List.pairwise_flatten.1 n2
  have hge : fps[k]? = some (a.eval x).ownBlock.toList := by rw [List.getElem?_eq_getElem helt,hr1]
  have ini : ∀ k (hk : k < fps.length) z,z ∈ fps[k] → z ∈ fps.flatten := fun k hk z hz => List.mem_flatten.2 ⟨_,List.getElem_mem hk,hz⟩
  have hmem : ∀ b,b ∈ (fps.set k v'.ownBlock.toList).flatten → b ∈ fps.flatten ∨ v'.ownBlock = some b := by
   intro b hk
   obtain ⟨g,hg',hk'⟩ := List.mem_flatten.1 hk
   rcases List.mem_or_eq_of_mem_set hg' with h1 | h1
   ·exact .inl (List.mem_flatten.2 ⟨g,h1,hk'⟩)
   ·subst h1; exact .inr (by simpa using hk')
  have hv'in : ∀ b,v'.ownBlock = some b → b ∈ fps[k] ∨ w.heap.size ≤ b := fun b hk => by
   rcases r4 b hk with e2 | e2
   ·exact .inl (by rw [hr1,e2]; simp)
   ·exact .inr e2
  refine .inl ⟨v',w1,exec r1,updN L ob (some (.arr ver (rv + 1) p.size p.sizei hdr (inn.set k v'))),updN fp ob (hdr.ownBlock.toList ++ (fps.set k v'.ownBlock.toList).flatten),?_⟩
  refine h.upd (x := .hol eo ver (rv + 1) p' k) (l := .arr ver (rv + 1) p.size p.sizei hdr (inn.set k v')) (used := none) hg hL ⟨Nat.le_refl _,fun _ => ⟨rfl,rfl,rfl,by omega,fun e => by omega⟩⟩ (by simp) ?_ (fun b' hb' => ⟨?_,?_⟩) ?_ (fun ob' fp' hR hLle => ?_) hd (fun ob' fp' hR => ?_)
  ·refine ⟨r3.os,r3.tape,r3.output,r3.size,fun b hb hn => r3.block b hb fun e1 => hn ?_,hdr1⟩
   rw [hfp]
   exact List.mem_append_right _ (ini k helt b (by rw [hr1,← e1]; simp))
  ·rcases List.mem_append.1 hb' with h1 | h1
   ·exact Nat.lt_of_lt_of_le (hlt b' (List.mem_append_left _ h1)) r3.size
   ·rcases hmem _ h1 with h2 | h2
    ·exact Nat.lt_of_lt_of_le (hlt b' (List.mem_append_right _ h2)) r3.size
    ·exact ownBlock_lt r2 h2
  ·rcases List.mem_append.1 hb' with h1 | h1
   ·exact .inr (.inl (by rw [hfp]; exact List.mem_append_left _ h1))
   ·rcases hmem _ h1 with h2 | h2
    ·exact .inr (.inl (by rw [hfp]; exact List.mem_append_right _ h2))
    ·rcases hv'in b' h2 with h3 | h3
     ·exact .inr (.inl (by rw [hfp]; exact List.mem_append_right _ (ini k helt b' h3)))
     ·exact .inl h3
  ·refine List.nodup_append.2 ⟨n1,List.pairwise_flatten.2 ⟨fun l hl => ?_,?_⟩,fun b hb b' hb' => ?_⟩
   ·rcases List.mem_or_eq_of_mem_set hl with h1 | h1
    ·exact n4 l h1
    ·subst h1; exact ownBlock_nodup _
   ·rw [List.pairwise_iff_getElem] at n5 ⊢
    intro i j hi hj hij x hxm y hym
    simp only [List.length_set] at hi hj
    rw [List.getElem_set] at hxm hym
    split at hxm <;> split at hym
    ·omega
    ·rename_i e1 e2
     subst e1
     rcases hv'in x (by simpa using hxm) with h3 | h3
     ·exact n5 k j hi hj hij x h3 y hym
     ·have := hlt y (List.mem_append_right _ (ini j hj y hym))
      omega
    ·rename_i e1 e2
     subst e2
     rcases hv'in y (by simpa using hym) with h3 | h3
     ·exact n5 i k hi hj hij x hxm y h3
     ·have := hlt x (List.mem_append_right _ (ini i hi x hxm))
      omega
    ·exact n5 i j hi hj hij x hxm y hym
   ·rcases hmem _ hb' with h2 | h2
    ·exact n3 b hb b' h2
    ·rcases hv'in b' h2 with h3 | h3
     ·exact n3 b hb b' (ini k helt b' h3)
     ·have := hlt b (List.mem_append_left _ hb)
      omega
  ·refine ⟨hdr,inn.set k v',by rw [s5,s6],.inl ⟨hne0,ps'.set k q1,a.eval x,s9,by simpa using hk1,?_,by simp [hil],fps.set k v'.ownBlock.toList,by simp [hfl],fun j q' u g hq' hu' hg' => ?_,rfl⟩⟩
   ·rw [List.set_set,s4]
    have e1 : inn.set k (a.eval x) = inn := by
     apply List.ext_getElem?
     intro m
     by_cases hm : k = m
     ·subst hm
      rw [List.getElem?_set_self hk1,hu]
     ·rw [List.getElem?_set_ne hm]
    rw [e1]
    refine ownsRow_heap hrow fun b hb => r3.block b (hlt b (List.mem_append_left _ (by rw [hb]; simp))) fun e1 => ?_
    have m1 : b ∈ (a.eval x).ownBlock.toList := by rw [← e1]; simp
    have m2 : b ∈ hdr.ownBlock.toList := by rw [hb]; simp
    exact rows_head hnd hge m1 m2
   ·by_cases hke : k = j
    ·subst hke
     rw [List.getElem?_set_self (by omega)] at hq' hu' hg'
     cases hq'
     cases hu'
     cases hg'
     rw [g1,g2,g7]
     exact ⟨⟨e2,r2⟩,rfl⟩
    ·rw [List.getElem?_set_ne hke] at hq' hu' hg'
     obtain ⟨⟨e',h6⟩,h7⟩ := hrows j q' u g hq' hu' hg'
     have hkl := (List.getElem?_eq_some_iff.1 hg').1
     refine ⟨⟨e',ownsRow_heap h6 fun k' hk => ?_⟩,h7⟩
     have hkm : k' ∈ fps[j] := by
      rw [(List.getElem?_eq_some_iff.1 hg').2,h7,hk]
      simp
     refine r3.block k' (hlt k' (List.mem_append_right _ (ini j hkl k' hkm))) fun e1 => ?_
     have hke' : k' ∈ fps[k] := by rw [hr1,← e1]; simp
     rw [List.pairwise_iff_getElem] at n5
     rcases Nat.lt_or_gt_of_ne hke with hlt' | hlt'
     ·exact n5 k j helt hkl hlt' k' hke' k' hkm rfl
     ·exact n5 j k hkl helt hlt' k' hkm k' hke' rfl
  ·simp only [RelV]
   exact ⟨hone,_,_,_,_,_,_,updN_same _ _ _,Nat.le_refl _,fun _ => ⟨Nat.le_refl _,fun _ => List.getElem?_set_self hk1⟩⟩
 ·cases he
end
end Go.AM
namespace Go.AM
section
variable {P : Program} {T : TEnv} {w0 : World} {F0 : Nat → Prop} {L0 : Locs} {nt : Nat} {σ : ASt} {a : Act} {w : World} {L : Locs} {fp : Nat → List Nat}
variable {o : Oper} {cs : List Prop} {av : AV} {obs : List (Nat × Option AObj)}
theorem evalOp_ok (hT : TOk P T) (h : StW w0 F0 L0 nt σ a w L fp) (hL0 : ∀ o l,L0 o = some l → 2000 ≤ o) (hd : okDst nt o.dst = true)
  (he : evalOp T σ o = .ok cs av obs) (hfree : freeAll σ (madeOf σ.ob obs) = true) (hcs : AllP cs) :
  Ran P o a w (St w0 F0 L0 nt ⟨put σ.sl o.dst av,updO σ.ob obs⟩) := by
 have flat : (obs = [] ∧ Ran P o a w (St w0 F0 L0 nt ⟨put σ.sl o.dst av,σ.ob⟩)) → Ran P o a w (St w0 F0 L0 nt ⟨put σ.sl o.dst av,updO σ.ob obs⟩) := by
  rintro ⟨rfl,h⟩
  exact h
 cases ho : o.op with
 | move x => exact flat (op_move hT h hd (.inl ho) he)
 | assign x => exact flat (op_move hT h hd (.inr ho) he)
 | pick c x y => exact flat (op_pick h hd ho he)
 | alloc t => exact op_alloc hT h hL0 hd ho he hfree
 | box t x => exact op_box h hL0 hd ho he hfree
 | build t parts => exact flat (op_build hT h hd ho he)
 | buildSlice t n parts => exact op_buildSlice hT h hL0 hd ho he hfree hcs
 | load t x => exact flat (op_load hT h hd ho he)
 | store t x v => exact op_store hT h hd ho he hcs
 | nilCheck x => exact flat (op_nilCheck h hd ho he)
 | binOp op t x y u => exact flat (op_binOp hT h hd ho he hcs)
 | unOp op t x => exact flat (op_unOp h hd ho he)
 | convert s t x => exact flat (op_convert hT h hd ho he)
 | makeFunc fn x y =>
  cases fn with
  | func f => exact flat (op_makeFunc h hd ho he)
  | _ => simp [evalOp,ho] at he
 | makeSlice t x y => exact op_makeSlice hT h hL0 hd ho he hfree hcs
 | slice t x lo hi mx =>
  cases mx with
  | none => exact flat (op_slice hT h hd ho he hcs)
  | some m => simp [evalOp,ho] at he
 | fieldAddr t x f => exact flat (op_fieldAddr hT h hd ho he)
 | field t x f => exact flat (op_field hT h hd ho he)
 | indexAddr t x i => exact flat (op_indexAddr hT h hd ho he hcs)
 | index t x i => exact flat (op_index hT h hd ho he hcs)
 | extract x i => exact flat (op_extract h hd ho he)
 | call c =>
  cases hc : c.callee with
  | builtin b =>
   cases b with
   | len => exact flat (op_len hT h hd ho hc he)
   | max => exact flat (op_max h hd ho hc he)
   | append => exact op_append hT h hL0 hd ho hc he hfree hcs
   | _ => simp [evalOp,ho,hc] at he
  | _ => simp [evalOp,ho,hc] at he
 | _ => simp [evalOp,ho] at he
end
end Go.AM
