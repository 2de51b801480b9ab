/- V: an executable, value-level reading of the model's code: definitions alone.
 Slices that are only read are lists;slices that a call owns,and boxed variables,are rows with numbers. -/
import Derived.Orders
import Derived.Below
import Derived.KernelRfl
import GoSem.ClaimJoined
namespace Go.V
inductive Ty where
 | bool | int (k:IntKind) | str | slice (e:Ty) | pair (a b:Ty) | unit | opq
 deriving DecidableEq,Inhabited
@[reducible] def Ty.d:Ty→Type
 | .bool=>Bool | .int _=>Int | .str=>ByteArray | .slice e=>List e.d
 | .pair a b=>a.d × b.d | .unit=>Unit | .opq=>Unit
def Ty.size:Ty→Nat
 | .pair a b=>a.size+b.size | .unit=>0 | _=>1
def Ty.rows:Ty→Nat
 | .pair a b=>a.rows+b.rows | .slice _=>1 | _=>0
def Ty.agg:Ty→Bool
 | .pair _ _ | .unit=>true | _=>false
def Ty.z:(t:Ty)→t.d
 | .bool=>false | .int _=>(0:Int) | .str=>ByteArray.empty | .slice _=>[]
 | .pair a b=>(a.z,b.z) | .unit=>() | .opq=>()
def tup:List Ty→Ty
 | [] => .unit
 | t::ts => .pair t (tup ts)
inductive AV where
 | junk
 | bool (b:Bool) | int (k:IntKind) (n:Int) | str (s:ByteArray)
 | nil (e:Ty)
 | sl (p:Bool) (e:Ty) (l:List e.d)
 | ref (r:Nat)
 | ptr (r i off:Nat)
 | sptr (p:Bool) (e:Ty) (l:List e.d) (i off:Nat)
 | agg (cs:List AV)
 | tup (vs:List AV)
 | fn (f:Nat) (caps:List AV)
inductive qa where
 | dead
 | box (cs:List AV)
 | own (p:Bool) (e:Ty) (l:List e.d)
 | fro (p:Bool) (e:Ty) (l:List e.d)
abbrev Hp:=Nat→qa
def pS:Hp:=fun _ => .dead
def kV (hp:Hp) (r:Nat) (x:qa):Hp:=fun n=>bif Nat.beq n r then x else hp n
abbrev ji:=List (Nat × qa)
def apply (hp:Hp):ji→Hp
 | []=>hp
 | u::us=>apply (kV hp u.1 u.2) us
structure St where
 tm:List AV
 hp:Hp
 nx:Nat          -- the next row's number
inductive Ex where
 | normal | ret | exit (id:Nat)
structure mH where
 ty:List (Nat × Ty)
 off:List (Nat × List (Nat × Nat))      -- a struct type's fields: where they begin,how many cells they have
 eqs:List (Nat × List Ty):=[]         -- struct types whose values may be compared cell by cell: their cells' types
 fty:List (Nat × List Nat):=[]        -- a struct type's fields' types
 arr:List (Nat × Nat × Nat):=[]       -- array types: how many elements,of how many cells
def look {α:Type}:List (Nat × α)→Nat→Option α
 | [],_=>none
 | (k,x)::l,n=>bif Nat.beq k n then some x else look l n
inductive Pm where
 | val (t:Ty)
 | io (o:Bool) (f:Nat) (t:Ty)
 | lend (t:Ty)
 | give (t:Ty)
 | fn (f n:Nat)
def pE:List Pm→List Ty
 | []=>[]
 | .val t::A=>t::pE A
 | .io _ f t::A=>t::pE A
 | .lend t::A=>t::pE A
 | .give t::A=>t::pE A
 | .fn _ _::A=>pE A
def gx:List Pm→List Ty
 | []=>[]
 | .val _::A=>gx A
 | .io _ f t::A=>t::gx A
 | .lend t::A=>t::gx A
 | .give _::A=>gx A
 | .fn _ _::A=>gx A
def EZ {B:List Ty}:(A:List Ty)→(tup (A++B)).d→(tup A).d
 | [],_=>()
 | _::A,y=>(y.1,EZ A y.2)
def od {B:List Ty}:(A:List Ty)→(tup (A++B)).d→(tup B).d
 | [],y=>y
 | _::A,y=>od A y.2
def Ld {B:List Ty}:(A:List Ty)→(tup A).d→(tup B).d→(tup (A++B)).d
 | [],_,z=>z
 | _::A,y,z=>(y.1,Ld A y.2 z)
structure Cn where
 A:List Pm
 R:List Ty
 fresh:Bool
 al:Bool
 fn:(tup (pE A)).d→Option (tup (gx A++R)).d
def kC (l:List Nat) (n:Nat):Bool :=
 match l with
 | []=>false
 | m::l=>bif Nat.beq m n then true else kC l n
def zM (t e:Ty) (l:List t.d):Option (List e.d):=if h:t=e then some (h▸l) else none
def D8 (t e:Ty) (x:t.d):Option e.d:=if h:t=e then some (h▸x) else none
def inj (p:Bool):(t:Ty)→t.d→List AV
 | .bool,b=>[.bool b]
 | .int k,n=>[.int k n]
 | .str,s=>[.str s]
 | .slice e,l=>[.sl p e l]
 | .pair a b,x=>inj p a x.1++inj p b x.2
 | .unit,_=>[]
 | .opq,_=>[.junk]
def jk (t:Ty) (cs:List AV):AV :=
 match t with
 | .pair _ _ | .unit => .agg cs
 | _=>cs.headD .junk
def cellsOf:AV→List AV
 | .agg cs=>cs
 | x=>[x]
def cA:List AV→List Nat
 | []=>[]
 | .ref r::cs=>r::cA cs
 | .ptr r _ _::cs=>r::cA cs
 | _::cs=>cA cs
def Fl:AV→Bool
 | .junk=>false
 | .tup _=>false
 | _=>true
def pk (p:Bool):(t:Ty)→t.d→Nat→List AV
 | .slice _,_,id=>[.ref id]
 | .pair a b,x,id=>pk p a x.1 id++pk p b x.2 (id+a.rows)
 | t,x,_=>inj p t x
def ES (e:Ty):Bool:=Nat.blt 0 e.rows
def jo (p:Bool):(t:Ty)→t.d→Nat→ji
 | .slice e,l,id=>[(id,.own (p&&ES e) e l)]
 | .pair a b,x,id=>jo p a x.1 id++jo p b x.2 (id+a.rows)
 | _,_,_=>[]
def getSl (hp:Hp) (e:Ty):AV→Option (List e.d)
 | .nil _=>some []
 | .sl _ t l=>zM t e l
 | .ref r=>match hp r with
  | .own _ t l=>zM t e l
  | .fro _ t l=>zM t e l
  | _=>none
 | _=>none
def vN:List AV→Option Bool
 | [.bool b]=>some b
 | _=>none
def zy (k:IntKind):List AV→Option Int
 | [.int k' n]=>if k=k' then some n else none
 | _=>none
def BE:List AV→Option ByteArray
 | [.str s]=>some s
 | _=>none
def uy (hp:Hp) (e:Ty):List AV→Option (List e.d)
 | [a]=>getSl hp e a
 | _=>none
def wb:List AV→Option Unit
 | []=>some ()
 | _=>none
def vL {α β:Type}:Option α→Option β→Option (α × β)
 | some x,some y=>some (x,y)
 | _,_=>none
def prj (hp:Hp):(t:Ty)→List AV→Option t.d
 | .bool,cs=>vN cs
 | .int k,cs=>zy k cs
 | .str,cs=>BE cs
 | .slice e,cs=>uy hp e cs
 | .pair a b,cs=>vL (prj hp a (cs.take a.size)) (prj hp b (cs.drop a.size))
 | .unit,cs=>wb cs
 | .opq,_=>none
def taint1 (hp:Hp):AV→Bool
 | .sl p _ _=>p
 | .ref r=>match hp r with
  | .own p _ _=>p
  | .fro p _ _=>p
  | _=>true
 | .bool _ | .int _ _ | .str _ | .nil _=>false
 | _=>true
def taint (hp:Hp):List AV→Bool
 | []=>false
 | c::cs=>bif taint1 hp c then true else taint hp cs
def freeze (hp:Hp):List AV→ji
 | []=>[]
 | .ref r::cs=>match hp r with
  | .own p t l=>(r,.fro p t l)::freeze hp cs
  | .fro p t l=>(r,.fro p t l)::freeze hp cs
  | _=>freeze hp cs
 | _::cs=>freeze hp cs
def xf (u:Ty):(t:Ty)→t.d→Nat→Option u.d
 | .pair a b,x,off =>
  if h:Ty.pair a b=u then (bif Nat.beq off 0 then some (h▸x) else none)
  else bif Nat.blt off a.size then xf u a x.1 off else xf u b x.2 (off-a.size)
 | t,x,off=>bif Nat.beq off 0 then D8 t u x else none
def nI (u:Ty) (y:u.d):(t:Ty)→t.d→Nat→Option t.d
 | .pair a b,x,off =>
  if h:Ty.pair a b=u then (bif Nat.beq off 0 then some (h.symm▸y) else none)
  else bif Nat.blt off a.size then (match nI u y a x.1 off with | some z=>some (z,x.2) | none=>none)
  else (match nI u y b x.2 (off-a.size) with | some z=>some (x.1,z) | none=>none)
 | t,_,off=>bif Nat.beq off 0 then D8 u t y else none
def zero (t:Ty):List AV :=
 match t with
 | .bool=>[.bool false] | .int k=>[.int k 0] | .str=>[.str ByteArray.empty] | .slice e=>[.nil e]
 | .pair a b=>zero a++zero b | .unit=>[] | .opq=>[.junk]
def bytesOf (l:List Int):ByteArray:=⟨(l.map fun n=>UInt8.ofNat n.toNat).toArray⟩
def jJ (s:ByteArray) (i:Int):Int:=((s.data.toList.getD i.toNat 0).toNat:Int)
def Ty.bytes:Ty→Nat
 | .bool=>1 | .int k=>k.bits/8 | .str=>16 | .slice _=>24
 | .pair a b=>(a.bytes+7)/8*8+b.bytes | .unit=>0 | .opq=>8
def room (b n:Nat):Bool:=decide (n*b≤140737488355328)&&decide (n≤140737488355328)
section
variable {R:Type}
def TU (tb:mH) (t:Nat):Value→AV
 | .bool b => .bool b
 | .int k n => .int k n
 | .string s => .str s
 | .slice none 0 0=>match look tb.ty t with | some (.slice e) => .nil e | _ => .nil .opq
 | _ => .junk
def val (tb:mH) (tm:List AV) (t:Nat):Operand→AV
 | .tmp i=>tm.getD i .junk
 | .const v=>TU tb t v
 | .func f => .fn f []
 | .global _ => .junk
def Dt (op:BinOp) (x y:Int):Option Bool :=
 match op with
 | .eql=>some (x==y) | .neq=>some (x != y)
 | .lss=>some (decide (x<y)) | .leq=>some (decide (x≤y)) | .gtr=>some (decide (x > y)) | .geq=>some (decide (x≥y))
 | _=>none
def xA:Ty→AV→AV→Option Bool
 | .bool,.bool a,.bool b=>some (a==b)
 | .int k,.int k1 a,.int k2 b=>if k1=k then if k2=k then some (a==b) else none else none
 | .str,.str a,.str b=>some (a.toList==b.toList)
 | _,_,_=>none
def ln:List Ty→List AV→List AV→Option Bool
 | [],[],[]=>some true
 | [t],[x],[y]=>xA t x y
 | t::ts,x::xs,y::ys=>match xA t x y,ln ts xs ys with
  | some c,some d=>some (c&&d)
  | _,_=>none
 | _,_,_=>none
def pL (bt:Bool) (eq:Option (List Ty)) (op:BinOp) (x y:AV) (k:AV→Option R):Option R :=
 match x,y with
 | .int ka a,.int kb b =>
  match op with
  | .shl=>bif decide (b<0) then none else k (.int ka (ka.wrap (a*2 ^ (min b.toNat ka.bits))))
  | .shr=>bif decide (b<0) then none else k (.int ka (a.fdiv (2 ^ (min b.toNat ka.bits))))
  | _ =>
  bif decide (ka≠kb) then none else
  match op with
  | .add=>k (.int ka (ka.wrap (a+b)))
  | .sub=>k (.int ka (ka.wrap (a-b)))
  | .mul=>k (.int ka (ka.wrap (a*b)))
  | .quo=>bif decide (b=0) then none else k (.int ka (ka.wrap (a.tdiv b)))
  | .rem=>bif decide (b=0) then none else k (.int ka (a.tmod b))
  | .and=>k (.int ka (ka.wrap (BitVec.ofInt ka.bits a &&& BitVec.ofInt ka.bits b).toNat))
  | .or=>k (.int ka (ka.wrap (BitVec.ofInt ka.bits a ||| BitVec.ofInt ka.bits b).toNat))
  | .xor=>k (.int ka (ka.wrap (BitVec.ofInt ka.bits a ^^^ BitVec.ofInt ka.bits b).toNat))
  | _=>match Dt op a b with | some c=>k (.bool c) | none=>none
 | .str a,.str b =>
  match op with
  | .add=>bif decide (((a.size+b.size:Nat):Int) > IntKind.i64.max) then none else k (.str (a++b))
  | .eql=>k (.bool (a.toList==b.toList))
  | .neq=>k (.bool (!(a.toList==b.toList)))
  | .lss=>k (.bool (Op.bytesLess a.toList b.toList))
  | .leq=>k (.bool (Op.bytesLess a.toList b.toList||a.toList==b.toList))
  | .gtr=>k (.bool (!(Op.bytesLess a.toList b.toList||a.toList==b.toList)))
  | .geq=>k (.bool (!(Op.bytesLess a.toList b.toList)))
  | _=>none
 | .bool a,.bool b =>
  bif bt then (match op with
   | .eql=>k (.bool (a==b))
   | .neq=>k (.bool (!(a==b)))
   | _=>none)
  else none
 | .agg a,.agg b =>
  match eq with
  | some tys=>(match op,ln tys a b with
   | .eql,some c=>k (.bool c)
   | .neq,some c=>k (.bool (!c))
   | _,_=>none)
  | none=>none
 | _,_=>none
def Dp:Option Ty→Bool
 | some .bool=>true
 | _=>false
def ID (op:UnOp) (x:AV) (k:AV→Option R):Option R :=
 match op,x with
 | .not,.bool b=>k (.bool (!b))
 | .neg,.int ka n=>k (.int ka (ka.wrap (0-n)))
 | .xor,.int ka n=>k (.int ka (ka.wrap (BitVec.ofInt ka.bits (if ka.signed then -1 else ka.max) ^^^ BitVec.ofInt ka.bits n).toNat))
 | _,_=>none
def ld (hp:Hp) (t:Ty) (a:AV) (k:AV→Option R):Option R :=
 match a with
 | .ptr r i off=>match hp r with
  | .box cs=>bif Nat.ble (off+t.size) cs.length then k (jk t ((cs.drop off).take t.size)) else none
  | .own p e l=>match xf t e (l.getD i e.z) off with
   | some x=>k (jk t (inj p t x))
   | none=>none
  | .fro p e l=>match xf t e (l.getD i e.z) off with
   | some x=>k (jk t (inj p t x))
   | none=>none
  | _=>none
 | .sptr p e l i off=>match xf t e (l.getD i e.z) off with
  | some x=>k (jk t (inj p t x))
  | none=>none
 | _=>none
def setCells:List AV→Nat→List AV→List AV
 | l,_,[]=>l
 | l,off,c::cs=>setCells (l.set off c) (off+1) cs
def lI (hp:Hp) (t:Ty) (a v:AV) (k:ji→Option R):Option R :=
 bif Fl v&&Nat.beq (cellsOf v).length t.size then
  match a with
  | .ptr r i off=>match hp r with
   | .box cs=>bif Nat.ble (off+t.size) cs.length then k [(r,.box (setCells cs off (cellsOf v)))] else none
   | .own p e l=>bif kC (cA (cellsOf v)) r then none else match prj hp t (cellsOf v) with
    | some y=>match nI t y e (l.getD i e.z) off with
     | some z=>k (freeze hp (cellsOf v)++[(r,.own (p||(ES e&&taint hp (cellsOf v))) e (l.set i z))])
     | none=>none
    | none=>none
   | _=>none
  | _=>none
 else none
def C1 (tb:mH) (s f:Nat):Option Nat :=
 match look tb.off s with
 | some l=>match l[f]? with
  | some p=>some p.1
  | none=>none
 | none=>none
def EM (tb:mH) (s f:Nat):Option Ty :=
 match look tb.fty s with
 | some l=>match l[f]? with
  | some t=>look tb.ty t
  | none=>none
 | none=>none
def uY (a:AV) (n:Nat) (k:AV→Option R):Option R :=
 match a with
 | .ptr r i off=>k (.ptr r i (off+n))
 | .sptr p e l i off=>k (.sptr p e l i (off+n))
 | _=>none
def sO (tb:mH) (t:Nat):Option Ty :=
 match look tb.ty t with | some (.slice e)=>some e | _=>none
def Tp (n:Int) (i:Nat):Bool:=decide (n=(i:Int))
def vB (k:Nat→Option R) (n:Int):Nat→Nat→Option R
 | 0,_=>none
 | m+1,i=>bif Tp n i then k i else vB k n m (i+1)
def indexAddr (tb:mH) (hp:Hp) (t:Nat) (x i:AV) (k:AV→Option R):Option R :=
 match sO tb t,i with
 | some e,.int _ n =>
  match x with
  | .ref r=>match hp r with
   | .own _ t l=>bif decide (t=e) then (bif decide (0≤n) then (bif decide (n<(l.length:Int)) then k (.ptr r n.toNat 0) else none) else none) else none
   | .fro _ t l=>bif decide (t=e) then (bif decide (0≤n) then (bif decide (n<(l.length:Int)) then k (.ptr r n.toNat 0) else none) else none) else none
   | _=>none
  | .sl p t l=>bif decide (t=e) then (bif decide (0≤n) then (bif decide (n<(l.length:Int)) then k (.sptr p t l n.toNat 0) else none) else none) else none
  | _=>none
 | none,.int _ n=>match look tb.arr t,x with
  | some (m,sz),.ptr r j off=>vB (fun q=>k (.ptr r j (off+q*sz))) n m 0
  | _,_=>none
 | _,_=>none
def uf {α:Type} (l:List α) (lo hi:Option AV) (k:List α→Option R):Option R :=
 match lo,hi with
 | none,none=>k l
 | none,some (.int _ h)=>bif decide (0≤h) then (bif decide (h≤(l.length:Int)) then k (l.take h.toNat) else none) else none
 | some (.int _ a),none=>bif decide (0≤a) then (bif decide (a≤(l.length:Int)) then k (l.drop a.toNat) else none) else none
 | some (.int _ a),some (.int _ h)=>bif decide (0≤a) then (bif decide (a≤h) then (bif decide (h≤(l.length:Int)) then k ((l.take h.toNat).drop a.toNat) else none) else none) else none
 | _,_=>none
def HO (s:ByteArray) (lo hi:Option AV) (k:ByteArray→Option R):Option R :=
 match lo,hi with
 | none,none=>k s
 | none,some (.int _ h)=>bif decide (0≤h) then (bif decide (h≤(s.size:Int)) then k (s.extract 0 h.toNat) else none) else none
 | some (.int _ a),none=>bif decide (0≤a) then (bif decide (a≤(s.size:Int)) then k (s.extract a.toNat s.size) else none) else none
 | some (.int _ a),some (.int _ h)=>bif decide (0≤a) then (bif decide (a≤h) then (bif decide (h≤(s.size:Int)) then k (s.extract a.toNat h.toNat) else none) else none) else none
 | _,_=>none
def lQ (u:Ty) (hp:Hp) (x:AV) (lo hi:Option AV) (k:AV→ji→Option R):Option R :=
 match u,x with
 | .str,.str s=>HO s lo hi fun s'=>k (.str s') []
 | .slice _,.nil e=>uf ([]:List Unit) lo hi fun _=>k (.nil e) []
 | .slice u,.sl p e l=>bif decide (u=e) then uf l lo hi fun l'=>k (.sl p e l') [] else none
 | .slice u,.ref r=>match hp r with
  | .own p e l=>bif decide (u=e) then uf l lo hi fun l'=>k (.sl p e l') [(r,.fro p e l)] else none
  | .fro p e l=>bif decide (u=e) then uf l lo hi fun l'=>k (.sl p e l') [(r,.fro p e l)] else none
  | _=>none
 | _,_=>none
def lenOf (u:Ty) (hp:Hp) (x:AV) (k:AV→Option R):Option R :=
 match u,x with
 | .str,.str s=>k (.int .i64 (s.size:Int))
 | .slice _,.nil _=>k (.int .i64 0)
 | .slice _,.sl _ _ l=>k (.int .i64 (l.length:Int))
 | .slice _,.ref r=>match hp r with
  | .own _ _ l=>k (.int .i64 (l.length:Int))
  | .fro _ _ l=>k (.int .i64 (l.length:Int))
  | _=>none
 | _,_=>none
def ky (z:List AV) (offs:List (Nat × Nat)) (ρ:Operand→AV):List (Nat × Operand)→Option (List AV)
 | []=>some z
 | (f,x)::ps=>match offs[f]? with
  | some p=>bif Fl (ρ x)&&Nat.beq (cellsOf (ρ x)).length p.2&&Nat.ble (p.1+p.2) z.length then ky (setCells z p.1 (cellsOf (ρ x))) offs ρ ps else none
  | none=>none
def elems (hp:Hp) (e:Ty) (ρ:Operand→AV):List (Nat × Operand)→List e.d→Bool→Option (List e.d × Bool)
 | [],l,b=>some (l,b)
 | (i,x)::ps,l,b=>match prj hp e (cellsOf (ρ x)) with
  | some y=>bif Fl (ρ x)&&Nat.blt i l.length then elems hp e ρ ps (l.set i y) (b||(ES e&&taint hp (cellsOf (ρ x)))) else none
  | none=>none
def jl (e:Ty) (hp:Hp) (id:Nat) (d s:AV) (k:AV→ji→Option R):Option R :=
 match getSl hp e s with
 | none=>none
 | some ls =>
  match d with
  | .nil _=>bif room e.bytes ls.length then k (.ref id) [(id,.own (ES e&&taint hp [s]) e ls)] else none
  | .ref r=>match hp r with
   | .own p t l=>match zM t e l with
    | some ld=>bif room e.bytes (ld.length+ls.length) then k (.ref id) [(r,.dead),(id,.own (p||(ES e&&taint hp [s])) e (ld++ls))] else none
    | none=>none
   | _=>none
  | _=>none
def De (t:Ty):AV→Bool
 | .agg _=>t.agg
 | _=>!t.agg
def args (hp:Hp):(ts:List Ty)→List AV→Option (tup ts).d
 | [],[]=>some ()
 | t::ts,v::vs=>bif De t v then vL (prj hp t (cellsOf v)) (args hp ts vs) else none
 | _,_=>none
def LK (fresh al:Bool):(ts:List Ty)→(tup ts).d→Nat→List AV
 | [],_,_=>[]
 | t::ts,x,id=>jk t (bif fresh then pk false t x.1 id else inj al t x.1)::LK fresh al ts x.2 (bif fresh then id+t.rows else id)
def pJ (fresh al:Bool) (ts:List Ty) (x:(tup ts).d) (id:Nat):ji:=bif fresh then jo al (tup ts) x id else []
def one:List AV→AV
 | [v]=>v
 | vs => .tup vs
def lX (a:List Nat) (b:List Nat):Bool :=
 match a with
 | []=>true
 | m::a=>bif kC b m then false else lX a b
def eG (hp:Hp):List AV→Bool
 | []=>true
 | .ref r::cs=>(match hp r with | .own _ _ _=>true | _=>false)&&eG hp cs
 | .nil _::cs=>eG hp cs
 | .bool _::cs=>eG hp cs
 | .int _ _::cs=>eG hp cs
 | .str _::cs=>eG hp cs
 | _::_=>false
def gz:List Pm→List AV→Option (List AV)
 | [],as=>match as with
  | []=>some []
  | _::_=>none
 | p::A,as=>match as with
  | []=>none
  | v::vs=>match p with
   | .fn f n=>match v with
    | .fn f' cs=>bif Nat.beq f f'&&Nat.beq cs.length n then gz A (cs++vs) else none
    | _=>none
   | _=>match gz A vs with | some l=>some (v::l) | none=>none
def rX (hp:Hp) (f:Nat):AV→Option (List AV)
 | .ptr r i off=>bif Nat.beq i 0&&Nat.beq off f then (match hp r with | .box cs=>some cs | _=>none) else none
 | _=>none
def eV (hp:Hp):(A:List Pm)→List AV→Option (tup (pE A)).d
 | [],_=>some ()
 | .val t::A,as=>match as with
  | v::vs=>bif De t v then vL (prj hp t (cellsOf v)) (eV hp A vs) else none
  | []=>none
 | .io o f t::A,as=>match as with
  | v::vs=>match rX hp f v with
   | some cs=>bif !o||eG hp cs then vL (prj hp t cs) (eV hp A vs) else none
   | none=>none
  | []=>none
 | .lend t::A,as=>match as with
  | v::vs=>bif De t v&&eG hp (cellsOf v) then vL (prj hp t (cellsOf v)) (eV hp A vs) else none
  | []=>none
 | .give t::A,as=>match as with
  | v::vs=>bif De t v&&eG hp (cellsOf v) then vL (prj hp t (cellsOf v)) (eV hp A vs) else none
  | []=>none
 | .fn _ _::A,as=>eV hp A as
def mm (hp:Hp):List Pm→List AV→List Nat
 | [],_=>[]
 | .val _::A,as=>mm hp A as.tail
 | .io o f _::A,as=>cA [as.headD .junk]++((bif o then cA ((rX hp f (as.headD .junk)).getD []) else [])++mm hp A as.tail)
 | .lend _::A,as=>cA (cellsOf (as.headD .junk))++mm hp A as.tail
 | .give _::A,as=>cA (cellsOf (as.headD .junk))++mm hp A as.tail
 | .fn _ _::A,as=>mm hp A as
def rq (hp:Hp):List Pm→List AV→List Nat
 | [],_=>[]
 | .val _::A,as=>cA (cellsOf (as.headD .junk))++rq hp A as.tail
 | .io o f _::A,as=>(bif o then [] else cA ((rX hp f (as.headD .junk)).getD []))++rq hp A as.tail
 | .lend _::A,as=>rq hp A as.tail
 | .give _::A,as=>rq hp A as.tail
 | .fn _ _::A,as=>rq hp A as
def Gp:List Nat→Bool
 | []=>true
 | r::rs=>!kC rs r&&Gp rs
def sJ (l:List Nat):ji:=l.map fun r=>(r,.dead)
def we (p:Bool) (e:Ty) (l:List e.d):List AV→ji
 | [.ref r]=>[(r,.own (p&&ES e) e l)]
 | _=>[]
def p_ (p:Bool):(t:Ty)→t.d→List AV→ji
 | .slice e,l,cs=>we p e l cs
 | .pair a b,x,cs=>p_ p a x.1 (cs.take a.size)++p_ p b x.2 (cs.drop a.size)
 | .bool,_,_=>[]
 | .int _,_,_=>[]
 | .str,_,_=>[]
 | .unit,_,_=>[]
 | .opq,_,_=>[]
def mI:AV→Nat
 | .ptr r _ _=>r
 | _=>0
def jh (hp:Hp) (al:Bool):(A:List Pm)→List AV→(tup (gx A)).d→Nat→ji
 | [],_,_,_=>[]
 | .val _::A,as,y,id=>jh hp al A as.tail y id
 | .io o f t::A,as,y,id=>bif o then sJ (cA ((rX hp f (as.headD .junk)).getD []))++((mI (as.headD .junk),.box (pk false t y.1 id))::(jo al t y.1 id++jh hp al A as.tail y.2 (id+t.rows)))
  else (mI (as.headD .junk),.box (inj al t y.1))::jh hp al A as.tail y.2 id
 | .lend t::A,as,y,id=>p_ al t y.1 (cellsOf (as.headD .junk))++jh hp al A as.tail y.2 id
 | .give _::A,as,y,id=>sJ (cA (cellsOf (as.headD .junk)))++jh hp al A as.tail y id
 | .fn _ _::A,as,y,id=>jh hp al A as y id
def jD:List Pm→Nat
 | []=>0
 | .io o f t::A=>(bif o then t.rows else 0)+jD A
 | .val _::A=>jD A
 | .lend _::A=>jD A
 | .give _::A=>jD A
 | .fn _ _::A=>jD A
def sK (c:Cn) (hp:Hp) (id:Nat) (as:List AV) (k:AV→ji→Nat→Option R):Option R :=
 match gz c.A as with
 | none=>none
 | some vs=>match eV hp c.A vs with
  | none=>none
  | some x=>bif Gp (mm hp c.A vs)&&lX (rq hp c.A vs) (mm hp c.A vs) then
   match c.fn x with
   | none=>none
   | some y=>k (one (LK c.fresh c.al c.R (od (gx c.A) y) (id+jD c.A)))
    ((bif c.al then freeze hp ((rq hp c.A vs).map AV.ref) else [])++(jh hp c.al c.A vs (EZ (gx c.A) y) id++pJ c.fresh c.al c.R (od (gx c.A) y) (id+jD c.A)))
    (bif c.fresh then id+jD c.A+(tup c.R).rows else id+jD c.A)
   else none
def pa:List Ty→Bool
 | [.opq,_]=>true
 | _=>false
def wJ:(rs:List Ty)→(tup rs).d→List AV
 | [.opq,t],y=>inj true t y.2.1
 | _,_=>[]
def AF (c:Cn) (hp:Hp) (id:Nat) (as:List AV) (k:AV→ji→Nat→Option R):Option R :=
 match gz c.A as with
 | none=>none
 | some vs=>match eV hp c.A vs with
  | none=>none
  | some x=>bif (mm hp c.A vs).isEmpty then
   match c.fn x with
   | none=>none
   | some y=>k (.ptr id 0 0) (freeze hp ((rq hp c.A vs).map AV.ref)++[(id,.box (wJ c.R (od (gx c.A) y)))]) (id+1)
   else none
def sy (c:Cn) (hp:Hp) (id:Nat) (as:List AV) (k:AV→ji→Nat→Option R):Option R :=
 bif pa c.R then AF c hp id as k else sK c hp id as k
def NI:List AV→Option AV
 | [.int k x,.int _ y]=>some (.int k (if y > x then y else x))
 | _=>none
def Mb:List AV→Option AV
 | [.int k x,.int _ y]=>some (.int k (if y<x then y else x))
 | _=>none
def Nj:List AV→Nat
 | []=>0
 | .ptr _ _ off::_=>off
 | _::vs=>Nj vs
def TR:List Pm→Nat
 | []=>0
 | .io _ f _::_=>f
 | _::A=>TR A
def q9 (tb:mH) (ct:List (Nat × Cn)) (tm:List AV) (x:Operand) (vs:List AV):Option (Cn × List AV) :=
 match val tb tm 0 x with
 | .fn f cs=>bif Nat.blt f 100000 then (match look ct (f+100000*Nj (vs++cs)) with
  | some c=>some (c,vs++cs)
  | none=>none) else none
 | _=>none
def eR (tb:mH) (ct:List (Nat × Cn)) (o:Oper) (tm:List AV) (hp:Hp) (id:Nat) (k:AV→ji→Nat→Option R):Option R :=
 match o.op with
 | .move x=>k (val tb tm o.type x) [] id
 | .assign x=>k (val tb tm o.type x) [] id
 | .pick c a b=>match val tb tm o.type c with
  | .bool x=>bif x then k (val tb tm o.type a) [] id else k (val tb tm o.type b) [] id
  | _=>none
 | .box t x=>match look tb.ty t with
  | some u=>bif Fl (val tb tm t x)&&Nat.beq (cellsOf (val tb tm t x)).length u.size then k (.ptr id 0 0) [(id,.box (cellsOf (val tb tm t x)))] (id+1) else none
  | none=>none
 | .alloc t=>match look tb.ty t with | some u=>k (.ptr id 0 0) [(id,.box (zero u))] (id+1) | none=>none
 | .build t ps=>match look tb.ty t,look tb.off t with
  | some u,some offs=>match ky (zero u) offs (val tb tm 0) ps.toList with
   | some cs=>k (.agg cs) [] id
   | none=>none
  | some u,none=>match look tb.arr t with
   | some _=>bif ps.toList.isEmpty then k (.agg (zero u)) [] id else none
   | none=>none
  | _,_=>none
 | .buildSlice t n ps=>match sO tb t with
  | some e=>match elems hp e (val tb tm 0) ps.toList (List.replicate n e.z) false with
   | some (l,b)=>bif Nat.ble n 100000&&Nat.ble (n*e.size) 16777216 then k (.ref id) (freeze hp (ps.toList.flatMap fun p=>cellsOf (val tb tm 0 p.2))++[(id,.own b e l)]) (id+1) else none
   | none=>none
  | none=>none
 | .load t a=>match look tb.ty t with | some u=>ld hp u (val tb tm 0 a) fun v=>k v [] id | none=>none
 | .store t a v=>match look tb.ty t with | some u=>lI hp u (val tb tm 0 a) (val tb tm t v) fun us=>k .junk us id | none=>none
 | .nilCheck x=>match val tb tm 0 x with
  | .ptr r i f=>k (.ptr r i f) [] id
  | .sptr p e l i f=>k (.sptr p e l i f) [] id
  | _=>none
 | .binOp op t x y u=>pL (Dp (look tb.ty t)) (look tb.eqs t) op (val tb tm t x) (val tb tm u y) fun v=>k v [] id
 | .unOp op t x=>ID op (val tb tm t x) fun v=>k v [] id
 | .convert s d x=>match look tb.ty d,look tb.ty s,val tb tm s x with
  | some (.int kd),some _,.int _ n=>k (.int kd (kd.wrap n)) [] id
  | some .str,some _,.str s=>k (.str s) [] id
  | some .str,some (.slice (.int .u8)),v=>match getSl hp (.int .u8) v with | some l=>k (.str (bytesOf l)) [] id | none=>none
  | _,_,_=>none
 | .makeSlice t l c=>match sO tb t,val tb tm 0 l,val tb tm 0 c with
  | some e,.int .i64 n,.int .i64 m=>bif decide (n=m) then (bif decide (0≤n) then (bif room e.bytes n.toNat then k (.ref id) [(id,.own false e (List.replicate n.toNat e.z))] (id+1) else none) else none) else none
  | _,_,_=>none
 | .slice t x lo hi none=>lQ ((look tb.ty t).getD .opq) hp (val tb tm t x) (lo.map (val tb tm 0)) (hi.map (val tb tm 0)) fun v us=>k v us id
 | .fieldAddr s a f=>match C1 tb s f with | some n=>uY (val tb tm 0 a) n fun v=>k v [] id | none=>none
 | .field s x f=>match C1 tb s f,val tb tm s x,EM tb s f with
  | some n,.agg cs,some u=>bif Nat.ble (n+u.size) cs.length then k (jk u ((cs.drop n).take u.size)) [] id else none
  | _,_,_=>none
 | .indexAddr t x i=>indexAddr tb hp t (val tb tm t x) (val tb tm 0 i) fun v=>k v [] id
 | .index t x i=>match look tb.ty t,val tb tm t x,val tb tm 0 i with
  | some .str,.str s,.int _ n=>bif decide (0≤n) then (bif decide (n<(s.size:Int)) then k (.int .u8 (jJ s n)) [] id else none) else none
  | _,_,_=>none
 | .extract x i=>match val tb tm 0 x with
  | .tup vs=>match vs[i]? with
   | some v=>k v [] id
   | none=>none
  | _=>none
 | .makeFunc (.func f) first caps=>match first.toList with
  | []=>k (.fn f (caps.toList.map (val tb tm 0))) [] id
  | _=>none
 | .call c=>match c.callee with
  | .builtin .len=>match c.args.toList,c.argTypes.toList with
   | [x],[t]=>lenOf ((look tb.ty t).getD .opq) hp (val tb tm t x) fun v=>k v [] id
   | _,_=>none
  | .builtin .append=>match c.args.toList,c.argTypes.toList with
   | [d,s],[t,t']=>match sO tb t with
    | some e=>bif Nat.beq t t' then jl e hp id (val tb tm t d) (val tb tm t s) fun v us=>k v us (id+1) else none
    | none=>none
   | _,_=>none
  | .builtin .max=>match NI (c.args.toList.map (val tb tm 0)) with | some v=>k v [] id | none=>none
  | .builtin .min=>match Mb (c.args.toList.map (val tb tm 0)) with | some v=>k v [] id | none=>none
  | .value x=>match q9 tb ct tm x (c.args.toList.map (val tb tm 0)) with
   | some q=>sy q.1 hp id q.2 k
   | none=>none
  | _=>none
 | _=>none
def ni (tm:List AV):Option Nat→AV→List AV
 | some d,v=>tm.set d v
 | none,_=>tm
def yi (all:List Oper) (o:Oper) (tm:List AV) (go by_:List AV→Option R):Option R :=
 match o.guard with
 | none=>go tm
 | some (j,want)=>match all[j]? with
  | some g=>match g.dst with
   | some d=>match tm.getD d .junk with
    | .bool b=>bif b then (bif want then go (tm.set d (.bool true)) else by_ (tm.set d (.bool true)))
     else (bif want then by_ (tm.set d (.bool false)) else go (tm.set d (.bool false)))
    | .tup []=>by_ tm
    | _=>none
   | none=>none
  | none=>none
def Sm (tb:mH) (ct:List (Nat × Cn)) (all:List Oper):List Oper→St→(St→Option R)→Option R
 | [],st,k=>k st
 | o::os,st,k=>yi all o st.tm
  (fun tm=>eR tb ct o tm st.hp st.nx fun v us nx=>Sm tb ct all os ⟨ni tm o.dst v,apply st.hp us,nx⟩ k)
  (fun tm=>Sm tb ct all os ⟨ni tm o.dst (.tup []),st.hp,st.nx⟩ k)
structure Sj where
 i:Nat
 us:ji
 rd:List Nat
def reads (tb:mH) (ct:List (Nat × Cn)) (o:Oper) (tm:List AV) (hp:Hp):List Nat :=
 let v:=fun x=>cA (cellsOf (val tb tm 0 x))
 match o.op with
 | .load _ a=>v a
 | .store _ a x=>v a++v x
 | .indexAddr _ x _=>v x
 | .slice _ x _ _ _=>v x
 | .convert _ _ x=>v x
 | .buildSlice _ _ ps=>ps.toList.flatMap fun p=>v p.2
 | .call c=>c.args.toList.flatMap v++(match c.callee with
  | .value x=>match q9 tb ct tm x (c.args.toList.map (val tb tm 0)) with
   | some q=>match gz q.1.A q.2 with
    | some vs=>mm hp q.1.A vs++rq hp q.1.A vs
    | none=>[]
   | none=>[]
  | _=>[])
 | _=>[]
def SY:List Nat→List Nat→List Nat
 | [],b=>b
 | x::a,b=>bif kC b x then SY a b else x::SY a b
def MB (done:List (List Nat)):List Edge→List Nat
 | []=>[]
 | e::es=>bif Region.binds .any e then SY (e.on::done.getD e.on []) (MB done es) else MB done es
def pC (o:Oper) (done:List (List Nat)):List Nat:=MB done o.after.toList
def kP:ji→List Nat
 | []=>[]
 | (_,.fro _ _ _)::us=>kP us
 | (r,_)::us=>r::kP us
def QF (a:List Nat) (us:ji) (rd:List Nat):List Sj→Bool
 | []=>true
 | r::rs=>bif (kC a r.i||(lX (kP us) r.rd&&lX (kP r.us) rd&&lX (us.map (·.1)) (kP r.us)&&lX (kP us) (r.us.map (·.1)))) then QF a us rd rs else false
def F3:qa→qa
 | .own p e l => .fro p e l
 | x=>x
def turn (x y:qa):qa :=
 match x with
 | .fro _ _ _=>F3 y
 | x=>x
def applyF (hp:Hp):ji→Hp
 | []=>hp
 | u::us=>applyF (fun n=>bif Nat.beq n u.1 then turn u.2 (hp n) else hp n) us
def rI (hp:Hp) (a:List Nat):List Sj→Hp
 | []=>hp
 | r::rs=>bif kC a r.i then applyF (rI hp a rs) r.us else rI hp a rs
def ta (hp:Hp):List Sj→Hp
 | []=>hp
 | r::rs=>applyF (ta hp rs) r.us
def I6 (tb:mH) (ct:List (Nat × Cn)) (all:List Oper) (hp:Hp):List Oper→Nat→List (List Nat)→List Sj→List AV→Nat→(St→Option R)→Option R
 | [],_,_,rs,tm,nx,k=>k ⟨tm,ta hp rs,nx⟩
 | o::os,i,done,rs,tm,nx,k=>yi all o tm
  (fun tm=>eR tb ct o tm (rI hp (pC o done) rs) nx fun v us nx' =>
   bif QF (pC o done) us (reads tb ct o tm (rI hp (pC o done) rs)) rs then
    I6 tb ct all hp os (i+1) (done++[pC o done]) (⟨i,us,reads tb ct o tm (rI hp (pC o done) rs)⟩::rs) (ni tm o.dst v) nx' k
   else none)
  (fun tm=>I6 tb ct all hp os (i+1) (done++[pC o done]) rs (ni tm o.dst (.tup [])) nx k)
def named (all:List Oper) (o:Oper):List Nat :=
 (o.op.operands.toList.filterMap fun | .tmp t=>some t | _=>none) ++
 (match o.guard with
  | some (j,_)=>match all[j]? with | some g=>g.dst.toList | none=>[]
  | none=>[])
def Fq (all:List Oper):List Oper→Nat→List (List Nat)→Bool
 | [],_,_=>true
 | o::os,i,done =>
  bif (o.after.toList.all fun e=>!(Region.binds .any e)||Nat.blt e.on i) &&
   ((List.range i).all fun j=>kC (pC o done) j||(match all[j]? with
     | some q=>lX (q.dst.toList++named all q) o.dst.toList&&lX q.dst.toList (named all o)
     | none=>false))
  then Fq all os (i+1) (done++[pC o done]) else false
structure Cs where
 map:List (Nat × Nat)
 hp:Hp
 nx:Nat
mutual
def jp (hp:Hp):Nat→AV→Cs→AV × Cs
 | 0,_,c=>(.junk,c)
 | n+1,v,c =>
  match v with
  | .ref r=>match hp r with
   | .own p e l=>match look c.map r with
    | some r'=>(.ref r',c)
    | none=>(.ref c.nx,⟨(r,c.nx)::c.map,kV c.hp c.nx (.own p e l),c.nx+1⟩)
   | .fro p e l=>(.sl p e l,c)
   | _=>(.junk,c)
  | .nil e=>(.ref c.nx,⟨c.map,kV c.hp c.nx (.own false e []),c.nx+1⟩)
  | .ptr r i f=>match hp r with
   | .box cs=>match look c.map r with
    | some r'=>(.ptr r' i f,c)
    | none =>
     let u:=n9 hp n cs ⟨(r,c.nx)::c.map,c.hp,c.nx+1⟩
     (.ptr c.nx i f,⟨u.2.map,kV u.2.hp c.nx (.box u.1),u.2.nx⟩)
   | .own p e l=>match look c.map r with
    | some r'=>(.ptr r' i f,c)
    | none=>(.ptr c.nx i f,⟨(r,c.nx)::c.map,kV c.hp c.nx (.own p e l),c.nx+1⟩)
   | .fro p e l=>(.sptr p e l i f,c)
   | .dead=>(.junk,c)
  | .agg cs=>let u:=n9 hp n cs c;(.agg u.1,u.2)
  | .tup cs=>let u:=n9 hp n cs c;(.tup u.1,u.2)
  | .fn f cs=>let u:=n9 hp n cs c;(.fn f u.1,u.2)
  | v=>(v,c)
def n9 (hp:Hp):Nat→List AV→Cs→List AV × Cs
 | 0,vs,c=>(vs.map fun _ => .junk,c)
 | _+1,[],c=>([],c)
 | n+1,v::vs,c =>
  let u:=jp hp n v c;let w:=n9 hp n vs u.2
  (u.1::w.1,w.2)
end
def v7 (st:St):List Nat→List AV × Cs→List AV × Cs
 | [],x=>x
 | i::is,x =>
  let u:=jp st.hp 64 (st.tm.getD i .junk) x.2
  v7 st is (x.1.set i u.1,u.2)
def yF (hp:Hp):List Nat→Cs→Cs
 | [],c=>c
 | i::is,c=>match hp i with
  | .box cs=>let u:=n9 hp 64 cs c;yF hp is ⟨u.2.map,kV u.2.hp i (.box u.1),u.2.nx⟩
  | .own p e l=>yF hp is ⟨c.map,kV c.hp i (.own p e l),c.nx⟩
  | _=>yF hp is c
def cE (g:Nat) (live:List Nat) (st:St):St :=
 let u:=v7 st live (List.replicate st.tm.length .junk,yF st.hp (List.range g) ⟨(List.range g).map fun i=>(i,i),pS,g⟩)
 ⟨u.1,u.2.hp,u.2.nx⟩
def cT (body:St→(Ex→St→Option R)→Option R) (cn:St→St) (K:Ex→St→Option R):Nat→St→Option R
 | 0,_=>none
 | n+1,st=>body st fun e st'=>match e with
  | .normal=>cT body cn K n (cn st')
  | .ret=>K .ret st'
  | .exit i=>K (.exit i) st'
def OT (body:St→(Ex→St→Option R)→Option R) (K:Ex→St→Option R):Nat→St→Option R
 | 0,_=>none
 | _+1,st=>body st K
def jT:Code→Nat
 | .region id _ _=>id
 | .seq a _=>jT a
 | .block _ c | .loop c | .scope c=>jT c
 | .cond _ a b=>1000000+1000*jT a+jT b
 | _=>0
structure ku where
 tb:mH
 ct:List (Nat × Cn)
 live:List (Nat × List Nat)
 fuel:Nat
 g:Nat                              -- so many rows were given
 join:List (Nat × List Nat):=[]   -- where ways meet: what lives there
def di (E:ku):Code→St→(Ex→St→Option R)→Option R
 | .skip,st,K=>K .normal st
 | .label _,st,K=>K .normal st
 | .ret,st,K=>K .ret st
 | .exit id,st,K=>K (.exit id) st
 | .region _ os draw,st,K=>bif draw then
  (bif Fq os.toList os.toList 0 [] then I6 E.tb E.ct os.toList st.hp os.toList 0 [] [] st.tm st.nx fun st'=>K .normal st' else none)
  else Sm E.tb E.ct os.toList os.toList st fun st'=>K .normal st'
 | .seq a b,st,K=>di E a st fun e st'=>match e with
  | .normal=>match look E.join (jT b) with
   | some live=>OT (di E b) K E.fuel (cE E.g live st')
   | none=>di E b st' K
  | .ret=>K .ret st'
  | .exit i=>K (.exit i) st'
 | .cond c a b,st,K=>match val E.tb st.tm 0 c with
  | .bool x=>bif x then di E a st K else di E b st K
  | _=>none
 | .block id c,st,K=>di E c st fun e st'=>match e with
  | .normal=>K .normal st'
  | .ret=>K .ret st'
  | .exit i=>bif Nat.beq i id then K .normal st' else K (.exit i) st'
 | .loop c,st,K=>cT (di E c) (cE E.g ((look E.live (jT c)).getD [])) K E.fuel (cE E.g ((look E.live (jT c)).getD []) st)
 | _,_,_=>none
end
def l8 (tb:mH) (st:St):List ResultVar→Option (List AV)
 | []=>some []
 | .tmp t::rs=>match l8 tb st rs with | some l=>some (st.tm.getD t .junk::l) | none=>none
 | .cell a t::rs=>match look tb.ty t with
  | some u=>match ld st.hp u (st.tm.getD a .junk) some,l8 tb st rs with
   | some v,some l=>some (v::l)
   | _,_=>none
  | none=>none
def gn (al:Bool) (hp:Hp):List AV→List Nat→Option (List Nat)
 | [],seen=>some seen
 | .ref r::cs,seen=>match hp r with
  | .own p _ _=>bif (p&&!al)||seen.contains r then none else gn al hp cs (r::seen)
  | _=>none
 | .bool _::cs,seen=>gn al hp cs seen
 | .int _ _::cs,seen=>gn al hp cs seen
 | .str _::cs,seen=>gn al hp cs seen
 | .nil _::cs,seen=>gn al hp cs seen
 | _::_,_=>none
def ro (al:Bool) (hp:Hp):List AV→Bool
 | []=>true
 | .ref r::cs=>(match hp r with | .fro p _ _=>al||!p | _=>false)&&ro al hp cs
 | .sl p _ _::cs=>(al||!p)&&ro al hp cs
 | .bool _::cs=>ro al hp cs
 | .int _ _::cs=>ro al hp cs
 | .str _::cs=>ro al hp cs
 | .nil _::cs=>ro al hp cs
 | _::_=>false
def yd (hp:Hp):(A:List Pm)→(tup (pE A)).d→Nat→Option (tup (gx A)).d
 | [],_,_=>some ()
 | .val _::A,x,i=>yd hp A x.2 i
 | .io _ f t::A,x,i=>match hp i with
  | .box cs=>vL (prj hp t cs) (yd hp A x.2 (i+1))
  | _=>none
 | .lend t::A,x,i=>vL (prj hp t (pk true t x.1 i)) (yd hp A x.2 (i+t.rows))
 | .give _::A,x,i=>yd hp A x.2 i
 | .fn _ _::A,x,i=>yd hp A x i
def BR (al:Bool) (hp:Hp):(A:List Pm)→(tup (pE A)).d→Nat→List Nat→Option (List Nat)
 | [],_,_,seen=>some seen
 | .val _::A,x,i,seen=>BR al hp A x.2 i seen
 | .io o f _::A,x,i,seen=>match hp i with
  | .box cs=>bif o then (match gn al hp cs seen with | some seen'=>BR al hp A x.2 (i+1) seen' | none=>none)
   else bif ro al hp cs then BR al hp A x.2 (i+1) seen else none
  | _=>none
 | .lend t::A,x,i,seen=>match gn al hp (pk true t x.1 i) seen with | some seen'=>BR al hp A x.2 (i+t.rows) seen' | none=>none
 | .give _::A,x,i,seen=>BR al hp A x.2 i seen
 | .fn _ _::A,x,i,seen=>BR al hp A x i seen
def wX (fresh:Bool) (hp:Hp) (vs:List AV):Hp:=bif fresh then hp else apply hp (freeze hp (vs.flatMap cellsOf))
def Kn (tb:mH) (rv:List ResultVar) (A:List Pm) (x:(tup (pE A)).d) (rs:List Ty) (fresh al:Bool) (st:St):Option (tup (gx A++rs)).d :=
 match l8 tb st rv with
 | none=>none
 | some vs=>match yd (wX fresh st.hp vs) A x 0 with
  | none=>none
  | some y=>match args (wX fresh st.hp vs) rs vs with
   | none=>none
   | some z=>match BR al (wX fresh st.hp vs) A x 0 [] with
    | none=>none
    | some seen=>bif fresh then (match gn al (wX fresh st.hp vs) (vs.flatMap cellsOf) seen with | some _=>some (Ld (gx A) y z) | none=>none)
     else bif ro al (wX fresh st.hp vs) (vs.flatMap cellsOf) then some (Ld (gx A) y z) else none
def cI:List Pm→Nat
 | []=>0
 | .io _ f _::A=>1+cI A
 | .lend t::A=>t.rows+cI A
 | .val _::A=>cI A
 | .give _::A=>cI A
 | .fn _ _::A=>cI A
def pc:List Pm→Nat
 | []=>0
 | .io o f t::A=>(bif o then t.rows else 0)+pc A
 | .give t::A=>t.rows+pc A
 | .val _::A=>pc A
 | .lend _::A=>pc A
 | .fn _ _::A=>pc A
def kX:(A:List Pm)→(tup (pE A)).d→(i j:Nat)→List AV
 | [],_,_,_=>[]
 | .val t::A,x,i,j=>jk t (inj true t x.1)::kX A x.2 i j
 | .io o f t::A,x,i,j => .ptr i 0 f::kX A x.2 (i+1) (j+(bif o then t.rows else 0))
 | .lend t::A,x,i,j=>jk t (pk true t x.1 i)::kX A x.2 (i+t.rows) j
 | .give t::A,x,i,j=>jk t (pk true t x.1 j)::kX A x.2 i (j+t.rows)
 | .fn f n::A,x,i,j => .fn f ((kX A x i j).take n)::(kX A x i j).drop n
def lq:(A:List Pm)→(tup (pE A)).d→(i j:Nat)→ji
 | [],_,_,_=>[]
 | .val _::A,x,i,j=>lq A x.2 i j
 | .io o f t::A,x,i,j=>(i,.box (bif o then pk true t x.1 j else inj true t x.1))::((bif o then jo true t x.1 j else [])++lq A x.2 (i+1) (j+(bif o then t.rows else 0)))
 | .lend t::A,x,i,j=>jo true t x.1 i++lq A x.2 (i+t.rows) j
 | .give t::A,x,i,j=>jo true t x.1 j++lq A x.2 i (j+t.rows)
 | .fn _ _::A,x,i,j=>lq A x i j
def T9 (E:ku) (rv:List ResultVar) (A:List Pm) (x:(tup (pE A)).d) (rs:List Ty) (fresh al:Bool):Ex→St→Option (tup (gx A++rs)).d
 | .normal,st=>Kn E.tb rv A x rs fresh al st
 | .ret,st=>Kn E.tb rv A x rs fresh al st
 | .exit _,_=>none
def body (f:Func):Code:=match f.body with | some c=>c | none => .refuse ""
def start (A:List Pm) (ntmps:Nat) (x:(tup (pE A)).d):St :=
 ⟨kX A x 0 (cI A)++List.replicate (ntmps-(kX A x 0 (cI A)).length) .junk,apply pS (lq A x 0 (cI A)),cI A+pc A⟩
def run (E:ku) (f:Func) (A:List Pm) (rs:List Ty) (fresh al:Bool) (x:(tup (pE A)).d):Option (tup (gx A++rs)).d :=
 di E (body f) (start A f.ntmps x) (T9 E f.results.toList A x rs fresh al)
inductive Fr where
 | code (c:Code)
 | blk (id:Nat)
def fc {R:Type} (E:ku) (K0:Ex→St→Option R):List Fr→Ex→St→Option R
 | [],e,st=>K0 e st
 | .code c::ks,e,st=>match e with
  | .normal=>match look E.join (jT c) with
   | some live=>OT (di E c) (fc E K0 ks) E.fuel (cE E.g live st)
   | none=>di E c st (fc E K0 ks)
  | .ret=>fc E K0 ks .ret st
  | .exit i=>fc E K0 ks (.exit i) st
 | .blk id::ks,e,st=>match e with
  | .normal=>fc E K0 ks .normal st
  | .ret=>fc E K0 ks .ret st
  | .exit i=>bif Nat.beq i id then fc E K0 ks .normal st else fc E K0 ks (.exit i) st
def at_:List Bool→Code→Code
 | [],c=>c
 | p::ps,.seq a b=>bif p then at_ ps b else at_ ps a
 | p::ps,.cond _ a b=>bif p then at_ ps b else at_ ps a
 | _::ps,.block _ c=>at_ ps c
 | _::ps,.loop c=>at_ ps c
 | _,c=>c
def mk (n nx:Nat) (l:List (Nat × AV)) (hp:List (Nat × qa)):St :=
 ⟨l.foldl (fun tm p=>tm.set p.1 p.2) (List.replicate n .junk),hp.foldl (fun h p=>kV h p.1 p.2) pS,nx⟩
def Wf:(u:Ty)→u.d→Prop
 | .int k,n=>(Lit.int k n).wf=true
 | .str,s=>s.size≤reachBytes
 | .slice e,l=>l.length*e.bytes≤reachBytes∧∀ x ∈ l,Wf e x
 | .pair a b,x=>Wf a x.1∧Wf b x.2
 | _,_=>True
end Go.V
