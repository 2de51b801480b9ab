/- V: an executable, value-level reading of the model's code: definitions alone.
 Slices that are only read are lists;slices that a call owns,and boxed variables,are rows with numbers. -/
import Derived.Orders
import Derived.Below
import Derived.KernelRfl
import GoSem.ClaimJoined
namespace Go.V
inductive Ty where
 | bool | int (k:IntKind) | str | slice (e:Ty) | pair (a b:Ty) | unit | opq
 deriving DecidableEq,Inhabited
@[reducible] def Ty.d:Ty→Type
 | .bool=>Bool | .int _=>Int | .str=>ByteArray | .slice e=>List e.d
 | .pair a b=>a.d × b.d | .unit=>Unit | .opq=>Unit
def Ty.size:Ty→Nat
 | .pair a b=>a.size+b.size | .unit=>0 | _=>1
def Ty.rows:Ty→Nat
 | .pair a b=>a.rows+b.rows | .slice _=>1 | _=>0
def Ty.agg:Ty→Bool
 | .pair _ _ | .unit=>true | _=>false
def Ty.z:(t:Ty)→t.d
 | .bool=>false | .int _=>(0:Int) | .str=>ByteArray.empty | .slice _=>[]
 | .pair a b=>(a.z,b.z) | .unit=>() | .opq=>()
def tup:List Ty→Ty
 | [] => .unit
 | t::ts => .pair t (tup ts)
inductive AV where
 | junk
 | bool (b:Bool) | int (k:IntKind) (n:Int) | str (s:ByteArray)
 | nil (e:Ty)
 | sl (p:Bool) (e:Ty) (l:List e.d)
 | ref (r:Nat)
 | ptr (r i off:Nat)
 | sptr (p:Bool) (e:Ty) (l:List e.d) (i off:Nat)
 | agg (cs:List AV)
 | tup (vs:List AV)
 | fn (f:Nat) (caps:List AV)
inductive oP where
 | dead
 | box (cs:List AV)
 | own (p:Bool) (e:Ty) (l:List e.d)
 | fro (p:Bool) (e:Ty) (l:List e.d)
abbrev Hp:=Nat→oP
def nC:Hp:=fun _ => .dead
def jL (hp:Hp) (r:Nat) (x:oP):Hp:=fun n=>bif Nat.beq n r then x else hp n
abbrev il:=List (Nat × oP)
def apply (hp:Hp):il→Hp
 | []=>hp
 | u::us=>apply (jL hp u.1 u.2) us
structure St where
 tm:List AV
 hp:Hp
 nx:Nat          -- the next row's number
inductive Ex where
 | normal | ret | exit (id:Nat)
structure kp where
 ty:List (Nat × Ty)
 off:List (Nat × List (Nat × Nat))      -- a struct type's fields: where they begin,how many cells they have
 eqs:List (Nat × List Ty):=[]         -- struct types whose values may be compared cell by cell: their cells' types
 fty:List (Nat × List Nat):=[]        -- a struct type's fields' types
def look {α:Type}:List (Nat × α)→Nat→Option α
 | [],_=>none
 | (k,x)::l,n=>bif Nat.beq k n then some x else look l n
inductive Pm where
 | val (t:Ty)
 | io (o:Bool) (t:Ty)
 | lend (t:Ty)
 | give (t:Ty)
 | fn (f n:Nat)
def nA:List Pm→List Ty
 | []=>[]
 | .val t::A=>t::nA A
 | .io _ t::A=>t::nA A
 | .lend t::A=>t::nA A
 | .give t::A=>t::nA A
 | .fn _ _::A=>nA A
def fw:List Pm→List Ty
 | []=>[]
 | .val _::A=>fw A
 | .io _ t::A=>t::fw A
 | .lend t::A=>t::fw A
 | .give _::A=>fw A
 | .fn _ _::A=>fw A
def zZ {B:List Ty}:(A:List Ty)→(tup (A++B)).d→(tup A).d
 | [],_=>()
 | _::A,y=>(y.1,zZ A y.2)
def mz {B:List Ty}:(A:List Ty)→(tup (A++B)).d→(tup B).d
 | [],y=>y
 | _::A,y=>mz A y.2
def FX {B:List Ty}:(A:List Ty)→(tup A).d→(tup B).d→(tup (A++B)).d
 | [],_,z=>z
 | _::A,y,z=>(y.1,FX A y.2 z)
structure Cn where
 A:List Pm
 R:List Ty
 fresh:Bool
 al:Bool
 fn:(tup (nA A)).d→Option (tup (fw A++R)).d
def iq (l:List Nat) (n:Nat):Bool :=
 match l with
 | []=>false
 | m::l=>bif Nat.beq m n then true else iq l n
def wi (t e:Ty) (l:List t.d):Option (List e.d):=if h:t=e then some (h▸l) else none
def yW (t e:Ty) (x:t.d):Option e.d:=if h:t=e then some (h▸x) else none
def inj (p:Bool):(t:Ty)→t.d→List AV
 | .bool,b=>[.bool b]
 | .int k,n=>[.int k n]
 | .str,s=>[.str s]
 | .slice e,l=>[.sl p e l]
 | .pair a b,x=>inj p a x.1++inj p b x.2
 | .unit,_=>[]
 | .opq,_=>[.junk]
def ip (t:Ty) (cs:List AV):AV :=
 match t with
 | .pair _ _ | .unit => .agg cs
 | _=>cs.headD .junk
def cellsOf:AV→List AV
 | .agg cs=>cs
 | x=>[x]
def bp:List AV→List Nat
 | []=>[]
 | .ref r::cs=>r::bp cs
 | .ptr r _ _::cs=>r::bp cs
 | _::cs=>bp cs
def BA:AV→Bool
 | .junk=>false
 | .tup _=>false
 | _=>true
def nj (p:Bool):(t:Ty)→t.d→Nat→List AV
 | .slice _,_,id=>[.ref id]
 | .pair a b,x,id=>nj p a x.1 id++nj p b x.2 (id+a.rows)
 | t,x,_=>inj p t x
def zU (e:Ty):Bool:=Nat.blt 0 e.rows
def j4 (p:Bool):(t:Ty)→t.d→Nat→il
 | .slice e,l,id=>[(id,.own (p&&zU e) e l)]
 | .pair a b,x,id=>j4 p a x.1 id++j4 p b x.2 (id+a.rows)
 | _,_,_=>[]
def getSl (hp:Hp) (e:Ty):AV→Option (List e.d)
 | .nil _=>some []
 | .sl _ t l=>wi t e l
 | .ref r=>match hp r with
  | .own _ t l=>wi t e l
  | .fro _ t l=>wi t e l
  | _=>none
 | _=>none
def sj:List AV→Option Bool
 | [.bool b]=>some b
 | _=>none
def w7 (k:IntKind):List AV→Option Int
 | [.int k' n]=>if k=k' then some n else none
 | _=>none
def wL:List AV→Option ByteArray
 | [.str s]=>some s
 | _=>none
def rK (hp:Hp) (e:Ty):List AV→Option (List e.d)
 | [a]=>getSl hp e a
 | _=>none
def sZ:List AV→Option Unit
 | []=>some ()
 | _=>none
def sd {α β:Type}:Option α→Option β→Option (α × β)
 | some x,some y=>some (x,y)
 | _,_=>none
def prj (hp:Hp):(t:Ty)→List AV→Option t.d
 | .bool,cs=>sj cs
 | .int k,cs=>w7 k cs
 | .str,cs=>wL cs
 | .slice e,cs=>rK hp e cs
 | .pair a b,cs=>sd (prj hp a (cs.take a.size)) (prj hp b (cs.drop a.size))
 | .unit,cs=>sZ cs
 | .opq,_=>none
def taint1 (hp:Hp):AV→Bool
 | .sl p _ _=>p
 | .ref r=>match hp r with
  | .own p _ _=>p
  | .fro p _ _=>p
  | _=>true
 | .bool _ | .int _ _ | .str _ | .nil _=>false
 | _=>true
def taint (hp:Hp):List AV→Bool
 | []=>false
 | c::cs=>bif taint1 hp c then true else taint hp cs
def freeze (hp:Hp):List AV→il
 | []=>[]
 | .ref r::cs=>match hp r with
  | .own p t l=>(r,.fro p t l)::freeze hp cs
  | .fro p t l=>(r,.fro p t l)::freeze hp cs
  | _=>freeze hp cs
 | _::cs=>freeze hp cs
def uL (u:Ty):(t:Ty)→t.d→Nat→Option u.d
 | .pair a b,x,off =>
  if h:Ty.pair a b=u then (bif Nat.beq off 0 then some (h▸x) else none)
  else bif Nat.blt off a.size then uL u a x.1 off else uL u b x.2 (off-a.size)
 | t,x,off=>bif Nat.beq off 0 then yW t u x else none
def m0 (u:Ty) (y:u.d):(t:Ty)→t.d→Nat→Option t.d
 | .pair a b,x,off =>
  if h:Ty.pair a b=u then (bif Nat.beq off 0 then some (h.symm▸y) else none)
  else bif Nat.blt off a.size then (match m0 u y a x.1 off with | some z=>some (z,x.2) | none=>none)
  else (match m0 u y b x.2 (off-a.size) with | some z=>some (x.1,z) | none=>none)
 | t,_,off=>bif Nat.beq off 0 then yW u t y else none
def zero (t:Ty):List AV :=
 match t with
 | .bool=>[.bool false] | .int k=>[.int k 0] | .str=>[.str ByteArray.empty] | .slice e=>[.nil e]
 | .pair a b=>zero a++zero b | .unit=>[] | .opq=>[.junk]
def bytesOf (l:List Int):ByteArray:=⟨(l.map fun n=>UInt8.ofNat n.toNat).toArray⟩
def di (s:ByteArray) (i:Int):Int:=((s.data.toList.getD i.toNat 0).toNat:Int)
def Ty.bytes:Ty→Nat
 | .bool=>1 | .int k=>k.bits/8 | .str=>16 | .slice _=>24
 | .pair a b=>(a.bytes+7)/8*8+b.bytes | .unit=>0 | .opq=>8
def vk (b n:Nat):Bool:=decide (n*b≤140737488355328)&&decide (n≤140737488355328)
section
variable {R:Type}
def Kx (tb:kp) (t:Nat):Value→AV
 | .bool b => .bool b
 | .int k n => .int k n
 | .string s => .str s
 | .slice none 0 0=>match look tb.ty t with | some (.slice e) => .nil e | _ => .nil .opq
 | _ => .junk
def val (tb:kp) (tm:List AV) (t:Nat):Operand→AV
 | .tmp i=>tm.getD i .junk
 | .const v=>Kx tb t v
 | .func f => .fn f []
 | .global _ => .junk
def zk (op:BinOp) (x y:Int):Option Bool :=
 match op with
 | .eql=>some (x==y) | .neq=>some (x != y)
 | .lss=>some (decide (x<y)) | .leq=>some (decide (x≤y)) | .gtr=>some (decide (x > y)) | .geq=>some (decide (x≥y))
 | _=>none
def tH:Ty→AV→AV→Option Bool
 | .bool,.bool a,.bool b=>some (a==b)
 | .int k,.int k1 a,.int k2 b=>if k1=k then if k2=k then some (a==b) else none else none
 | .str,.str a,.str b=>some (a.toList==b.toList)
 | _,_,_=>none
def kX:List Ty→List AV→List AV→Option Bool
 | [],[],[]=>some true
 | [t],[x],[y]=>tH t x y
 | t::ts,x::xs,y::ys=>match tH t x y,kX ts xs ys with
  | some c,some d=>some (c&&d)
  | _,_=>none
 | _,_,_=>none
def nR (bt:Bool) (eq:Option (List Ty)) (op:BinOp) (x y:AV) (k:AV→Option R):Option R :=
 match x,y with
 | .int ka a,.int kb b =>
  match op with
  | .shl=>bif decide (b<0) then none else k (.int ka (ka.wrap (a*2 ^ (min b.toNat ka.bits))))
  | .shr=>bif decide (b<0) then none else k (.int ka (a.fdiv (2 ^ (min b.toNat ka.bits))))
  | _ =>
  bif decide (ka≠kb) then none else
  match op with
  | .add=>k (.int ka (ka.wrap (a+b)))
  | .sub=>k (.int ka (ka.wrap (a-b)))
  | .mul=>k (.int ka (ka.wrap (a*b)))
  | .quo=>bif decide (b=0) then none else k (.int ka (ka.wrap (a.tdiv b)))
  | .rem=>bif decide (b=0) then none else k (.int ka (a.tmod b))
  | .and=>k (.int ka (ka.wrap (BitVec.ofInt ka.bits a &&& BitVec.ofInt ka.bits b).toNat))
  | .or=>k (.int ka (ka.wrap (BitVec.ofInt ka.bits a ||| BitVec.ofInt ka.bits b).toNat))
  | .xor=>k (.int ka (ka.wrap (BitVec.ofInt ka.bits a ^^^ BitVec.ofInt ka.bits b).toNat))
  | _=>match zk op a b with | some c=>k (.bool c) | none=>none
 | .str a,.str b =>
  match op with
  | .add=>bif decide (((a.size+b.size:Nat):Int) > IntKind.i64.max) then none else k (.str (a++b))
  | .eql=>k (.bool (a.toList==b.toList))
  | .neq=>k (.bool (!(a.toList==b.toList)))
  | .lss=>k (.bool (Op.bytesLess a.toList b.toList))
  | .leq=>k (.bool (Op.bytesLess a.toList b.toList||a.toList==b.toList))
  | .gtr=>k (.bool (!(Op.bytesLess a.toList b.toList||a.toList==b.toList)))
  | .geq=>k (.bool (!(Op.bytesLess a.toList b.toList)))
  | _=>none
 | .bool a,.bool b =>
  bif bt then (match op with
   | .eql=>k (.bool (a==b))
   | .neq=>k (.bool (!(a==b)))
   | _=>none)
  else none
 | .agg a,.agg b =>
  match eq with
  | some tys=>(match op,kX tys a b with
   | .eql,some c=>k (.bool c)
   | .neq,some c=>k (.bool (!c))
   | _,_=>none)
  | none=>none
 | _,_=>none
def zV:Option Ty→Bool
 | some .bool=>true
 | _=>false
def CY (op:UnOp) (x:AV) (k:AV→Option R):Option R :=
 match op,x with
 | .not,.bool b=>k (.bool (!b))
 | .neg,.int ka n=>k (.int ka (ka.wrap (0-n)))
 | .xor,.int ka n=>k (.int ka (ka.wrap (BitVec.ofInt ka.bits (if ka.signed then -1 else ka.max) ^^^ BitVec.ofInt ka.bits n).toNat))
 | _,_=>none
def ld (hp:Hp) (t:Ty) (a:AV) (k:AV→Option R):Option R :=
 match a with
 | .ptr r i off=>match hp r with
  | .box cs=>bif Nat.ble (off+t.size) cs.length then k (ip t ((cs.drop off).take t.size)) else none
  | .own p e l=>match uL t e (l.getD i e.z) off with
   | some x=>k (ip t (inj p t x))
   | none=>none
  | .fro p e l=>match uL t e (l.getD i e.z) off with
   | some x=>k (ip t (inj p t x))
   | none=>none
  | _=>none
 | .sptr p e l i off=>match uL t e (l.getD i e.z) off with
  | some x=>k (ip t (inj p t x))
  | none=>none
 | _=>none
def setCells:List AV→Nat→List AV→List AV
 | l,_,[]=>l
 | l,off,c::cs=>setCells (l.set off c) (off+1) cs
def k_ (hp:Hp) (t:Ty) (a v:AV) (k:il→Option R):Option R :=
 bif BA v&&Nat.beq (cellsOf v).length t.size then
  match a with
  | .ptr r i off=>match hp r with
   | .box cs=>bif Nat.ble (off+t.size) cs.length then k [(r,.box (setCells cs off (cellsOf v)))] else none
   | .own p e l=>bif iq (bp (cellsOf v)) r then none else match prj hp t (cellsOf v) with
    | some y=>match m0 t y e (l.getD i e.z) off with
     | some z=>k (freeze hp (cellsOf v)++[(r,.own (p||(zU e&&taint hp (cellsOf v))) e (l.set i z))])
     | none=>none
    | none=>none
   | _=>none
  | _=>none
 else none
def yg (tb:kp) (s f:Nat):Option Nat :=
 match look tb.off s with
 | some l=>match l[f]? with
  | some p=>some p.1
  | none=>none
 | none=>none
def zD (tb:kp) (s f:Nat):Option Ty :=
 match look tb.fty s with
 | some l=>match l[f]? with
  | some t=>look tb.ty t
  | none=>none
 | none=>none
def rk (a:AV) (n:Nat) (k:AV→Option R):Option R :=
 match a with
 | .ptr r i off=>k (.ptr r i (off+n))
 | .sptr p e l i off=>k (.sptr p e l i (off+n))
 | _=>none
def pc (tb:kp) (t:Nat):Option Ty :=
 match look tb.ty t with | some (.slice e)=>some e | _=>none
def indexAddr (tb:kp) (hp:Hp) (t:Nat) (x i:AV) (k:AV→Option R):Option R :=
 match pc tb t,i with
 | some e,.int _ n =>
  match x with
  | .ref r=>match hp r with
   | .own _ t l=>bif decide (t=e) then (bif decide (0≤n) then (bif decide (n<(l.length:Int)) then k (.ptr r n.toNat 0) else none) else none) else none
   | .fro _ t l=>bif decide (t=e) then (bif decide (0≤n) then (bif decide (n<(l.length:Int)) then k (.ptr r n.toNat 0) else none) else none) else none
   | _=>none
  | .sl p t l=>bif decide (t=e) then (bif decide (0≤n) then (bif decide (n<(l.length:Int)) then k (.sptr p t l n.toNat 0) else none) else none) else none
  | _=>none
 | _,_=>none
def rP {α:Type} (l:List α) (lo hi:Option AV) (k:List α→Option R):Option R :=
 match lo,hi with
 | none,none=>k l
 | none,some (.int _ h)=>bif decide (0≤h) then (bif decide (h≤(l.length:Int)) then k (l.take h.toNat) else none) else none
 | some (.int _ a),none=>bif decide (0≤a) then (bif decide (a≤(l.length:Int)) then k (l.drop a.toNat) else none) else none
 | some (.int _ a),some (.int _ h)=>bif decide (0≤a) then (bif decide (a≤h) then (bif decide (h≤(l.length:Int)) then k ((l.take h.toNat).drop a.toNat) else none) else none) else none
 | _,_=>none
def BX (s:ByteArray) (lo hi:Option AV) (k:ByteArray→Option R):Option R :=
 match lo,hi with
 | none,none=>k s
 | none,some (.int _ h)=>bif decide (0≤h) then (bif decide (h≤(s.size:Int)) then k (s.extract 0 h.toNat) else none) else none
 | some (.int _ a),none=>bif decide (0≤a) then (bif decide (a≤(s.size:Int)) then k (s.extract a.toNat s.size) else none) else none
 | some (.int _ a),some (.int _ h)=>bif decide (0≤a) then (bif decide (a≤h) then (bif decide (h≤(s.size:Int)) then k (s.extract a.toNat h.toNat) else none) else none) else none
 | _,_=>none
def k8 (u:Ty) (hp:Hp) (x:AV) (lo hi:Option AV) (k:AV→il→Option R):Option R :=
 match u,x with
 | .str,.str s=>BX s lo hi fun s'=>k (.str s') []
 | .slice _,.nil e=>rP ([]:List Unit) lo hi fun _=>k (.nil e) []
 | .slice u,.sl p e l=>bif decide (u=e) then rP l lo hi fun l'=>k (.sl p e l') [] else none
 | .slice u,.ref r=>match hp r with
  | .own p e l=>bif decide (u=e) then rP l lo hi fun l'=>k (.sl p e l') [(r,.fro p e l)] else none
  | .fro p e l=>bif decide (u=e) then rP l lo hi fun l'=>k (.sl p e l') [(r,.fro p e l)] else none
  | _=>none
 | _,_=>none
def lenOf (u:Ty) (hp:Hp) (x:AV) (k:AV→Option R):Option R :=
 match u,x with
 | .str,.str s=>k (.int .i64 (s.size:Int))
 | .slice _,.nil _=>k (.int .i64 0)
 | .slice _,.sl _ _ l=>k (.int .i64 (l.length:Int))
 | .slice _,.ref r=>match hp r with
  | .own _ _ l=>k (.int .i64 (l.length:Int))
  | .fro _ _ l=>k (.int .i64 (l.length:Int))
  | _=>none
 | _,_=>none
def jp (z:List AV) (offs:List (Nat × Nat)) (ρ:Operand→AV):List (Nat × Operand)→Option (List AV)
 | []=>some z
 | (f,x)::ps=>match offs[f]? with
  | some p=>bif BA (ρ x)&&Nat.beq (cellsOf (ρ x)).length p.2&&Nat.ble (p.1+p.2) z.length then jp (setCells z p.1 (cellsOf (ρ x))) offs ρ ps else none
  | none=>none
def elems (hp:Hp) (e:Ty) (ρ:Operand→AV):List (Nat × Operand)→List e.d→Bool→Option (List e.d × Bool)
 | [],l,b=>some (l,b)
 | (i,x)::ps,l,b=>match prj hp e (cellsOf (ρ x)) with
  | some y=>bif BA (ρ x)&&Nat.blt i l.length then elems hp e ρ ps (l.set i y) (b||(zU e&&taint hp (cellsOf (ρ x)))) else none
  | none=>none
def j7 (e:Ty) (hp:Hp) (id:Nat) (d s:AV) (k:AV→il→Option R):Option R :=
 match getSl hp e s with
 | none=>none
 | some ls =>
  match d with
  | .nil _=>bif vk e.bytes ls.length then k (.ref id) [(id,.own (zU e&&taint hp [s]) e ls)] else none
  | .ref r=>match hp r with
   | .own p t l=>match wi t e l with
    | some ld=>bif vk e.bytes (ld.length+ls.length) then k (.ref id) [(r,.dead),(id,.own (p||(zU e&&taint hp [s])) e (ld++ls))] else none
    | none=>none
   | _=>none
  | _=>none
def yf (t:Ty):AV→Bool
 | .agg _=>t.agg
 | _=>!t.agg
def args (hp:Hp):(ts:List Ty)→List AV→Option (tup ts).d
 | [],[]=>some ()
 | t::ts,v::vs=>bif yf t v then sd (prj hp t (cellsOf v)) (args hp ts vs) else none
 | _,_=>none
def G2 (fresh al:Bool):(ts:List Ty)→(tup ts).d→Nat→List AV
 | [],_,_=>[]
 | t::ts,x,id=>ip t (bif fresh then nj false t x.1 id else inj al t x.1)::G2 fresh al ts x.2 (bif fresh then id+t.rows else id)
def nF (fresh al:Bool) (ts:List Ty) (x:(tup ts).d) (id:Nat):il:=bif fresh then j4 al (tup ts) x id else []
def one:List AV→AV
 | [v]=>v
 | vs => .tup vs
def kI (a:List Nat) (b:List Nat):Bool :=
 match a with
 | []=>true
 | m::a=>bif iq b m then false else kI a b
def dj (hp:Hp):List AV→Bool
 | []=>true
 | .ref r::cs=>(match hp r with | .own _ _ _=>true | _=>false)&&dj hp cs
 | .nil _::cs=>dj hp cs
 | .bool _::cs=>dj hp cs
 | .int _ _::cs=>dj hp cs
 | .str _::cs=>dj hp cs
 | _::_=>false
def g8:List Pm→List AV→Option (List AV)
 | [],as=>match as with
  | []=>some []
  | _::_=>none
 | p::A,as=>match as with
  | []=>none
  | v::vs=>match p with
   | .fn f n=>match v with
    | .fn f' cs=>bif Nat.beq f f'&&Nat.beq cs.length n then g8 A (cs++vs) else none
    | _=>none
   | _=>match g8 A vs with | some l=>some (v::l) | none=>none
def pB (hp:Hp):AV→Option (List AV)
 | .ptr r i off=>bif Nat.beq i 0&&Nat.beq off 0 then (match hp r with | .box cs=>some cs | _=>none) else none
 | _=>none
def eD (hp:Hp):(A:List Pm)→List AV→Option (tup (nA A)).d
 | [],_=>some ()
 | .val t::A,as=>match as with
  | v::vs=>bif yf t v then sd (prj hp t (cellsOf v)) (eD hp A vs) else none
  | []=>none
 | .io o t::A,as=>match as with
  | v::vs=>match pB hp v with
   | some cs=>bif !o||dj hp cs then sd (prj hp t cs) (eD hp A vs) else none
   | none=>none
  | []=>none
 | .lend t::A,as=>match as with
  | v::vs=>bif yf t v&&dj hp (cellsOf v) then sd (prj hp t (cellsOf v)) (eD hp A vs) else none
  | []=>none
 | .give t::A,as=>match as with
  | v::vs=>bif yf t v&&dj hp (cellsOf v) then sd (prj hp t (cellsOf v)) (eD hp A vs) else none
  | []=>none
 | .fn _ _::A,as=>eD hp A as
def lM (hp:Hp):List Pm→List AV→List Nat
 | [],_=>[]
 | .val _::A,as=>lM hp A as.tail
 | .io o _::A,as=>bp [as.headD .junk]++((bif o then bp ((pB hp (as.headD .junk)).getD []) else [])++lM hp A as.tail)
 | .lend _::A,as=>bp (cellsOf (as.headD .junk))++lM hp A as.tail
 | .give _::A,as=>bp (cellsOf (as.headD .junk))++lM hp A as.tail
 | .fn _ _::A,as=>lM hp A as
def pH (hp:Hp):List Pm→List AV→List Nat
 | [],_=>[]
 | .val _::A,as=>bp (cellsOf (as.headD .junk))++pH hp A as.tail
 | .io o _::A,as=>(bif o then [] else bp ((pB hp (as.headD .junk)).getD []))++pH hp A as.tail
 | .lend _::A,as=>pH hp A as.tail
 | .give _::A,as=>pH hp A as.tail
 | .fn _ _::A,as=>pH hp A as
def Ay:List Nat→Bool
 | []=>true
 | r::rs=>!iq rs r&&Ay rs
def qF (l:List Nat):il:=l.map fun r=>(r,.dead)
def s8 (p:Bool) (e:Ty) (l:List e.d):List AV→il
 | [.ref r]=>[(r,.own (p&&zU e) e l)]
 | _=>[]
def n_ (p:Bool):(t:Ty)→t.d→List AV→il
 | .slice e,l,cs=>s8 p e l cs
 | .pair a b,x,cs=>n_ p a x.1 (cs.take a.size)++n_ p b x.2 (cs.drop a.size)
 | .bool,_,_=>[]
 | .int _,_,_=>[]
 | .str,_,_=>[]
 | .unit,_,_=>[]
 | .opq,_,_=>[]
def y5:AV→Nat
 | .ptr r _ _=>r
 | _=>0
def ij (hp:Hp) (al:Bool):(A:List Pm)→List AV→(tup (fw A)).d→Nat→il
 | [],_,_,_=>[]
 | .val _::A,as,y,id=>ij hp al A as.tail y id
 | .io o t::A,as,y,id=>bif o then qF (bp ((pB hp (as.headD .junk)).getD []))++((y5 (as.headD .junk),.box (nj false t y.1 id))::(j4 al t y.1 id++ij hp al A as.tail y.2 (id+t.rows)))
  else (y5 (as.headD .junk),.box (inj al t y.1))::ij hp al A as.tail y.2 id
 | .lend t::A,as,y,id=>n_ al t y.1 (cellsOf (as.headD .junk))++ij hp al A as.tail y.2 id
 | .give _::A,as,y,id=>qF (bp (cellsOf (as.headD .junk)))++ij hp al A as.tail y id
 | .fn _ _::A,as,y,id=>ij hp al A as y id
def iK:List Pm→Nat
 | []=>0
 | .io o t::A=>(bif o then t.rows else 0)+iK A
 | .val _::A=>iK A
 | .lend _::A=>iK A
 | .give _::A=>iK A
 | .fn _ _::A=>iK A
def pU (c:Cn) (hp:Hp) (id:Nat) (as:List AV) (k:AV→il→Nat→Option R):Option R :=
 match g8 c.A as with
 | none=>none
 | some vs=>match eD hp c.A vs with
  | none=>none
  | some x=>bif Ay (lM hp c.A vs)&&kI (pH hp c.A vs) (lM hp c.A vs) then
   match c.fn x with
   | none=>none
   | some y=>k (one (G2 c.fresh c.al c.R (mz (fw c.A) y) (id+iK c.A)))
    ((bif c.al then freeze hp ((pH hp c.A vs).map AV.ref) else [])++(ij hp c.al c.A vs (zZ (fw c.A) y) id++nF c.fresh c.al c.R (mz (fw c.A) y) (id+iK c.A)))
    (bif c.fresh then id+iK c.A+(tup c.R).rows else id+iK c.A)
   else none
def qp:List Ty→Bool
 | [.opq,_]=>true
 | _=>false
def sN:(rs:List Ty)→(tup rs).d→List AV
 | [.opq,t],y=>inj true t y.2.1
 | _,_=>[]
def vT (c:Cn) (hp:Hp) (id:Nat) (as:List AV) (k:AV→il→Nat→Option R):Option R :=
 match g8 c.A as with
 | none=>none
 | some vs=>match eD hp c.A vs with
  | none=>none
  | some x=>bif (lM hp c.A vs).isEmpty then
   match c.fn x with
   | none=>none
   | some y=>k (.ptr id 0 0) (freeze hp ((pH hp c.A vs).map AV.ref)++[(id,.box (sN c.R (mz (fw c.A) y)))]) (id+1)
   else none
def qE (c:Cn) (hp:Hp) (id:Nat) (as:List AV) (k:AV→il→Nat→Option R):Option R :=
 bif qp c.R then vT c hp id as k else pU c hp id as k
def HW:List AV→Option AV
 | [.int k x,.int _ y]=>some (.int k (if y > x then y else x))
 | _=>none
def H7:List AV→Option AV
 | [.int k x,.int _ y]=>some (.int k (if y<x then y else x))
 | _=>none
def oF (tb:kp) (ct:List (Nat × Cn)) (tm:List AV) (x:Operand) (vs:List AV):Option (Cn × List AV) :=
 match val tb tm 0 x with
 | .fn f cs=>match look ct f with
  | some c=>some (c,vs++cs)
  | none=>none
 | _=>none
def e9 (tb:kp) (ct:List (Nat × Cn)) (o:Oper) (tm:List AV) (hp:Hp) (id:Nat) (k:AV→il→Nat→Option R):Option R :=
 match o.op with
 | .move x=>k (val tb tm o.type x) [] id
 | .assign x=>k (val tb tm o.type x) [] id
 | .pick c a b=>match val tb tm o.type c with
  | .bool x=>bif x then k (val tb tm o.type a) [] id else k (val tb tm o.type b) [] id
  | _=>none
 | .box t x=>match look tb.ty t with
  | some u=>bif BA (val tb tm t x)&&Nat.beq (cellsOf (val tb tm t x)).length u.size then k (.ptr id 0 0) [(id,.box (cellsOf (val tb tm t x)))] (id+1) else none
  | none=>none
 | .alloc t=>match look tb.ty t with | some u=>k (.ptr id 0 0) [(id,.box (zero u))] (id+1) | none=>none
 | .build t ps=>match look tb.ty t,look tb.off t with
  | some u,some offs=>match jp (zero u) offs (val tb tm 0) ps.toList with
   | some cs=>k (.agg cs) [] id
   | none=>none
  | _,_=>none
 | .buildSlice t n ps=>match pc tb t with
  | some e=>match elems hp e (val tb tm 0) ps.toList (List.replicate n e.z) false with
   | some (l,b)=>bif Nat.ble n 100000&&Nat.ble (n*e.size) 16777216 then k (.ref id) (freeze hp (ps.toList.flatMap fun p=>cellsOf (val tb tm 0 p.2))++[(id,.own b e l)]) (id+1) else none
   | none=>none
  | none=>none
 | .load t a=>match look tb.ty t with | some u=>ld hp u (val tb tm 0 a) fun v=>k v [] id | none=>none
 | .store t a v=>match look tb.ty t with | some u=>k_ hp u (val tb tm 0 a) (val tb tm t v) fun us=>k .junk us id | none=>none
 | .nilCheck x=>match val tb tm 0 x with
  | .ptr r i f=>k (.ptr r i f) [] id
  | .sptr p e l i f=>k (.sptr p e l i f) [] id
  | _=>none
 | .binOp op t x y u=>nR (zV (look tb.ty t)) (look tb.eqs t) op (val tb tm t x) (val tb tm u y) fun v=>k v [] id
 | .unOp op t x=>CY op (val tb tm t x) fun v=>k v [] id
 | .convert s d x=>match look tb.ty d,look tb.ty s,val tb tm s x with
  | some (.int kd),some _,.int _ n=>k (.int kd (kd.wrap n)) [] id
  | some .str,some _,.str s=>k (.str s) [] id
  | some .str,some (.slice (.int .u8)),v=>match getSl hp (.int .u8) v with | some l=>k (.str (bytesOf l)) [] id | none=>none
  | _,_,_=>none
 | .makeSlice t l c=>match pc tb t,val tb tm 0 l,val tb tm 0 c with
  | some e,.int .i64 n,.int .i64 m=>bif decide (n=m) then (bif decide (0≤n) then (bif vk e.bytes n.toNat then k (.ref id) [(id,.own false e (List.replicate n.toNat e.z))] (id+1) else none) else none) else none
  | _,_,_=>none
 | .slice t x lo hi none=>k8 ((look tb.ty t).getD .opq) hp (val tb tm t x) (lo.map (val tb tm 0)) (hi.map (val tb tm 0)) fun v us=>k v us id
 | .fieldAddr s a f=>match yg tb s f with | some n=>rk (val tb tm 0 a) n fun v=>k v [] id | none=>none
 | .field s x f=>match yg tb s f,val tb tm s x,zD tb s f with
  | some n,.agg cs,some u=>bif Nat.ble (n+u.size) cs.length then k (ip u ((cs.drop n).take u.size)) [] id else none
  | _,_,_=>none
 | .indexAddr t x i=>indexAddr tb hp t (val tb tm t x) (val tb tm 0 i) fun v=>k v [] id
 | .index t x i=>match look tb.ty t,val tb tm t x,val tb tm 0 i with
  | some .str,.str s,.int _ n=>bif decide (0≤n) then (bif decide (n<(s.size:Int)) then k (.int .u8 (di s n)) [] id else none) else none
  | _,_,_=>none
 | .extract x i=>match val tb tm 0 x with
  | .tup vs=>match vs[i]? with
   | some v=>k v [] id
   | none=>none
  | _=>none
 | .makeFunc (.func f) first caps=>match first.toList with
  | []=>k (.fn f (caps.toList.map (val tb tm 0))) [] id
  | _=>none
 | .call c=>match c.callee with
  | .builtin .len=>match c.args.toList,c.argTypes.toList with
   | [x],[t]=>lenOf ((look tb.ty t).getD .opq) hp (val tb tm t x) fun v=>k v [] id
   | _,_=>none
  | .builtin .append=>match c.args.toList,c.argTypes.toList with
   | [d,s],[t,t']=>match pc tb t with
    | some e=>bif Nat.beq t t' then j7 e hp id (val tb tm t d) (val tb tm t s) fun v us=>k v us (id+1) else none
    | none=>none
   | _,_=>none
  | .builtin .max=>match HW (c.args.toList.map (val tb tm 0)) with | some v=>k v [] id | none=>none
  | .builtin .min=>match H7 (c.args.toList.map (val tb tm 0)) with | some v=>k v [] id | none=>none
  | .value x=>match oF tb ct tm x (c.args.toList.map (val tb tm 0)) with
   | some q=>qE q.1 hp id q.2 k
   | none=>none
  | _=>none
 | _=>none
def mM (tm:List AV):Option Nat→AV→List AV
 | some d,v=>tm.set d v
 | none,_=>tm
def v_ (all:List Oper) (o:Oper) (tm:List AV) (go by_:List AV→Option R):Option R :=
 match o.guard with
 | none=>go tm
 | some (j,want)=>match all[j]? with
  | some g=>match g.dst with
   | some d=>match tm.getD d .junk with
    | .bool b=>bif b then (bif want then go (tm.set d (.bool true)) else by_ (tm.set d (.bool true)))
     else (bif want then by_ (tm.set d (.bool false)) else go (tm.set d (.bool false)))
    | .tup []=>by_ tm
    | _=>none
   | none=>none
  | none=>none
def Ka (tb:kp) (ct:List (Nat × Cn)) (all:List Oper):List Oper→St→(St→Option R)→Option R
 | [],st,k=>k st
 | o::os,st,k=>v_ all o st.tm
  (fun tm=>e9 tb ct o tm st.hp st.nx fun v us nx=>Ka tb ct all os ⟨mM tm o.dst v,apply st.hp us,nx⟩ k)
  (fun tm=>Ka tb ct all os ⟨mM tm o.dst (.tup []),st.hp,st.nx⟩ k)
structure KU where
 i:Nat
 us:il
 rd:List Nat
def reads (tb:kp) (ct:List (Nat × Cn)) (o:Oper) (tm:List AV) (hp:Hp):List Nat :=
 let v:=fun x=>bp (cellsOf (val tb tm 0 x))
 match o.op with
 | .load _ a=>v a
 | .store _ a x=>v a++v x
 | .indexAddr _ x _=>v x
 | .slice _ x _ _ _=>v x
 | .convert _ _ x=>v x
 | .buildSlice _ _ ps=>ps.toList.flatMap fun p=>v p.2
 | .call c=>c.args.toList.flatMap v++(match c.callee with
  | .value x=>match oF tb ct tm x (c.args.toList.map (val tb tm 0)) with
   | some q=>match g8 q.1.A q.2 with
    | some vs=>lM hp q.1.A vs++pH hp q.1.A vs
    | none=>[]
   | none=>[]
  | _=>[])
 | _=>[]
def KQ:List Nat→List Nat→List Nat
 | [],b=>b
 | x::a,b=>bif iq b x then KQ a b else x::KQ a b
def Ez (done:List (List Nat)):List Edge→List Nat
 | []=>[]
 | e::es=>bif Region.binds .any e then KQ (e.on::done.getD e.on []) (Ez done es) else Ez done es
def nB (o:Oper) (done:List (List Nat)):List Nat:=Ez done o.after.toList
def jC:il→List Nat
 | []=>[]
 | (_,.fro _ _ _)::us=>jC us
 | (r,_)::us=>r::jC us
def I9 (a:List Nat) (us:il) (rd:List Nat):List KU→Bool
 | []=>true
 | r::rs=>bif (iq a r.i||(kI (jC us) r.rd&&kI (jC r.us) rd&&kI (us.map (·.1)) (jC r.us)&&kI (jC us) (r.us.map (·.1)))) then I9 a us rd rs else false
def AD:oP→oP
 | .own p e l => .fro p e l
 | x=>x
def turn (x y:oP):oP :=
 match x with
 | .fro _ _ _=>AD y
 | x=>x
def applyF (hp:Hp):il→Hp
 | []=>hp
 | u::us=>applyF (fun n=>bif Nat.beq n u.1 then turn u.2 (hp n) else hp n) us
def p5 (hp:Hp) (a:List Nat):List KU→Hp
 | []=>hp
 | r::rs=>bif iq a r.i then applyF (p5 hp a rs) r.us else p5 hp a rs
def qd (hp:Hp):List KU→Hp
 | []=>hp
 | r::rs=>applyF (qd hp rs) r.us
def CR (tb:kp) (ct:List (Nat × Cn)) (all:List Oper) (hp:Hp):List Oper→Nat→List (List Nat)→List KU→List AV→Nat→(St→Option R)→Option R
 | [],_,_,rs,tm,nx,k=>k ⟨tm,qd hp rs,nx⟩
 | o::os,i,done,rs,tm,nx,k=>v_ all o tm
  (fun tm=>e9 tb ct o tm (p5 hp (nB o done) rs) nx fun v us nx' =>
   bif I9 (nB o done) us (reads tb ct o tm (p5 hp (nB o done) rs)) rs then
    CR tb ct all hp os (i+1) (done++[nB o done]) (⟨i,us,reads tb ct o tm (p5 hp (nB o done) rs)⟩::rs) (mM tm o.dst v) nx' k
   else none)
  (fun tm=>CR tb ct all hp os (i+1) (done++[nB o done]) rs (mM tm o.dst (.tup [])) nx k)
def named (all:List Oper) (o:Oper):List Nat :=
 (o.op.operands.toList.filterMap fun | .tmp t=>some t | _=>none) ++
 (match o.guard with
  | some (j,_)=>match all[j]? with | some g=>g.dst.toList | none=>[]
  | none=>[])
def Ba (all:List Oper):List Oper→Nat→List (List Nat)→Bool
 | [],_,_=>true
 | o::os,i,done =>
  bif (o.after.toList.all fun e=>!(Region.binds .any e)||Nat.blt e.on i) &&
   ((List.range i).all fun j=>iq (nB o done) j||(match all[j]? with
     | some q=>kI (q.dst.toList++named all q) o.dst.toList&&kI q.dst.toList (named all o)
     | none=>false))
  then Ba all os (i+1) (done++[nB o done]) else false
structure Cs where
 map:List (Nat × Nat)
 hp:Hp
 nx:Nat
mutual
def ir (hp:Hp):Nat→AV→Cs→AV × Cs
 | 0,_,c=>(.junk,c)
 | n+1,v,c =>
  match v with
  | .ref r=>match hp r with
   | .own p e l=>match look c.map r with
    | some r'=>(.ref r',c)
    | none=>(.ref c.nx,⟨(r,c.nx)::c.map,jL c.hp c.nx (.own p e l),c.nx+1⟩)
   | .fro p e l=>(.sl p e l,c)
   | _=>(.junk,c)
  | .nil e=>(.ref c.nx,⟨c.map,jL c.hp c.nx (.own false e []),c.nx+1⟩)
  | .ptr r i f=>match hp r with
   | .box cs=>match look c.map r with
    | some r'=>(.ptr r' i f,c)
    | none =>
     let u:=lW hp n cs ⟨(r,c.nx)::c.map,c.hp,c.nx+1⟩
     (.ptr c.nx i f,⟨u.2.map,jL u.2.hp c.nx (.box u.1),u.2.nx⟩)
   | .own p e l=>match look c.map r with
    | some r'=>(.ptr r' i f,c)
    | none=>(.ptr c.nx i f,⟨(r,c.nx)::c.map,jL c.hp c.nx (.own p e l),c.nx+1⟩)
   | .fro p e l=>(.sptr p e l i f,c)
   | .dead=>(.junk,c)
  | .agg cs=>let u:=lW hp n cs c;(.agg u.1,u.2)
  | .tup cs=>let u:=lW hp n cs c;(.tup u.1,u.2)
  | .fn f cs=>let u:=lW hp n cs c;(.fn f u.1,u.2)
  | v=>(v,c)
def lW (hp:Hp):Nat→List AV→Cs→List AV × Cs
 | 0,vs,c=>(vs.map fun _ => .junk,c)
 | _+1,[],c=>([],c)
 | n+1,v::vs,c =>
  let u:=ir hp n v c
  let w:=lW hp n vs u.2
  (u.1::w.1,w.2)
end
def ri (st:St):List Nat→List AV × Cs→List AV × Cs
 | [],x=>x
 | i::is,x =>
  let u:=ir st.hp 64 (st.tm.getD i .junk) x.2
  ri st is (x.1.set i u.1,u.2)
def u5 (hp:Hp):List Nat→Cs→Cs
 | [],c=>c
 | i::is,c=>match hp i with
  | .box cs=>let u:=lW hp 64 cs c;u5 hp is ⟨u.2.map,jL u.2.hp i (.box u.1),u.2.nx⟩
  | .own p e l=>u5 hp is ⟨c.map,jL c.hp i (.own p e l),c.nx⟩
  | _=>u5 hp is c
def ak (g:Nat) (live:List Nat) (st:St):St :=
 let u:=ri st live (List.replicate st.tm.length .junk,u5 st.hp (List.range g) ⟨(List.range g).map fun i=>(i,i),nC,g⟩)
 ⟨u.1,u.2.hp,u.2.nx⟩
def ao (body:St→(Ex→St→Option R)→Option R) (cn:St→St) (K:Ex→St→Option R):Nat→St→Option R
 | 0,_=>none
 | n+1,st=>body st fun e st'=>match e with
  | .normal=>ao body cn K n (cn st')
  | .ret=>K .ret st'
  | .exit i=>K (.exit i) st'
def Gg (body:St→(Ex→St→Option R)→Option R) (K:Ex→St→Option R):Nat→St→Option R
 | 0,_=>none
 | _+1,st=>body st K
def jt:Code→Nat
 | .region id _ _=>id
 | .seq a _=>jt a
 | .block _ c | .loop c | .scope c=>jt c
 | _=>0
structure dO where
 tb:kp
 ct:List (Nat × Cn)
 live:List (Nat × List Nat)
 fuel:Nat
 g:Nat                              -- so many rows were given
 join:List (Nat × List Nat):=[]   -- where ways meet: what lives there
def bo (E:dO):Code→St→(Ex→St→Option R)→Option R
 | .skip,st,K=>K .normal st
 | .label _,st,K=>K .normal st
 | .ret,st,K=>K .ret st
 | .exit id,st,K=>K (.exit id) st
 | .region _ os draw,st,K=>bif draw then
  (bif Ba os.toList os.toList 0 [] then CR E.tb E.ct os.toList st.hp os.toList 0 [] [] st.tm st.nx fun st'=>K .normal st' else none)
  else Ka E.tb E.ct os.toList os.toList st fun st'=>K .normal st'
 | .seq a b,st,K=>bo E a st fun e st'=>match e with
  | .normal=>match look E.join (jt b) with
   | some live=>Gg (bo E b) K E.fuel (ak E.g live st')
   | none=>bo E b st' K
  | .ret=>K .ret st'
  | .exit i=>K (.exit i) st'
 | .cond c a b,st,K=>match val E.tb st.tm 0 c with
  | .bool x=>bif x then bo E a st K else bo E b st K
  | _=>none
 | .block id c,st,K=>bo E c st fun e st'=>match e with
  | .normal=>K .normal st'
  | .ret=>K .ret st'
  | .exit i=>bif Nat.beq i id then K .normal st' else K (.exit i) st'
 | .loop c,st,K=>ao (bo E c) (ak E.g ((look E.live (jt c)).getD [])) K E.fuel (ak E.g ((look E.live (jt c)).getD []) st)
 | _,_,_=>none
end
def jo (tb:kp) (st:St):List ResultVar→Option (List AV)
 | []=>some []
 | .tmp t::rs=>match jo tb st rs with | some l=>some (st.tm.getD t .junk::l) | none=>none
 | .cell a t::rs=>match look tb.ty t with
  | some u=>match ld st.hp u (st.tm.getD a .junk) some,jo tb st rs with
   | some v,some l=>some (v::l)
   | _,_=>none
  | none=>none
def fk (al:Bool) (hp:Hp):List AV→List Nat→Option (List Nat)
 | [],seen=>some seen
 | .ref r::cs,seen=>match hp r with
  | .own p _ _=>bif (p&&!al)||seen.contains r then none else fk al hp cs (r::seen)
  | _=>none
 | .bool _::cs,seen=>fk al hp cs seen
 | .int _ _::cs,seen=>fk al hp cs seen
 | .str _::cs,seen=>fk al hp cs seen
 | .nil _::cs,seen=>fk al hp cs seen
 | _::_,_=>none
def pF (al:Bool) (hp:Hp):List AV→Bool
 | []=>true
 | .ref r::cs=>(match hp r with | .fro p _ _=>al||!p | _=>false)&&pF al hp cs
 | .sl p _ _::cs=>(al||!p)&&pF al hp cs
 | .bool _::cs=>pF al hp cs
 | .int _ _::cs=>pF al hp cs
 | .str _::cs=>pF al hp cs
 | .nil _::cs=>pF al hp cs
 | _::_=>false
def ut (hp:Hp):(A:List Pm)→(tup (nA A)).d→Nat→Option (tup (fw A)).d
 | [],_,_=>some ()
 | .val _::A,x,i=>ut hp A x.2 i
 | .io _ t::A,x,i=>match hp i with
  | .box cs=>sd (prj hp t cs) (ut hp A x.2 (i+1))
  | _=>none
 | .lend t::A,x,i=>sd (prj hp t (nj true t x.1 i)) (ut hp A x.2 (i+t.rows))
 | .give _::A,x,i=>ut hp A x.2 i
 | .fn _ _::A,x,i=>ut hp A x i
def xW (al:Bool) (hp:Hp):(A:List Pm)→(tup (nA A)).d→Nat→List Nat→Option (List Nat)
 | [],_,_,seen=>some seen
 | .val _::A,x,i,seen=>xW al hp A x.2 i seen
 | .io o _::A,x,i,seen=>match hp i with
  | .box cs=>bif o then (match fk al hp cs seen with | some seen'=>xW al hp A x.2 (i+1) seen' | none=>none)
   else bif pF al hp cs then xW al hp A x.2 (i+1) seen else none
  | _=>none
 | .lend t::A,x,i,seen=>match fk al hp (nj true t x.1 i) seen with | some seen'=>xW al hp A x.2 (i+t.rows) seen' | none=>none
 | .give _::A,x,i,seen=>xW al hp A x.2 i seen
 | .fn _ _::A,x,i,seen=>xW al hp A x i seen
def t_ (fresh:Bool) (hp:Hp) (vs:List AV):Hp:=bif fresh then hp else apply hp (freeze hp (vs.flatMap cellsOf))
def EE (tb:kp) (rv:List ResultVar) (A:List Pm) (x:(tup (nA A)).d) (rs:List Ty) (fresh al:Bool) (st:St):Option (tup (fw A++rs)).d :=
 match jo tb st rv with
 | none=>none
 | some vs=>match ut (t_ fresh st.hp vs) A x 0 with
  | none=>none
  | some y=>match args (t_ fresh st.hp vs) rs vs with
   | none=>none
   | some z=>match xW al (t_ fresh st.hp vs) A x 0 [] with
    | none=>none
    | some seen=>bif fresh then (match fk al (t_ fresh st.hp vs) (vs.flatMap cellsOf) seen with | some _=>some (FX (fw A) y z) | none=>none)
     else bif pF al (t_ fresh st.hp vs) (vs.flatMap cellsOf) then some (FX (fw A) y z) else none
def cI:List Pm→Nat
 | []=>0
 | .io _ _::A=>1+cI A
 | .lend t::A=>t.rows+cI A
 | .val _::A=>cI A
 | .give _::A=>cI A
 | .fn _ _::A=>cI A
def nV:List Pm→Nat
 | []=>0
 | .io o t::A=>(bif o then t.rows else 0)+nV A
 | .give t::A=>t.rows+nV A
 | .val _::A=>nV A
 | .lend _::A=>nV A
 | .fn _ _::A=>nV A
def j5:(A:List Pm)→(tup (nA A)).d→(i j:Nat)→List AV
 | [],_,_,_=>[]
 | .val t::A,x,i,j=>ip t (inj true t x.1)::j5 A x.2 i j
 | .io o t::A,x,i,j => .ptr i 0 0::j5 A x.2 (i+1) (j+(bif o then t.rows else 0))
 | .lend t::A,x,i,j=>ip t (nj true t x.1 i)::j5 A x.2 (i+t.rows) j
 | .give t::A,x,i,j=>ip t (nj true t x.1 j)::j5 A x.2 i (j+t.rows)
 | .fn f n::A,x,i,j => .fn f ((j5 A x i j).take n)::(j5 A x i j).drop n
def kZ:(A:List Pm)→(tup (nA A)).d→(i j:Nat)→il
 | [],_,_,_=>[]
 | .val _::A,x,i,j=>kZ A x.2 i j
 | .io o t::A,x,i,j=>(i,.box (bif o then nj true t x.1 j else inj true t x.1))::((bif o then j4 true t x.1 j else [])++kZ A x.2 (i+1) (j+(bif o then t.rows else 0)))
 | .lend t::A,x,i,j=>j4 true t x.1 i++kZ A x.2 (i+t.rows) j
 | .give t::A,x,i,j=>j4 true t x.1 j++kZ A x.2 i (j+t.rows)
 | .fn _ _::A,x,i,j=>kZ A x i j
def Ki (E:dO) (rv:List ResultVar) (A:List Pm) (x:(tup (nA A)).d) (rs:List Ty) (fresh al:Bool):Ex→St→Option (tup (fw A++rs)).d
 | .normal,st=>EE E.tb rv A x rs fresh al st
 | .ret,st=>EE E.tb rv A x rs fresh al st
 | .exit _,_=>none
def Gb (hp:Hp):(rs:List Ty)→List AV→Option (tup rs).d
 | [.opq,t],[.ptr r 0 0]=>match hp r with
  | .box cs=>bif pF true (apply hp (freeze hp cs)) cs then (match prj (apply hp (freeze hp cs)) t cs with | some y=>some ((),(y,())) | none=>none) else none
  | _=>none
 | _,_=>none
def zY (tb:kp) (rv:List ResultVar) (A:List Pm) (x:(tup (nA A)).d) (rs:List Ty) (st:St):Option (tup (fw A++rs)).d :=
 match jo tb st rv with
 | none=>none
 | some vs=>match Gb st.hp rs vs with
  | none=>none
  | some z=>match ut st.hp A x 0 with
   | none=>none
   | some y=>some (FX (fw A) y z)
def Kl (E:dO) (rv:List ResultVar) (A:List Pm) (x:(tup (nA A)).d) (rs:List Ty):Ex→St→Option (tup (fw A++rs)).d
 | .normal,st=>zY E.tb rv A x rs st
 | .ret,st=>zY E.tb rv A x rs st
 | .exit _,_=>none
def body (f:Func):Code:=match f.body with | some c=>c | none => .refuse ""
def ED (A:List Pm) (ntmps:Nat) (x:(tup (nA A)).d):St :=
 ⟨j5 A x 0 (cI A)++List.replicate (ntmps-(j5 A x 0 (cI A)).length) .junk,apply nC (kZ A x 0 (cI A)),cI A+nV A⟩
def run (E:dO) (f:Func) (A:List Pm) (rs:List Ty) (fresh al:Bool) (x:(tup (nA A)).d):Option (tup (fw A++rs)).d :=
 bo E (body f) (ED A f.ntmps x) (Ki E f.results.toList A x rs fresh al)
def Je (E:dO) (f:Func) (A:List Pm) (rs:List Ty) (x:(tup (nA A)).d):Option (tup (fw A++rs)).d :=
 bo E (body f) (ED A f.ntmps x) (Kl E f.results.toList A x rs)
inductive Fr where
 | code (c:Code)
 | blk (id:Nat)
def cR {R:Type} (E:dO) (K0:Ex→St→Option R):List Fr→Ex→St→Option R
 | [],e,st=>K0 e st
 | .code c::ks,e,st=>match e with
  | .normal=>match look E.join (jt c) with
   | some live=>Gg (bo E c) (cR E K0 ks) E.fuel (ak E.g live st)
   | none=>bo E c st (cR E K0 ks)
  | .ret=>cR E K0 ks .ret st
  | .exit i=>cR E K0 ks (.exit i) st
 | .blk id::ks,e,st=>match e with
  | .normal=>cR E K0 ks .normal st
  | .ret=>cR E K0 ks .ret st
  | .exit i=>bif Nat.beq i id then cR E K0 ks .normal st else cR E K0 ks (.exit i) st
def at_:List Bool→Code→Code
 | [],c=>c
 | p::ps,.seq a b=>bif p then at_ ps b else at_ ps a
 | p::ps,.cond _ a b=>bif p then at_ ps b else at_ ps a
 | _::ps,.block _ c=>at_ ps c
 | _::ps,.loop c=>at_ ps c
 | _,c=>c
def mk (n nx:Nat) (l:List (Nat × AV)) (hp:List (Nat × oP)):St :=
 ⟨l.foldl (fun tm p=>tm.set p.1 p.2) (List.replicate n .junk),hp.foldl (fun h p=>jL h p.1 p.2) nC,nx⟩
def Wf:(u:Ty)→u.d→Prop
 | .int k,n=>(Lit.int k n).wf=true
 | .str,s=>s.size≤reachBytes
 | .slice e,l=>l.length*e.bytes≤reachBytes∧∀ x ∈ l,Wf e x
 | .pair a b,x=>Wf a x.1∧Wf b x.2
 | _,_=>True
end Go.V
