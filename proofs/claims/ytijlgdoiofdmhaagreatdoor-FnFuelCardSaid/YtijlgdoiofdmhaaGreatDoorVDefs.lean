/- V: an executable, value-level reading of the model's code: definitions alone.
 Slices that are only read are lists;slices that a call owns,and boxed variables,are rows with numbers. -/
import Derived.Orders
import Derived.Below
import Derived.KernelRfl
import GoSem.ClaimJoined
namespace Go.V
inductive Ty where
 | bool | int (k:IntKind) | str | slice (e:Ty) | pair (a b:Ty) | unit | opq
 deriving DecidableEq,Inhabited
@[reducible] def Ty.d:Ty→Type
 | .bool=>Bool | .int _=>Int | .str=>ByteArray | .slice e=>List e.d
 | .pair a b=>a.d × b.d | .unit=>Unit | .opq=>Unit
def Ty.size:Ty→Nat
 | .pair a b=>a.size+b.size | .unit=>0 | _=>1
def Ty.rows:Ty→Nat
 | .pair a b=>a.rows+b.rows | .slice _=>1 | _=>0
def Ty.agg:Ty→Bool
 | .pair _ _ | .unit=>true | _=>false
def Ty.z:(t:Ty)→t.d
 | .bool=>false | .int _=>(0:Int) | .str=>ByteArray.empty | .slice _=>[]
 | .pair a b=>(a.z,b.z) | .unit=>() | .opq=>()
def tup:List Ty→Ty
 | [] => .unit
 | t::ts => .pair t (tup ts)
inductive AV where
 | junk
 | bool (b:Bool) | int (k:IntKind) (n:Int) | str (s:ByteArray)
 | nil (e:Ty)
 | sl (p:Bool) (e:Ty) (l:List e.d)
 | ref (r:Nat)
 | ptr (r i off:Nat)
 | sptr (p:Bool) (e:Ty) (l:List e.d) (i off:Nat)
 | agg (cs:List AV)
 | tup (vs:List AV)
 | fn (f:Nat) (caps:List AV)
inductive rF where
 | dead
 | box (cs:List AV)
 | own (p:Bool) (e:Ty) (l:List e.d)
 | fro (p:Bool) (e:Ty) (l:List e.d)
abbrev Hp:=Nat→rF
def qD:Hp:=fun _ => .dead
def l_ (hp:Hp) (r:Nat) (x:rF):Hp:=fun n=>bif Nat.beq n r then x else hp n
abbrev kO:=List (Nat × rF)
def apply (hp:Hp):kO→Hp
 | []=>hp
 | u::us=>apply (l_ hp u.1 u.2) us
structure St where
 tm:List AV
 hp:Hp
 nx:Nat          -- the next row's number
inductive Ex where
 | normal | ret | exit (id:Nat)
structure mh where
 ty:List (Nat × Ty)
 off:List (Nat × List (Nat × Nat))      -- a struct type's fields: where they begin,how many cells they have
 eqs:List (Nat × List Ty):=[]         -- struct types whose values may be compared cell by cell: their cells' types
 fty:List (Nat × List Nat):=[]        -- a struct type's fields' types
 arr:List (Nat × Nat × Nat):=[]       -- array types: how many elements,of how many cells
def look {α:Type}:List (Nat × α)→Nat→Option α
 | [],_=>none
 | (k,x)::l,n=>bif Nat.beq k n then some x else look l n
inductive Pm where
 | val (t:Ty)
 | io (o:Bool) (f:Nat) (t:Ty)
 | lend (t:Ty)
 | give (t:Ty)
 | fn (f n:Nat)
def pn:List Pm→List Ty
 | []=>[]
 | .val t::A=>t::pn A
 | .io _ f t::A=>t::pn A
 | .lend t::A=>t::pn A
 | .give t::A=>t::pn A
 | .fn _ _::A=>pn A
def iG:List Pm→List Ty
 | []=>[]
 | .val _::A=>iG A
 | .io _ f t::A=>t::iG A
 | .lend t::A=>t::iG A
 | .give _::A=>iG A
 | .fn _ _::A=>iG A
def Dj {B:List Ty}:(A:List Ty)→(tup (A++B)).d→(tup A).d
 | [],_=>()
 | _::A,y=>(y.1,Dj A y.2)
def pg {B:List Ty}:(A:List Ty)→(tup (A++B)).d→(tup B).d
 | [],y=>y
 | _::A,y=>pg A y.2
def J4 {B:List Ty}:(A:List Ty)→(tup A).d→(tup B).d→(tup (A++B)).d
 | [],_,z=>z
 | _::A,y,z=>(y.1,J4 A y.2 z)
structure Cn where
 A:List Pm
 R:List Ty
 fresh:Bool
 al:Bool
 fn:(tup (pn A)).d→Option (tup (iG A++R)).d
def kW (l:List Nat) (n:Nat):Bool :=
 match l with
 | []=>false
 | m::l=>bif Nat.beq m n then true else kW l n
def zA (t e:Ty) (l:List t.d):Option (List e.d):=if h:t=e then some (h▸l) else none
def CC (t e:Ty) (x:t.d):Option e.d:=if h:t=e then some (h▸x) else none
def inj (p:Bool):(t:Ty)→t.d→List AV
 | .bool,b=>[.bool b]
 | .int k,n=>[.int k n]
 | .str,s=>[.str s]
 | .slice e,l=>[.sl p e l]
 | .pair a b,x=>inj p a x.1++inj p b x.2
 | .unit,_=>[]
 | .opq,_=>[.junk]
def kR (t:Ty) (cs:List AV):AV :=
 match t with
 | .pair _ _ | .unit => .agg cs
 | _=>cs.headD .junk
def cellsOf:AV→List AV
 | .agg cs=>cs
 | x=>[x]
def cN:List AV→List Nat
 | []=>[]
 | .ref r::cs=>r::cN cs
 | .ptr r _ _::cs=>r::cN cs
 | _::cs=>cN cs
def Ej:AV→Bool
 | .junk=>false
 | .tup _=>false
 | _=>true
def qf (p:Bool):(t:Ty)→t.d→Nat→List AV
 | .slice _,_,id=>[.ref id]
 | .pair a b,x,id=>qf p a x.1 id++qf p b x.2 (id+a.rows)
 | t,x,_=>inj p t x
def Dk (e:Ty):Bool:=Nat.blt 0 e.rows
def kg (p:Bool):(t:Ty)→t.d→Nat→kO
 | .slice e,l,id=>[(id,.own (p&&Dk e) e l)]
 | .pair a b,x,id=>kg p a x.1 id++kg p b x.2 (id+a.rows)
 | _,_,_=>[]
def getSl (hp:Hp) (e:Ty):AV→Option (List e.d)
 | .nil _=>some []
 | .sl _ t l=>zA t e l
 | .ref r=>match hp r with
  | .own _ t l=>zA t e l
  | .fro _ t l=>zA t e l
  | _=>none
 | _=>none
def w9:List AV→Option Bool
 | [.bool b]=>some b
 | _=>none
def zm (k:IntKind):List AV→Option Int
 | [.int k' n]=>if k=k' then some n else none
 | _=>none
def zQ:List AV→Option ByteArray
 | [.str s]=>some s
 | _=>none
def uj (hp:Hp) (e:Ty):List AV→Option (List e.d)
 | [a]=>getSl hp e a
 | _=>none
def w_:List AV→Option Unit
 | []=>some ()
 | _=>none
def vY {α β:Type}:Option α→Option β→Option (α × β)
 | some x,some y=>some (x,y)
 | _,_=>none
def prj (hp:Hp):(t:Ty)→List AV→Option t.d
 | .bool,cs=>w9 cs
 | .int k,cs=>zm k cs
 | .str,cs=>zQ cs
 | .slice e,cs=>uj hp e cs
 | .pair a b,cs=>vY (prj hp a (cs.take a.size)) (prj hp b (cs.drop a.size))
 | .unit,cs=>w_ cs
 | .opq,_=>none
def taint1 (hp:Hp):AV→Bool
 | .sl p _ _=>p
 | .ref r=>match hp r with
  | .own p _ _=>p
  | .fro p _ _=>p
  | _=>true
 | .bool _ | .int _ _ | .str _ | .nil _=>false
 | _=>true
def taint (hp:Hp):List AV→Bool
 | []=>false
 | c::cs=>bif taint1 hp c then true else taint hp cs
def freeze (hp:Hp):List AV→kO
 | []=>[]
 | .ref r::cs=>match hp r with
  | .own p t l=>(r,.fro p t l)::freeze hp cs
  | .fro p t l=>(r,.fro p t l)::freeze hp cs
  | _=>freeze hp cs
 | _::cs=>freeze hp cs
def xX (u:Ty):(t:Ty)→t.d→Nat→Option u.d
 | .pair a b,x,off =>
  if h:Ty.pair a b=u then (bif Nat.beq off 0 then some (h▸x) else none)
  else bif Nat.blt off a.size then xX u a x.1 off else xX u b x.2 (off-a.size)
 | t,x,off=>bif Nat.beq off 0 then CC t u x else none
def oQ (u:Ty) (y:u.d):(t:Ty)→t.d→Nat→Option t.d
 | .pair a b,x,off =>
  if h:Ty.pair a b=u then (bif Nat.beq off 0 then some (h.symm▸y) else none)
  else bif Nat.blt off a.size then (match oQ u y a x.1 off with | some z=>some (z,x.2) | none=>none)
  else (match oQ u y b x.2 (off-a.size) with | some z=>some (x.1,z) | none=>none)
 | t,_,off=>bif Nat.beq off 0 then CC u t y else none
def zero (t:Ty):List AV :=
 match t with
 | .bool=>[.bool false] | .int k=>[.int k 0] | .str=>[.str ByteArray.empty] | .slice e=>[.nil e]
 | .pair a b=>zero a++zero b | .unit=>[] | .opq=>[.junk]
def bytesOf (l:List Int):ByteArray:=⟨(l.map fun n=>UInt8.ofNat n.toNat).toArray⟩
def fG (s:ByteArray) (i:Int):Int:=((s.data.toList.getD i.toNat 0).toNat:Int)
def Ty.bytes:Ty→Nat
 | .bool=>1 | .int k=>k.bits/8 | .str=>16 | .slice _=>24
 | .pair a b=>(a.bytes+7)/8*8+b.bytes | .unit=>0 | .opq=>8
def B2 (b n:Nat):Bool:=decide (n*b≤140737488355328)&&decide (n≤140737488355328)
section
variable {R:Type}
def OL (tb:mh) (t:Nat):Value→AV
 | .bool b => .bool b
 | .int k n => .int k n
 | .string s => .str s
 | .slice none 0 0=>match look tb.ty t with | some (.slice e) => .nil e | _ => .nil .opq
 | _ => .junk
def val (tb:mh) (tm:List AV) (t:Nat):Operand→AV
 | .tmp i=>tm.getD i .junk
 | .const v=>OL tb t v
 | .func f => .fn f []
 | .global _ => .junk
def Cg (op:BinOp) (x y:Int):Option Bool :=
 match op with
 | .eql=>some (x==y) | .neq=>some (x != y)
 | .lss=>some (decide (x<y)) | .leq=>some (decide (x≤y)) | .gtr=>some (decide (x > y)) | .geq=>some (decide (x≥y))
 | _=>none
def wi:Ty→AV→AV→Option Bool
 | .bool,.bool a,.bool b=>some (a==b)
 | .int k,.int k1 a,.int k2 b=>if k1=k then if k2=k then some (a==b) else none else none
 | .str,.str a,.str b=>some (a.toList==b.toList)
 | _,_,_=>none
def mY:List Ty→List AV→List AV→Option Bool
 | [],[],[]=>some true
 | [t],[x],[y]=>wi t x y
 | t::ts,x::xs,y::ys=>match wi t x y,mY ts xs ys with
  | some c,some d=>some (c&&d)
  | _,_=>none
 | _,_,_=>none
def qK (bt:Bool) (eq:Option (List Ty)) (op:BinOp) (x y:AV) (k:AV→Option R):Option R :=
 match x,y with
 | .int ka a,.int kb b =>
  match op with
  | .shl=>bif decide (b<0) then none else k (.int ka (ka.wrap (a*2 ^ (min b.toNat ka.bits))))
  | .shr=>bif decide (b<0) then none else k (.int ka (a.fdiv (2 ^ (min b.toNat ka.bits))))
  | _ =>
  bif decide (ka≠kb) then none else
  match op with
  | .add=>k (.int ka (ka.wrap (a+b)))
  | .sub=>k (.int ka (ka.wrap (a-b)))
  | .mul=>k (.int ka (ka.wrap (a*b)))
  | .quo=>bif decide (b=0) then none else k (.int ka (ka.wrap (a.tdiv b)))
  | .rem=>bif decide (b=0) then none else k (.int ka (a.tmod b))
  | .and=>k (.int ka (ka.wrap (BitVec.ofInt ka.bits a &&& BitVec.ofInt ka.bits b).toNat))
  | .or=>k (.int ka (ka.wrap (BitVec.ofInt ka.bits a ||| BitVec.ofInt ka.bits b).toNat))
  | .xor=>k (.int ka (ka.wrap (BitVec.ofInt ka.bits a ^^^ BitVec.ofInt ka.bits b).toNat))
  | _=>match Cg op a b with | some c=>k (.bool c) | none=>none
 | .str a,.str b =>
  match op with
  | .add=>bif decide (((a.size+b.size:Nat):Int) > IntKind.i64.max) then none else k (.str (a++b))
  | .eql=>k (.bool (a.toList==b.toList))
  | .neq=>k (.bool (!(a.toList==b.toList)))
  | .lss=>k (.bool (Op.bytesLess a.toList b.toList))
  | .leq=>k (.bool (Op.bytesLess a.toList b.toList||a.toList==b.toList))
  | .gtr=>k (.bool (!(Op.bytesLess a.toList b.toList||a.toList==b.toList)))
  | .geq=>k (.bool (!(Op.bytesLess a.toList b.toList)))
  | _=>none
 | .bool a,.bool b =>
  bif bt then (match op with
   | .eql=>k (.bool (a==b))
   | .neq=>k (.bool (!(a==b)))
   | _=>none)
  else none
 | .agg a,.agg b =>
  match eq with
  | some tys=>(match op,mY tys a b with
   | .eql,some c=>k (.bool c)
   | .neq,some c=>k (.bool (!c))
   | _,_=>none)
  | none=>none
 | _,_=>none
def DF:Option Ty→Bool
 | some .bool=>true
 | _=>false
def HL (op:UnOp) (x:AV) (k:AV→Option R):Option R :=
 match op,x with
 | .not,.bool b=>k (.bool (!b))
 | .neg,.int ka n=>k (.int ka (ka.wrap (0-n)))
 | .xor,.int ka n=>k (.int ka (ka.wrap (BitVec.ofInt ka.bits (if ka.signed then -1 else ka.max) ^^^ BitVec.ofInt ka.bits n).toNat))
 | _,_=>none
def ld (hp:Hp) (t:Ty) (a:AV) (k:AV→Option R):Option R :=
 match a with
 | .ptr r i off=>match hp r with
  | .box cs=>bif Nat.ble (off+t.size) cs.length then k (kR t ((cs.drop off).take t.size)) else none
  | .own p e l=>match xX t e (l.getD i e.z) off with
   | some x=>k (kR t (inj p t x))
   | none=>none
  | .fro p e l=>match xX t e (l.getD i e.z) off with
   | some x=>k (kR t (inj p t x))
   | none=>none
  | _=>none
 | .sptr p e l i off=>match xX t e (l.getD i e.z) off with
  | some x=>k (kR t (inj p t x))
  | none=>none
 | _=>none
def setCells:List AV→Nat→List AV→List AV
 | l,_,[]=>l
 | l,off,c::cs=>setCells (l.set off c) (off+1) cs
def m_ (hp:Hp) (t:Ty) (a v:AV) (k:kO→Option R):Option R :=
 bif Ej v&&Nat.beq (cellsOf v).length t.size then
  match a with
  | .ptr r i off=>match hp r with
   | .box cs=>bif Nat.ble (off+t.size) cs.length then k [(r,.box (setCells cs off (cellsOf v)))] else none
   | .own p e l=>bif kW (cN (cellsOf v)) r then none else match prj hp t (cellsOf v) with
    | some y=>match oQ t y e (l.getD i e.z) off with
     | some z=>k (freeze hp (cellsOf v)++[(r,.own (p||(Dk e&&taint hp (cellsOf v))) e (l.set i z))])
     | none=>none
    | none=>none
   | _=>none
  | _=>none
 else none
def Bm (tb:mh) (s f:Nat):Option Nat :=
 match look tb.off s with
 | some l=>match l[f]? with
  | some p=>some p.1
  | none=>none
 | none=>none
def CQ (tb:mh) (s f:Nat):Option Ty :=
 match look tb.fty s with
 | some l=>match l[f]? with
  | some t=>look tb.ty t
  | none=>none
 | none=>none
def uk (a:AV) (n:Nat) (k:AV→Option R):Option R :=
 match a with
 | .ptr r i off=>k (.ptr r i (off+n))
 | .sptr p e l i off=>k (.sptr p e l i (off+n))
 | _=>none
def sW (tb:mh) (t:Nat):Option Ty :=
 match look tb.ty t with | some (.slice e)=>some e | _=>none
def OV (n:Int) (i:Nat):Bool:=decide (n=(i:Int))
def ug (k:Nat→Option R) (n:Int):Nat→Nat→Option R
 | 0,_=>none
 | m+1,i=>bif OV n i then k i else ug k n m (i+1)
def indexAddr (tb:mh) (hp:Hp) (t:Nat) (x i:AV) (k:AV→Option R):Option R :=
 match sW tb t,i with
 | some e,.int _ n =>
  match x with
  | .ref r=>match hp r with
   | .own _ t l=>bif decide (t=e) then (bif decide (0≤n) then (bif decide (n<(l.length:Int)) then k (.ptr r n.toNat 0) else none) else none) else none
   | .fro _ t l=>bif decide (t=e) then (bif decide (0≤n) then (bif decide (n<(l.length:Int)) then k (.ptr r n.toNat 0) else none) else none) else none
   | _=>none
  | .sl p t l=>bif decide (t=e) then (bif decide (0≤n) then (bif decide (n<(l.length:Int)) then k (.sptr p t l n.toNat 0) else none) else none) else none
  | _=>none
 | none,.int _ n=>match look tb.arr t,x with
  | some (m,sz),.ptr r j off=>ug (fun q=>k (.ptr r j (off+q*sz))) n m 0
  | _,_=>none
 | _,_=>none
def ut {α:Type} (l:List α) (lo hi:Option AV) (k:List α→Option R):Option R :=
 match lo,hi with
 | none,none=>k l
 | none,some (.int _ h)=>bif decide (0≤h) then (bif decide (h≤(l.length:Int)) then k (l.take h.toNat) else none) else none
 | some (.int _ a),none=>bif decide (0≤a) then (bif decide (a≤(l.length:Int)) then k (l.drop a.toNat) else none) else none
 | some (.int _ a),some (.int _ h)=>bif decide (0≤a) then (bif decide (a≤h) then (bif decide (h≤(l.length:Int)) then k ((l.take h.toNat).drop a.toNat) else none) else none) else none
 | _,_=>none
def Ep (s:ByteArray) (lo hi:Option AV) (k:ByteArray→Option R):Option R :=
 match lo,hi with
 | none,none=>k s
 | none,some (.int _ h)=>bif decide (0≤h) then (bif decide (h≤(s.size:Int)) then k (s.extract 0 h.toNat) else none) else none
 | some (.int _ a),none=>bif decide (0≤a) then (bif decide (a≤(s.size:Int)) then k (s.extract a.toNat s.size) else none) else none
 | some (.int _ a),some (.int _ h)=>bif decide (0≤a) then (bif decide (a≤h) then (bif decide (h≤(s.size:Int)) then k (s.extract a.toNat h.toNat) else none) else none) else none
 | _,_=>none
def ly (u:Ty) (hp:Hp) (x:AV) (lo hi:Option AV) (k:AV→kO→Option R):Option R :=
 match u,x with
 | .str,.str s=>Ep s lo hi fun s'=>k (.str s') []
 | .slice _,.nil e=>ut ([]:List Unit) lo hi fun _=>k (.nil e) []
 | .slice u,.sl p e l=>bif decide (u=e) then ut l lo hi fun l'=>k (.sl p e l') [] else none
 | .slice u,.ref r=>match hp r with
  | .own p e l=>bif decide (u=e) then ut l lo hi fun l'=>k (.sl p e l') [(r,.fro p e l)] else none
  | .fro p e l=>bif decide (u=e) then ut l lo hi fun l'=>k (.sl p e l') [(r,.fro p e l)] else none
  | _=>none
 | _,_=>none
def lenOf (u:Ty) (hp:Hp) (x:AV) (k:AV→Option R):Option R :=
 match u,x with
 | .str,.str s=>k (.int .i64 (s.size:Int))
 | .slice _,.nil _=>k (.int .i64 0)
 | .slice _,.sl _ _ l=>k (.int .i64 (l.length:Int))
 | .slice _,.ref r=>match hp r with
  | .own _ _ l=>k (.int .i64 (l.length:Int))
  | .fro _ _ l=>k (.int .i64 (l.length:Int))
  | _=>none
 | _,_=>none
def li (z:List AV) (offs:List (Nat × Nat)) (ρ:Operand→AV):List (Nat × Operand)→Option (List AV)
 | []=>some z
 | (f,x)::ps=>match offs[f]? with
  | some p=>bif Ej (ρ x)&&Nat.beq (cellsOf (ρ x)).length p.2&&Nat.ble (p.1+p.2) z.length then li (setCells z p.1 (cellsOf (ρ x))) offs ρ ps else none
  | none=>none
def elems (hp:Hp) (e:Ty) (ρ:Operand→AV):List (Nat × Operand)→List e.d→Bool→Option (List e.d × Bool)
 | [],l,b=>some (l,b)
 | (i,x)::ps,l,b=>match prj hp e (cellsOf (ρ x)) with
  | some y=>bif Ej (ρ x)&&Nat.blt i l.length then elems hp e ρ ps (l.set i y) (b||(Dk e&&taint hp (cellsOf (ρ x)))) else none
  | none=>none
def kh (e:Ty) (hp:Hp) (id:Nat) (d s:AV) (k:AV→kO→Option R):Option R :=
 match getSl hp e s with
 | none=>none
 | some ls =>
  match d with
  | .nil _=>bif B2 e.bytes ls.length then k (.ref id) [(id,.own (Dk e&&taint hp [s]) e ls)] else none
  | .ref r=>match hp r with
   | .own p t l=>match zA t e l with
    | some ld=>bif B2 e.bytes (ld.length+ls.length) then k (.ref id) [(r,.dead),(id,.own (p||(Dk e&&taint hp [s])) e (ld++ls))] else none
    | none=>none
   | _=>none
  | _=>none
def CJ (t:Ty):AV→Bool
 | .agg _=>t.agg
 | _=>!t.agg
def args (hp:Hp):(ts:List Ty)→List AV→Option (tup ts).d
 | [],[]=>some ()
 | t::ts,v::vs=>bif CJ t v then vY (prj hp t (cellsOf v)) (args hp ts vs) else none
 | _,_=>none
def JG (fresh al:Bool):(ts:List Ty)→(tup ts).d→Nat→List AV
 | [],_,_=>[]
 | t::ts,x,id=>kR t (bif fresh then qf false t x.1 id else inj al t x.1)::JG fresh al ts x.2 (bif fresh then id+t.rows else id)
def qJ (fresh al:Bool) (ts:List Ty) (x:(tup ts).d) (id:Nat):kO:=bif fresh then kg al (tup ts) x id else []
def one:List AV→AV
 | [v]=>v
 | vs => .tup vs
def mG (a:List Nat) (b:List Nat):Bool :=
 match a with
 | []=>true
 | m::a=>bif kW b m then false else mG a b
def fJ (hp:Hp):List AV→Bool
 | []=>true
 | .ref r::cs=>(match hp r with | .own _ _ _=>true | _=>false)&&fJ hp cs
 | .nil _::cs=>fJ hp cs
 | .bool _::cs=>fJ hp cs
 | .int _ _::cs=>fJ hp cs
 | .str _::cs=>fJ hp cs
 | _::_=>false
def iH:List Pm→List AV→Option (List AV)
 | [],as=>match as with
  | []=>some []
  | _::_=>none
 | p::A,as=>match as with
  | []=>none
  | v::vs=>match p with
   | .fn f n=>match v with
    | .fn f' cs=>bif Nat.beq f f'&&Nat.beq cs.length n then iH A (cs++vs) else none
    | _=>none
   | _=>match iH A vs with | some l=>some (v::l) | none=>none
def s_ (hp:Hp) (f:Nat):AV→Option (List AV)
 | .ptr r i off=>bif Nat.beq i 0&&Nat.beq off f then (match hp r with | .box cs=>some cs | _=>none) else none
 | _=>none
def fX (hp:Hp):(A:List Pm)→List AV→Option (tup (pn A)).d
 | [],_=>some ()
 | .val t::A,as=>match as with
  | v::vs=>bif CJ t v then vY (prj hp t (cellsOf v)) (fX hp A vs) else none
  | []=>none
 | .io o f t::A,as=>match as with
  | v::vs=>match s_ hp f v with
   | some cs=>bif !o||fJ hp cs then vY (prj hp t cs) (fX hp A vs) else none
   | none=>none
  | []=>none
 | .lend t::A,as=>match as with
  | v::vs=>bif CJ t v&&fJ hp (cellsOf v) then vY (prj hp t (cellsOf v)) (fX hp A vs) else none
  | []=>none
 | .give t::A,as=>match as with
  | v::vs=>bif CJ t v&&fJ hp (cellsOf v) then vY (prj hp t (cellsOf v)) (fX hp A vs) else none
  | []=>none
 | .fn _ _::A,as=>fX hp A as
def nY (hp:Hp):List Pm→List AV→List Nat
 | [],_=>[]
 | .val _::A,as=>nY hp A as.tail
 | .io o f _::A,as=>cN [as.headD .junk]++((bif o then cN ((s_ hp f (as.headD .junk)).getD []) else [])++nY hp A as.tail)
 | .lend _::A,as=>cN (cellsOf (as.headD .junk))++nY hp A as.tail
 | .give _::A,as=>cN (cellsOf (as.headD .junk))++nY hp A as.tail
 | .fn _ _::A,as=>nY hp A as
def sJ (hp:Hp):List Pm→List AV→List Nat
 | [],_=>[]
 | .val _::A,as=>cN (cellsOf (as.headD .junk))++sJ hp A as.tail
 | .io o f _::A,as=>(bif o then [] else cN ((s_ hp f (as.headD .junk)).getD []))++sJ hp A as.tail
 | .lend _::A,as=>sJ hp A as.tail
 | .give _::A,as=>sJ hp A as.tail
 | .fn _ _::A,as=>sJ hp A as
def FK:List Nat→Bool
 | []=>true
 | r::rs=>!kW rs r&&FK rs
def tP (l:List Nat):kO:=l.map fun r=>(r,.dead)
def w6 (p:Bool) (e:Ty) (l:List e.d):List AV→kO
 | [.ref r]=>[(r,.own (p&&Dk e) e l)]
 | _=>[]
def pm (p:Bool):(t:Ty)→t.d→List AV→kO
 | .slice e,l,cs=>w6 p e l cs
 | .pair a b,x,cs=>pm p a x.1 (cs.take a.size)++pm p b x.2 (cs.drop a.size)
 | .bool,_,_=>[]
 | .int _,_,_=>[]
 | .str,_,_=>[]
 | .unit,_,_=>[]
 | .opq,_,_=>[]
def lT:AV→Nat
 | .ptr r _ _=>r
 | _=>0
def kM (hp:Hp) (al:Bool):(A:List Pm)→List AV→(tup (iG A)).d→Nat→kO
 | [],_,_,_=>[]
 | .val _::A,as,y,id=>kM hp al A as.tail y id
 | .io o f t::A,as,y,id=>bif o then tP (cN ((s_ hp f (as.headD .junk)).getD []))++((lT (as.headD .junk),.box (qf false t y.1 id))::(kg al t y.1 id++kM hp al A as.tail y.2 (id+t.rows)))
  else (lT (as.headD .junk),.box (inj al t y.1))::kM hp al A as.tail y.2 id
 | .lend t::A,as,y,id=>pm al t y.1 (cellsOf (as.headD .junk))++kM hp al A as.tail y.2 id
 | .give _::A,as,y,id=>tP (cN (cellsOf (as.headD .junk)))++kM hp al A as.tail y id
 | .fn _ _::A,as,y,id=>kM hp al A as y id
def jo:List Pm→Nat
 | []=>0
 | .io o f t::A=>(bif o then t.rows else 0)+jo A
 | .val _::A=>jo A
 | .lend _::A=>jo A
 | .give _::A=>jo A
 | .fn _ _::A=>jo A
def tG (c:Cn) (hp:Hp) (id:Nat) (as:List AV) (k:AV→kO→Nat→Option R):Option R :=
 match iH c.A as with
 | none=>none
 | some vs=>match fX hp c.A vs with
  | none=>none
  | some x=>bif FK (nY hp c.A vs)&&mG (sJ hp c.A vs) (nY hp c.A vs) then
   match c.fn x with
   | none=>none
   | some y=>k (one (JG c.fresh c.al c.R (pg (iG c.A) y) (id+jo c.A)))
    ((bif c.al then freeze hp ((sJ hp c.A vs).map AV.ref) else [])++(kM hp c.al c.A vs (Dj (iG c.A) y) id++qJ c.fresh c.al c.R (pg (iG c.A) y) (id+jo c.A)))
    (bif c.fresh then id+jo c.A+(tup c.R).rows else id+jo c.A)
   else none
def rA:List Ty→Bool
 | [.opq,_]=>true
 | _=>false
def wV:(rs:List Ty)→(tup rs).d→List AV
 | [.opq,t],y=>inj true t y.2.1
 | _,_=>[]
def zc (c:Cn) (hp:Hp) (id:Nat) (as:List AV) (k:AV→kO→Nat→Option R):Option R :=
 match iH c.A as with
 | none=>none
 | some vs=>match fX hp c.A vs with
  | none=>none
  | some x=>bif (nY hp c.A vs).isEmpty then
   match c.fn x with
   | none=>none
   | some y=>k (.ptr id 0 0) (freeze hp ((sJ hp c.A vs).map AV.ref)++[(id,.box (wV c.R (pg (iG c.A) y)))]) (id+1)
   else none
def se (c:Cn) (hp:Hp) (id:Nat) (as:List AV) (k:AV→kO→Nat→Option R):Option R :=
 bif rA c.R then zc c hp id as k else tG c hp id as k
def Kb:List AV→Option AV
 | [.int k x,.int _ y]=>some (.int k (if y > x then y else x))
 | _=>none
def Ki:List AV→Option AV
 | [.int k x,.int _ y]=>some (.int k (if y<x then y else x))
 | _=>none
def Kq:List AV→Nat
 | []=>0
 | .ptr _ _ off::_=>off
 | _::vs=>Kq vs
def OE:List Pm→Nat
 | []=>0
 | .io _ f _::_=>f
 | _::A=>OE A
def qx (tb:mh) (ct:List (Nat × Cn)) (tm:List AV) (x:Operand) (vs:List AV):Option (Cn × List AV) :=
 match val tb tm 0 x with
 | .fn f cs=>bif Nat.blt f 100000 then (match look ct (f+100000*Kq (vs++cs)) with
  | some c=>some (c,vs++cs)
  | none=>none) else none
 | _=>none
def fW (tb:mh) (ct:List (Nat × Cn)) (o:Oper) (tm:List AV) (hp:Hp) (id:Nat) (k:AV→kO→Nat→Option R):Option R :=
 match o.op with
 | .move x=>k (val tb tm o.type x) [] id
 | .assign x=>k (val tb tm o.type x) [] id
 | .pick c a b=>match val tb tm o.type c with
  | .bool x=>bif x then k (val tb tm o.type a) [] id else k (val tb tm o.type b) [] id
  | _=>none
 | .box t x=>match look tb.ty t with
  | some u=>bif Ej (val tb tm t x)&&Nat.beq (cellsOf (val tb tm t x)).length u.size then k (.ptr id 0 0) [(id,.box (cellsOf (val tb tm t x)))] (id+1) else none
  | none=>none
 | .alloc t=>match look tb.ty t with | some u=>k (.ptr id 0 0) [(id,.box (zero u))] (id+1) | none=>none
 | .build t ps=>match look tb.ty t,look tb.off t with
  | some u,some offs=>match li (zero u) offs (val tb tm 0) ps.toList with
   | some cs=>k (.agg cs) [] id
   | none=>none
  | some u,none=>match look tb.arr t with
   | some _=>bif ps.toList.isEmpty then k (.agg (zero u)) [] id else none
   | none=>none
  | _,_=>none
 | .buildSlice t n ps=>match sW tb t with
  | some e=>match elems hp e (val tb tm 0) ps.toList (List.replicate n e.z) false with
   | some (l,b)=>bif Nat.ble n 100000&&Nat.ble (n*e.size) 16777216 then k (.ref id) (freeze hp (ps.toList.flatMap fun p=>cellsOf (val tb tm 0 p.2))++[(id,.own b e l)]) (id+1) else none
   | none=>none
  | none=>none
 | .load t a=>match look tb.ty t with | some u=>ld hp u (val tb tm 0 a) fun v=>k v [] id | none=>none
 | .store t a v=>match look tb.ty t with | some u=>m_ hp u (val tb tm 0 a) (val tb tm t v) fun us=>k .junk us id | none=>none
 | .nilCheck x=>match val tb tm 0 x with
  | .ptr r i f=>k (.ptr r i f) [] id
  | .sptr p e l i f=>k (.sptr p e l i f) [] id
  | _=>none
 | .binOp op t x y u=>qK (DF (look tb.ty t)) (look tb.eqs t) op (val tb tm t x) (val tb tm u y) fun v=>k v [] id
 | .unOp op t x=>HL op (val tb tm t x) fun v=>k v [] id
 | .convert s d x=>match look tb.ty d,look tb.ty s,val tb tm s x with
  | some (.int kd),some _,.int _ n=>k (.int kd (kd.wrap n)) [] id
  | some .str,some _,.str s=>k (.str s) [] id
  | some .str,some (.slice (.int .u8)),v=>match getSl hp (.int .u8) v with | some l=>k (.str (bytesOf l)) [] id | none=>none
  | _,_,_=>none
 | .makeSlice t l c=>match sW tb t,val tb tm 0 l,val tb tm 0 c with
  | some e,.int .i64 n,.int .i64 m=>bif decide (n=m) then (bif decide (0≤n) then (bif B2 e.bytes n.toNat then k (.ref id) [(id,.own false e (List.replicate n.toNat e.z))] (id+1) else none) else none) else none
  | _,_,_=>none
 | .slice t x lo hi none=>ly ((look tb.ty t).getD .opq) hp (val tb tm t x) (lo.map (val tb tm 0)) (hi.map (val tb tm 0)) fun v us=>k v us id
 | .fieldAddr s a f=>match Bm tb s f with | some n=>uk (val tb tm 0 a) n fun v=>k v [] id | none=>none
 | .field s x f=>match Bm tb s f,val tb tm s x,CQ tb s f with
  | some n,.agg cs,some u=>bif Nat.ble (n+u.size) cs.length then k (kR u ((cs.drop n).take u.size)) [] id else none
  | _,_,_=>none
 | .indexAddr t x i=>indexAddr tb hp t (val tb tm t x) (val tb tm 0 i) fun v=>k v [] id
 | .index t x i=>match look tb.ty t,val tb tm t x,val tb tm 0 i with
  | some .str,.str s,.int _ n=>bif decide (0≤n) then (bif decide (n<(s.size:Int)) then k (.int .u8 (fG s n)) [] id else none) else none
  | _,_,_=>none
 | .extract x i=>match val tb tm 0 x with
  | .tup vs=>match vs[i]? with
   | some v=>k v [] id
   | none=>none
  | _=>none
 | .makeFunc (.func f) first caps=>match first.toList with
  | []=>k (.fn f (caps.toList.map (val tb tm 0))) [] id
  | _=>none
 | .call c=>match c.callee with
  | .builtin .len=>match c.args.toList,c.argTypes.toList with
   | [x],[t]=>lenOf ((look tb.ty t).getD .opq) hp (val tb tm t x) fun v=>k v [] id
   | _,_=>none
  | .builtin .append=>match c.args.toList,c.argTypes.toList with
   | [d,s],[t,t']=>match sW tb t with
    | some e=>bif Nat.beq t t' then kh e hp id (val tb tm t d) (val tb tm t s) fun v us=>k v us (id+1) else none
    | none=>none
   | _,_=>none
  | .builtin .max=>match Kb (c.args.toList.map (val tb tm 0)) with | some v=>k v [] id | none=>none
  | .builtin .min=>match Ki (c.args.toList.map (val tb tm 0)) with | some v=>k v [] id | none=>none
  | .value x=>match qx tb ct tm x (c.args.toList.map (val tb tm 0)) with
   | some q=>se q.1 hp id q.2 k
   | none=>none
  | _=>none
 | _=>none
def oV (tm:List AV):Option Nat→AV→List AV
 | some d,v=>tm.set d v
 | none,_=>tm
def yL (all:List Oper) (o:Oper) (tm:List AV) (go by_:List AV→Option R):Option R :=
 match o.guard with
 | none=>go tm
 | some (j,want)=>match all[j]? with
  | some g=>match g.dst with
   | some d=>match tm.getD d .junk with
    | .bool b=>bif b then (bif want then go (tm.set d (.bool true)) else by_ (tm.set d (.bool true)))
     else (bif want then by_ (tm.set d (.bool false)) else go (tm.set d (.bool false)))
    | .tup []=>by_ tm
    | _=>none
   | none=>none
  | none=>none
def Nj (tb:mh) (ct:List (Nat × Cn)) (all:List Oper):List Oper→St→(St→Option R)→Option R
 | [],st,k=>k st
 | o::os,st,k=>yL all o st.tm
  (fun tm=>fW tb ct o tm st.hp st.nx fun v us nx=>Nj tb ct all os ⟨oV tm o.dst v,apply st.hp us,nx⟩ k)
  (fun tm=>Nj tb ct all os ⟨oV tm o.dst (.tup []),st.hp,st.nx⟩ k)
structure Nw where
 i:Nat
 us:kO
 rd:List Nat
def reads (tb:mh) (ct:List (Nat × Cn)) (o:Oper) (tm:List AV) (hp:Hp):List Nat :=
 let v:=fun x=>cN (cellsOf (val tb tm 0 x))
 match o.op with
 | .load _ a=>v a
 | .store _ a x=>v a++v x
 | .indexAddr _ x _=>v x
 | .slice _ x _ _ _=>v x
 | .convert _ _ x=>v x
 | .buildSlice _ _ ps=>ps.toList.flatMap fun p=>v p.2
 | .call c=>c.args.toList.flatMap v++(match c.callee with
  | .value x=>match qx tb ct tm x (c.args.toList.map (val tb tm 0)) with
   | some q=>match iH q.1.A q.2 with
    | some vs=>nY hp q.1.A vs++sJ hp q.1.A vs
    | none=>[]
   | none=>[]
  | _=>[])
 | _=>[]
def Nc:List Nat→List Nat→List Nat
 | [],b=>b
 | x::a,b=>bif kW b x then Nc a b else x::Nc a b
def Iv (done:List (List Nat)):List Edge→List Nat
 | []=>[]
 | e::es=>bif Region.binds .any e then Nc (e.on::done.getD e.on []) (Iv done es) else Iv done es
def po (o:Oper) (done:List (List Nat)):List Nat:=Iv done o.after.toList
def ku:kO→List Nat
 | []=>[]
 | (_,.fro _ _ _)::us=>ku us
 | (r,_)::us=>r::ku us
def M9 (a:List Nat) (us:kO) (rd:List Nat):List Nw→Bool
 | []=>true
 | r::rs=>bif (kW a r.i||(mG (ku us) r.rd&&mG (ku r.us) rd&&mG (us.map (·.1)) (ku r.us)&&mG (ku us) (r.us.map (·.1)))) then M9 a us rd rs else false
def Di:rF→rF
 | .own p e l => .fro p e l
 | x=>x
def turn (x y:rF):rF :=
 match x with
 | .fro _ _ _=>Di y
 | x=>x
def applyF (hp:Hp):kO→Hp
 | []=>hp
 | u::us=>applyF (fun n=>bif Nat.beq n u.1 then turn u.2 (hp n) else hp n) us
def rY (hp:Hp) (a:List Nat):List Nw→Hp
 | []=>hp
 | r::rs=>bif kW a r.i then applyF (rY hp a rs) r.us else rY hp a rs
def tg (hp:Hp):List Nw→Hp
 | []=>hp
 | r::rs=>applyF (tg hp rs) r.us
def GY (tb:mh) (ct:List (Nat × Cn)) (all:List Oper) (hp:Hp):List Oper→Nat→List (List Nat)→List Nw→List AV→Nat→(St→Option R)→Option R
 | [],_,_,rs,tm,nx,k=>k ⟨tm,tg hp rs,nx⟩
 | o::os,i,done,rs,tm,nx,k=>yL all o tm
  (fun tm=>fW tb ct o tm (rY hp (po o done) rs) nx fun v us nx' =>
   bif M9 (po o done) us (reads tb ct o tm (rY hp (po o done) rs)) rs then
    GY tb ct all hp os (i+1) (done++[po o done]) (⟨i,us,reads tb ct o tm (rY hp (po o done) rs)⟩::rs) (oV tm o.dst v) nx' k
   else none)
  (fun tm=>GY tb ct all hp os (i+1) (done++[po o done]) rs (oV tm o.dst (.tup [])) nx k)
def named (all:List Oper) (o:Oper):List Nat :=
 (o.op.operands.toList.filterMap fun | .tmp t=>some t | _=>none) ++
 (match o.guard with
  | some (j,_)=>match all[j]? with | some g=>g.dst.toList | none=>[]
  | none=>[])
def Fv (all:List Oper):List Oper→Nat→List (List Nat)→Bool
 | [],_,_=>true
 | o::os,i,done =>
  bif (o.after.toList.all fun e=>!(Region.binds .any e)||Nat.blt e.on i) &&
   ((List.range i).all fun j=>kW (po o done) j||(match all[j]? with
     | some q=>mG (q.dst.toList++named all q) o.dst.toList&&mG q.dst.toList (named all o)
     | none=>false))
  then Fv all os (i+1) (done++[po o done]) else false
structure Cs where
 map:List (Nat × Nat)
 hp:Hp
 nx:Nat
mutual
def ke (hp:Hp):Nat→AV→Cs→AV × Cs
 | 0,_,c=>(.junk,c)
 | n+1,v,c =>
  match v with
  | .ref r=>match hp r with
   | .own p e l=>match look c.map r with
    | some r'=>(.ref r',c)
    | none=>(.ref c.nx,⟨(r,c.nx)::c.map,l_ c.hp c.nx (.own p e l),c.nx+1⟩)
   | .fro p e l=>(.sl p e l,c)
   | _=>(.junk,c)
  | .nil e=>(.ref c.nx,⟨c.map,l_ c.hp c.nx (.own false e []),c.nx+1⟩)
  | .ptr r i f=>match hp r with
   | .box cs=>match look c.map r with
    | some r'=>(.ptr r' i f,c)
    | none =>
     let u:=o6 hp n cs ⟨(r,c.nx)::c.map,c.hp,c.nx+1⟩
     (.ptr c.nx i f,⟨u.2.map,l_ u.2.hp c.nx (.box u.1),u.2.nx⟩)
   | .own p e l=>match look c.map r with
    | some r'=>(.ptr r' i f,c)
    | none=>(.ptr c.nx i f,⟨(r,c.nx)::c.map,l_ c.hp c.nx (.own p e l),c.nx+1⟩)
   | .fro p e l=>(.sptr p e l i f,c)
   | .dead=>(.junk,c)
  | .agg cs=>let u:=o6 hp n cs c;(.agg u.1,u.2)
  | .tup cs=>let u:=o6 hp n cs c;(.tup u.1,u.2)
  | .fn f cs=>let u:=o6 hp n cs c;(.fn f u.1,u.2)
  | v=>(v,c)
def o6 (hp:Hp):Nat→List AV→Cs→List AV × Cs
 | 0,vs,c=>(vs.map fun _ => .junk,c)
 | _+1,[],c=>([],c)
 | n+1,v::vs,c =>
  let u:=ke hp n v c;let w:=o6 hp n vs u.2
  (u.1::w.1,w.2)
end
def vC (st:St):List Nat→List AV × Cs→List AV × Cs
 | [],x=>x
 | i::is,x =>
  let u:=ke st.hp 64 (st.tm.getD i .junk) x.2
  vC st is (x.1.set i u.1,u.2)
def xa (hp:Hp):List Nat→Cs→Cs
 | [],c=>c
 | i::is,c=>match hp i with
  | .box cs=>let u:=o6 hp 64 cs c;xa hp is ⟨u.2.map,l_ u.2.hp i (.box u.1),u.2.nx⟩
  | .own p e l=>xa hp is ⟨c.map,l_ c.hp i (.own p e l),c.nx⟩
  | _=>xa hp is c
def ae (g:Nat) (live:List Nat) (st:St):St :=
 let u:=vC st live (List.replicate st.tm.length .junk,xa st.hp (List.range g) ⟨(List.range g).map fun i=>(i,i),qD,g⟩)
 ⟨u.1,u.2.hp,u.2.nx⟩
def an (body:St→(Ex→St→Option R)→Option R) (cn:St→St) (K:Ex→St→Option R):Nat→St→Option R
 | 0,_=>none
 | n+1,st=>body st fun e st'=>match e with
  | .normal=>an body cn K n (cn st')
  | .ret=>K .ret st'
  | .exit i=>K (.exit i) st'
def LF (body:St→(Ex→St→Option R)→Option R) (K:Ex→St→Option R):Nat→St→Option R
 | 0,_=>none
 | _+1,st=>body st K
def k6:Code→Nat
 | .region id _ _=>id
 | .seq a _=>k6 a
 | .block _ c | .loop c | .scope c=>k6 c
 | .cond _ a b=>1000000+1000*k6 a+k6 b
 | _=>0
structure gq where
 tb:mh
 ct:List (Nat × Cn)
 live:List (Nat × List Nat)
 fuel:Nat
 g:Nat                              -- so many rows were given
 join:List (Nat × List Nat):=[]   -- where ways meet: what lives there
def bP (E:gq):Code→St→(Ex→St→Option R)→Option R
 | .skip,st,K=>K .normal st
 | .label _,st,K=>K .normal st
 | .ret,st,K=>K .ret st
 | .exit id,st,K=>K (.exit id) st
 | .region _ os draw,st,K=>bif draw then
  (bif Fv os.toList os.toList 0 [] then GY E.tb E.ct os.toList st.hp os.toList 0 [] [] st.tm st.nx fun st'=>K .normal st' else none)
  else Nj E.tb E.ct os.toList os.toList st fun st'=>K .normal st'
 | .seq a b,st,K=>bP E a st fun e st'=>match e with
  | .normal=>match look E.join (k6 b) with
   | some live=>LF (bP E b) K E.fuel (ae E.g live st')
   | none=>bP E b st' K
  | .ret=>K .ret st'
  | .exit i=>K (.exit i) st'
 | .cond c a b,st,K=>match val E.tb st.tm 0 c with
  | .bool x=>bif x then bP E a st K else bP E b st K
  | _=>none
 | .block id c,st,K=>bP E c st fun e st'=>match e with
  | .normal=>K .normal st'
  | .ret=>K .ret st'
  | .exit i=>bif Nat.beq i id then K .normal st' else K (.exit i) st'
 | .loop c,st,K=>an (bP E c) (ae E.g ((look E.live (k6 c)).getD [])) K E.fuel (ae E.g ((look E.live (k6 c)).getD []) st)
 | _,_,_=>none
end
def lf (tb:mh) (st:St):List ResultVar→Option (List AV)
 | []=>some []
 | .tmp t::rs=>match lf tb st rs with | some l=>some (st.tm.getD t .junk::l) | none=>none
 | .cell a t::rs=>match look tb.ty t with
  | some u=>match ld st.hp u (st.tm.getD a .junk) some,lf tb st rs with
   | some v,some l=>some (v::l)
   | _,_=>none
  | none=>none
def iB (al:Bool) (hp:Hp):List AV→List Nat→Option (List Nat)
 | [],seen=>some seen
 | .ref r::cs,seen=>match hp r with
  | .own p _ _=>bif (p&&!al)||seen.contains r then none else iB al hp cs (r::seen)
  | _=>none
 | .bool _::cs,seen=>iB al hp cs seen
 | .int _ _::cs,seen=>iB al hp cs seen
 | .str _::cs,seen=>iB al hp cs seen
 | .nil _::cs,seen=>iB al hp cs seen
 | _::_,_=>none
def sK (al:Bool) (hp:Hp):List AV→Bool
 | []=>true
 | .ref r::cs=>(match hp r with | .fro p _ _=>al||!p | _=>false)&&sK al hp cs
 | .sl p _ _::cs=>(al||!p)&&sK al hp cs
 | .bool _::cs=>sK al hp cs
 | .int _ _::cs=>sK al hp cs
 | .str _::cs=>sK al hp cs
 | .nil _::cs=>sK al hp cs
 | _::_=>false
def yH (hp:Hp):(A:List Pm)→(tup (pn A)).d→Nat→Option (tup (iG A)).d
 | [],_,_=>some ()
 | .val _::A,x,i=>yH hp A x.2 i
 | .io _ f t::A,x,i=>match hp i with
  | .box cs=>vY (prj hp t cs) (yH hp A x.2 (i+1))
  | _=>none
 | .lend t::A,x,i=>vY (prj hp t (qf true t x.1 i)) (yH hp A x.2 (i+t.rows))
 | .give _::A,x,i=>yH hp A x.2 i
 | .fn _ _::A,x,i=>yH hp A x i
def zE (al:Bool) (hp:Hp):(A:List Pm)→(tup (pn A)).d→Nat→List Nat→Option (List Nat)
 | [],_,_,seen=>some seen
 | .val _::A,x,i,seen=>zE al hp A x.2 i seen
 | .io o f _::A,x,i,seen=>match hp i with
  | .box cs=>bif o then (match iB al hp cs seen with | some seen'=>zE al hp A x.2 (i+1) seen' | none=>none)
   else bif sK al hp cs then zE al hp A x.2 (i+1) seen else none
  | _=>none
 | .lend t::A,x,i,seen=>match iB al hp (qf true t x.1 i) seen with | some seen'=>zE al hp A x.2 (i+t.rows) seen' | none=>none
 | .give _::A,x,i,seen=>zE al hp A x.2 i seen
 | .fn _ _::A,x,i,seen=>zE al hp A x i seen
def vo (fresh:Bool) (hp:Hp) (vs:List AV):Hp:=bif fresh then hp else apply hp (freeze hp (vs.flatMap cellsOf))
def Ha (tb:mh) (rv:List ResultVar) (A:List Pm) (x:(tup (pn A)).d) (rs:List Ty) (fresh al:Bool) (st:St):Option (tup (iG A++rs)).d :=
 match lf tb st rv with
 | none=>none
 | some vs=>match yH (vo fresh st.hp vs) A x 0 with
  | none=>none
  | some y=>match args (vo fresh st.hp vs) rs vs with
   | none=>none
   | some z=>match zE al (vo fresh st.hp vs) A x 0 [] with
    | none=>none
    | some seen=>bif fresh then (match iB al (vo fresh st.hp vs) (vs.flatMap cellsOf) seen with | some _=>some (J4 (iG A) y z) | none=>none)
     else bif sK al (vo fresh st.hp vs) (vs.flatMap cellsOf) then some (J4 (iG A) y z) else none
def cS:List Pm→Nat
 | []=>0
 | .io _ f _::A=>1+cS A
 | .lend t::A=>t.rows+cS A
 | .val _::A=>cS A
 | .give _::A=>cS A
 | .fn _ _::A=>cS A
def qM:List Pm→Nat
 | []=>0
 | .io o f t::A=>(bif o then t.rows else 0)+qM A
 | .give t::A=>t.rows+qM A
 | .val _::A=>qM A
 | .lend _::A=>qM A
 | .fn _ _::A=>qM A
def jl:(A:List Pm)→(tup (pn A)).d→(i j:Nat)→List AV
 | [],_,_,_=>[]
 | .val t::A,x,i,j=>kR t (inj true t x.1)::jl A x.2 i j
 | .io o f t::A,x,i,j => .ptr i 0 f::jl A x.2 (i+1) (j+(bif o then t.rows else 0))
 | .lend t::A,x,i,j=>kR t (qf true t x.1 i)::jl A x.2 (i+t.rows) j
 | .give t::A,x,i,j=>kR t (qf true t x.1 j)::jl A x.2 i (j+t.rows)
 | .fn f n::A,x,i,j => .fn f ((jl A x i j).take n)::(jl A x i j).drop n
def mb:(A:List Pm)→(tup (pn A)).d→(i j:Nat)→kO
 | [],_,_,_=>[]
 | .val _::A,x,i,j=>mb A x.2 i j
 | .io o f t::A,x,i,j=>(i,.box (bif o then qf true t x.1 j else inj true t x.1))::((bif o then kg true t x.1 j else [])++mb A x.2 (i+1) (j+(bif o then t.rows else 0)))
 | .lend t::A,x,i,j=>kg true t x.1 i++mb A x.2 (i+t.rows) j
 | .give t::A,x,i,j=>kg true t x.1 j++mb A x.2 i (j+t.rows)
 | .fn _ _::A,x,i,j=>mb A x i j
def O5 (E:gq) (rv:List ResultVar) (A:List Pm) (x:(tup (pn A)).d) (rs:List Ty) (fresh al:Bool):Ex→St→Option (tup (iG A++rs)).d
 | .normal,st=>Ha E.tb rv A x rs fresh al st
 | .ret,st=>Ha E.tb rv A x rs fresh al st
 | .exit _,_=>none
def KE (hp:Hp):(rs:List Ty)→List AV→Option (tup rs).d
 | [.opq,t],[.ptr r 0 0]=>match hp r with
  | .box cs=>bif sK true (apply hp (freeze hp cs)) cs then (match prj (apply hp (freeze hp cs)) t cs with | some y=>some ((),(y,())) | none=>none) else none
  | _=>none
 | _,_=>none
def CU (tb:mh) (rv:List ResultVar) (A:List Pm) (x:(tup (pn A)).d) (rs:List Ty) (st:St):Option (tup (iG A++rs)).d :=
 match lf tb st rv with
 | none=>none
 | some vs=>match KE st.hp rs vs with
  | none=>none
  | some z=>match yH st.hp A x 0 with
   | none=>none
   | some y=>some (J4 (iG A) y z)
def O0 (E:gq) (rv:List ResultVar) (A:List Pm) (x:(tup (pn A)).d) (rs:List Ty):Ex→St→Option (tup (iG A++rs)).d
 | .normal,st=>CU E.tb rv A x rs st
 | .ret,st=>CU E.tb rv A x rs st
 | .exit _,_=>none
def body (f:Func):Code:=match f.body with | some c=>c | none => .refuse ""
def start (A:List Pm) (ntmps:Nat) (x:(tup (pn A)).d):St :=
 ⟨jl A x 0 (cS A)++List.replicate (ntmps-(jl A x 0 (cS A)).length) .junk,apply qD (mb A x 0 (cS A)),cS A+qM A⟩
def run (E:gq) (f:Func) (A:List Pm) (rs:List Ty) (fresh al:Bool) (x:(tup (pn A)).d):Option (tup (iG A++rs)).d :=
 bP E (body f) (start A f.ntmps x) (O5 E f.results.toList A x rs fresh al)
def Mc (E:gq) (f:Func) (A:List Pm) (rs:List Ty) (x:(tup (pn A)).d):Option (tup (iG A++rs)).d :=
 bP E (body f) (start A f.ntmps x) (O0 E f.results.toList A x rs)
inductive Fr where
 | code (c:Code)
 | blk (id:Nat)
def bi {R:Type} (E:gq) (K0:Ex→St→Option R):List Fr→Ex→St→Option R
 | [],e,st=>K0 e st
 | .code c::ks,e,st=>match e with
  | .normal=>match look E.join (k6 c) with
   | some live=>LF (bP E c) (bi E K0 ks) E.fuel (ae E.g live st)
   | none=>bP E c st (bi E K0 ks)
  | .ret=>bi E K0 ks .ret st
  | .exit i=>bi E K0 ks (.exit i) st
 | .blk id::ks,e,st=>match e with
  | .normal=>bi E K0 ks .normal st
  | .ret=>bi E K0 ks .ret st
  | .exit i=>bif Nat.beq i id then bi E K0 ks .normal st else bi E K0 ks (.exit i) st
def at_:List Bool→Code→Code
 | [],c=>c
 | p::ps,.seq a b=>bif p then at_ ps b else at_ ps a
 | p::ps,.cond _ a b=>bif p then at_ ps b else at_ ps a
 | _::ps,.block _ c=>at_ ps c
 | _::ps,.loop c=>at_ ps c
 | _,c=>c
def mk (n nx:Nat) (l:List (Nat × AV)) (hp:List (Nat × rF)):St :=
 ⟨l.foldl (fun tm p=>tm.set p.1 p.2) (List.replicate n .junk),hp.foldl (fun h p=>l_ h p.1 p.2) qD,nx⟩
def Wf:(u:Ty)→u.d→Prop
 | .int k,n=>(Lit.int k n).wf=true
 | .str,s=>s.size≤reachBytes
 | .slice e,l=>l.length*e.bytes≤reachBytes∧∀ x ∈ l,Wf e x
 | .pair a b,x=>Wf a x.1∧Wf b x.2
 | _,_=>True
end Go.V
