/- V: an executable, value-level reading of the model's code: definitions alone.
 Slices that are only read are lists;slices that a call owns,and boxed variables,are rows with numbers. -/
import Derived.Orders
import Derived.Below
import Derived.KernelRfl
import GoSem.ClaimJoined
namespace Go.V
inductive Ty where
 | bool | int (k:IntKind) | str | slice (e:Ty) | pair (a b:Ty) | unit | opq
 deriving DecidableEq,Inhabited
@[reducible] def Ty.d:Ty→Type
 | .bool=>Bool | .int _=>Int | .str=>ByteArray | .slice e=>List e.d
 | .pair a b=>a.d × b.d | .unit=>Unit | .opq=>Unit
def Ty.size:Ty→Nat
 | .pair a b=>a.size+b.size | .unit=>0 | _=>1
def Ty.rows:Ty→Nat
 | .pair a b=>a.rows+b.rows | .slice _=>1 | _=>0
def Ty.agg:Ty→Bool
 | .pair _ _ | .unit=>true | _=>false
def Ty.z:(t:Ty)→t.d
 | .bool=>false | .int _=>(0:Int) | .str=>ByteArray.empty | .slice _=>[]
 | .pair a b=>(a.z,b.z) | .unit=>() | .opq=>()
def tup:List Ty→Ty
 | [] => .unit
 | t::ts => .pair t (tup ts)
inductive AV where
 | junk
 | bool (b:Bool) | int (k:IntKind) (n:Int) | str (s:ByteArray)
 | nil (e:Ty)
 | sl (p:Bool) (e:Ty) (l:List e.d)
 | ref (r:Nat)
 | ptr (r i off:Nat)
 | sptr (p:Bool) (e:Ty) (l:List e.d) (i off:Nat)
 | agg (cs:List AV)
 | tup (vs:List AV)
 | fn (f:Nat) (caps:List AV)
inductive qP where
 | dead
 | box (cs:List AV)
 | own (p:Bool) (e:Ty) (l:List e.d)
 | fro (p:Bool) (e:Ty) (l:List e.d)
abbrev Hp:=Nat→qP
def pP:Hp:=fun _ => .dead
def kS (hp:Hp) (r:Nat) (x:qP):Hp:=fun n=>bif Nat.beq n r then x else hp n
abbrev jg:=List (Nat × qP)
def apply (hp:Hp):jg→Hp
 | []=>hp
 | u::us=>apply (kS hp u.1 u.2) us
structure St where
 tm:List AV
 hp:Hp
 nx:Nat          -- the next row's number
inductive Ex where
 | normal | ret | exit (id:Nat)
structure mJ where
 ty:List (Nat × Ty)
 off:List (Nat × List (Nat × Nat))      -- a struct type's fields: where they begin,how many cells they have
 eqs:List (Nat × List Ty):=[]         -- struct types whose values may be compared cell by cell: their cells' types
 fty:List (Nat × List Nat):=[]        -- a struct type's fields' types
 arr:List (Nat × Nat × Nat):=[]       -- array types: how many elements,of how many cells
def look {α:Type}:List (Nat × α)→Nat→Option α
 | [],_=>none
 | (k,x)::l,n=>bif Nat.beq k n then some x else look l n
inductive Pm where
 | val (t:Ty)
 | io (o:Bool) (f:Nat) (t:Ty)
 | lend (t:Ty)
 | give (t:Ty)
 | fn (f n:Nat)
def pC:List Pm→List Ty
 | []=>[]
 | .val t::A=>t::pC A
 | .io _ f t::A=>t::pC A
 | .lend t::A=>t::pC A
 | .give t::A=>t::pC A
 | .fn _ _::A=>pC A
def gk:List Pm→List Ty
 | []=>[]
 | .val _::A=>gk A
 | .io _ f t::A=>t::gk A
 | .lend t::A=>t::gk A
 | .give _::A=>gk A
 | .fn _ _::A=>gk A
def Dc {B:List Ty}:(A:List Ty)→(tup (A++B)).d→(tup A).d
 | [],_=>()
 | _::A,y=>(y.1,Dc A y.2)
def oj {B:List Ty}:(A:List Ty)→(tup (A++B)).d→(tup B).d
 | [],y=>y
 | _::A,y=>oj A y.2
def J5 {B:List Ty}:(A:List Ty)→(tup A).d→(tup B).d→(tup (A++B)).d
 | [],_,z=>z
 | _::A,y,z=>(y.1,J5 A y.2 z)
structure Cn where
 A:List Pm
 R:List Ty
 fresh:Bool
 al:Bool
 fn:(tup (pC A)).d→Option (tup (gk A++R)).d
def jr (l:List Nat) (n:Nat):Bool :=
 match l with
 | []=>false
 | m::l=>bif Nat.beq m n then true else jr l n
def AY (t e:Ty) (l:List t.d):Option (List e.d):=if h:t=e then some (h▸l) else none
def C0 (t e:Ty) (x:t.d):Option e.d:=if h:t=e then some (h▸x) else none
def inj (p:Bool):(t:Ty)→t.d→List AV
 | .bool,b=>[.bool b]
 | .int k,n=>[.int k n]
 | .str,s=>[.str s]
 | .slice e,l=>[.sl p e l]
 | .pair a b,x=>inj p a x.1++inj p b x.2
 | .unit,_=>[]
 | .opq,_=>[.junk]
def ji (t:Ty) (cs:List AV):AV :=
 match t with
 | .pair _ _ | .unit => .agg cs
 | _=>cs.headD .junk
def cellsOf:AV→List AV
 | .agg cs=>cs
 | x=>[x]
def cK:List AV→List Nat
 | []=>[]
 | .ref r::cs=>r::cK cs
 | .ptr r _ _::cs=>r::cK cs
 | _::cs=>cK cs
def nD:AV→Bool
 | .junk=>false
 | .tup _=>false
 | _=>true
def pZ (p:Bool):(t:Ty)→t.d→Nat→List AV
 | .slice _,_,id=>[.ref id]
 | .pair a b,x,id=>pZ p a x.1 id++pZ p b x.2 (id+a.rows)
 | t,x,_=>inj p t x
def CY (e:Ty):Bool:=Nat.blt 0 e.rows
def k8 (p:Bool):(t:Ty)→t.d→Nat→jg
 | .slice e,l,id=>[(id,.own (p&&CY e) e l)]
 | .pair a b,x,id=>k8 p a x.1 id++k8 p b x.2 (id+a.rows)
 | _,_,_=>[]
def getSl (hp:Hp) (e:Ty):AV→Option (List e.d)
 | .nil _=>some []
 | .sl _ t l=>AY t e l
 | .ref r=>match hp r with
  | .own _ t l=>AY t e l
  | .fro _ t l=>AY t e l
  | _=>none
 | _=>none
def uj:List AV→Option Bool
 | [.bool b]=>some b
 | _=>none
def A8 (k:IntKind):List AV→Option Int
 | [.int k' n]=>if k=k' then some n else none
 | _=>none
def zB:List AV→Option ByteArray
 | [.str s]=>some s
 | _=>none
def uU (hp:Hp) (e:Ty):List AV→Option (List e.d)
 | [a]=>getSl hp e a
 | _=>none
def v_:List AV→Option Unit
 | []=>some ()
 | _=>none
def uo {α β:Type}:Option α→Option β→Option (α × β)
 | some x,some y=>some (x,y)
 | _,_=>none
def prj (hp:Hp):(t:Ty)→List AV→Option t.d
 | .bool,cs=>uj cs
 | .int k,cs=>A8 k cs
 | .str,cs=>zB cs
 | .slice e,cs=>uU hp e cs
 | .pair a b,cs=>uo (prj hp a (cs.take a.size)) (prj hp b (cs.drop a.size))
 | .unit,cs=>v_ cs
 | .opq,_=>none
def taint1 (hp:Hp):AV→Bool
 | .sl p _ _=>p
 | .ref r=>match hp r with
  | .own p _ _=>p
  | .fro p _ _=>p
  | _=>true
 | .bool _ | .int _ _ | .str _ | .nil _=>false
 | _=>true
def taint (hp:Hp):List AV→Bool
 | []=>false
 | c::cs=>bif taint1 hp c then true else taint hp cs
def freeze (hp:Hp):List AV→jg
 | []=>[]
 | .ref r::cs=>match hp r with
  | .own p t l=>(r,.fro p t l)::freeze hp cs
  | .fro p t l=>(r,.fro p t l)::freeze hp cs
  | _=>freeze hp cs
 | _::cs=>freeze hp cs
def xZ (u:Ty):(t:Ty)→t.d→Nat→Option u.d
 | .pair a b,x,off =>
  if h:Ty.pair a b=u then (bif Nat.beq off 0 then some (h▸x) else none)
  else bif Nat.blt off a.size then xZ u a x.1 off else xZ u b x.2 (off-a.size)
 | t,x,off=>bif Nat.beq off 0 then C0 t u x else none
def nZ (u:Ty) (y:u.d):(t:Ty)→t.d→Nat→Option t.d
 | .pair a b,x,off =>
  if h:Ty.pair a b=u then (bif Nat.beq off 0 then some (h.symm▸y) else none)
  else bif Nat.blt off a.size then (match nZ u y a x.1 off with | some z=>some (z,x.2) | none=>none)
  else (match nZ u y b x.2 (off-a.size) with | some z=>some (x.1,z) | none=>none)
 | t,_,off=>bif Nat.beq off 0 then C0 u t y else none
def zero (t:Ty):List AV :=
 match t with
 | .bool=>[.bool false] | .int k=>[.int k 0] | .str=>[.str ByteArray.empty] | .slice e=>[.nil e]
 | .pair a b=>zero a++zero b | .unit=>[] | .opq=>[.junk]
def bytesOf (l:List Int):ByteArray:=⟨(l.map fun n=>UInt8.ofNat n.toNat).toArray⟩
def jC (s:ByteArray) (i:Int):Int:=((s.data.toList.getD i.toNat 0).toNat:Int)
def Ty.bytes:Ty→Nat
 | .bool=>1 | .int k=>k.bits/8 | .str=>16 | .slice _=>24
 | .pair a b=>(a.bytes+7)/8*8+b.bytes | .unit=>0 | .opq=>8
def room (b n:Nat):Bool:=decide (n*b≤140737488355328)&&decide (n≤140737488355328)
section
variable {R:Type}
def QM (tb:mJ) (t:Nat):Value→AV
 | .bool b => .bool b
 | .int k n => .int k n
 | .string s => .str s
 | .slice none 0 0=>match look tb.ty t with | some (.slice e) => .nil e | _ => .nil .opq
 | _ => .junk
def val (tb:mJ) (tm:List AV) (t:Nat):Operand→AV
 | .tmp i=>tm.getD i .junk
 | .const v=>QM tb t v
 | .func f => .fn f []
 | .global _ => .junk
def Dp (op:BinOp) (x y:Int):Option Bool :=
 match op with
 | .eql=>some (x==y) | .neq=>some (x != y)
 | .lss=>some (decide (x<y)) | .leq=>some (decide (x≤y)) | .gtr=>some (decide (x > y)) | .geq=>some (decide (x≥y))
 | _=>none
def wD:Ty→AV→AV→Option Bool
 | .bool,.bool a,.bool b=>some (a==b)
 | .int k,.int k1 a,.int k2 b=>if k1=k then if k2=k then some (a==b) else none else none
 | .str,.str a,.str b=>some (a.toList==b.toList)
 | _,_,_=>none
def lw:List Ty→List AV→List AV→Option Bool
 | [],[],[]=>some true
 | [t],[x],[y]=>wD t x y
 | t::ts,x::xs,y::ys=>match wD t x y,lw ts xs ys with
  | some c,some d=>some (c&&d)
  | _,_=>none
 | _,_,_=>none
def pH (bt:Bool) (eq:Option (List Ty)) (op:BinOp) (x y:AV) (k:AV→Option R):Option R :=
 match x,y with
 | .int ka a,.int kb b =>
  match op with
  | .shl=>bif decide (b<0) then none else k (.int ka (ka.wrap (a*2 ^ (min b.toNat ka.bits))))
  | .shr=>bif decide (b<0) then none else k (.int ka (a.fdiv (2 ^ (min b.toNat ka.bits))))
  | _ =>
  bif decide (ka≠kb) then none else
  match op with
  | .add=>k (.int ka (ka.wrap (a+b)))
  | .sub=>k (.int ka (ka.wrap (a-b)))
  | .mul=>k (.int ka (ka.wrap (a*b)))
  | .quo=>bif decide (b=0) then none else k (.int ka (ka.wrap (a.tdiv b)))
  | .rem=>bif decide (b=0) then none else k (.int ka (a.tmod b))
  | .and=>k (.int ka (ka.wrap (BitVec.ofInt ka.bits a &&& BitVec.ofInt ka.bits b).toNat))
  | .or=>k (.int ka (ka.wrap (BitVec.ofInt ka.bits a ||| BitVec.ofInt ka.bits b).toNat))
  | .xor=>k (.int ka (ka.wrap (BitVec.ofInt ka.bits a ^^^ BitVec.ofInt ka.bits b).toNat))
  | _=>match Dp op a b with | some c=>k (.bool c) | none=>none
 | .str a,.str b =>
  match op with
  | .add=>bif decide (((a.size+b.size:Nat):Int) > IntKind.i64.max) then none else k (.str (a++b))
  | .eql=>k (.bool (a.toList==b.toList))
  | .neq=>k (.bool (!(a.toList==b.toList)))
  | .lss=>k (.bool (Op.bytesLess a.toList b.toList))
  | .leq=>k (.bool (Op.bytesLess a.toList b.toList||a.toList==b.toList))
  | .gtr=>k (.bool (!(Op.bytesLess a.toList b.toList||a.toList==b.toList)))
  | .geq=>k (.bool (!(Op.bytesLess a.toList b.toList)))
  | _=>none
 | .bool a,.bool b =>
  bif bt then (match op with
   | .eql=>k (.bool (a==b))
   | .neq=>k (.bool (!(a==b)))
   | _=>none)
  else none
 | .agg a,.agg b =>
  match eq with
  | some tys=>(match op,lw tys a b with
   | .eql,some c=>k (.bool c)
   | .neq,some c=>k (.bool (!c))
   | _,_=>none)
  | none=>none
 | _,_=>none
def Cc:Option Ty→Bool
 | some .bool=>true
 | _=>false
def Ge (op:UnOp) (x:AV) (k:AV→Option R):Option R :=
 match op,x with
 | .not,.bool b=>k (.bool (!b))
 | .neg,.int ka n=>k (.int ka (ka.wrap (0-n)))
 | .xor,.int ka n=>k (.int ka (ka.wrap (BitVec.ofInt ka.bits (if ka.signed then -1 else ka.max) ^^^ BitVec.ofInt ka.bits n).toNat))
 | _,_=>none
def ld (hp:Hp) (t:Ty) (a:AV) (k:AV→Option R):Option R :=
 match a with
 | .ptr r i off=>match hp r with
  | .box cs=>bif Nat.ble (off+t.size) cs.length then k (ji t ((cs.drop off).take t.size)) else none
  | .own p e l=>match xZ t e (l.getD i e.z) off with
   | some x=>k (ji t (inj p t x))
   | none=>none
  | .fro p e l=>match xZ t e (l.getD i e.z) off with
   | some x=>k (ji t (inj p t x))
   | none=>none
  | _=>none
 | .sptr p e l i off=>match xZ t e (l.getD i e.z) off with
  | some x=>k (ji t (inj p t x))
  | none=>none
 | _=>none
def setCells:List AV→Nat→List AV→List AV
 | l,_,[]=>l
 | l,off,c::cs=>setCells (l.set off c) (off+1) cs
def lR (hp:Hp) (t:Ty) (a v:AV) (k:jg→Option R):Option R :=
 bif nD v&&Nat.beq (cellsOf v).length t.size then
  match a with
  | .ptr r i off=>match hp r with
   | .box cs=>bif Nat.ble (off+t.size) cs.length then k [(r,.box (setCells cs off (cellsOf v)))] else none
   | .own p e l=>bif jr (cK (cellsOf v)) r then none else match prj hp t (cellsOf v) with
    | some y=>match nZ t y e (l.getD i e.z) off with
     | some z=>k (freeze hp (cellsOf v)++[(r,.own (p||(CY e&&taint hp (cellsOf v))) e (l.set i z))])
     | none=>none
    | none=>none
   | _=>none
  | _=>none
 else none
def Bn (tb:mJ) (s f:Nat):Option Nat :=
 match look tb.off s with
 | some l=>match l[f]? with
  | some p=>some p.1
  | none=>none
 | none=>none
def DI (tb:mJ) (s f:Nat):Option Ty :=
 match look tb.fty s with
 | some l=>match l[f]? with
  | some t=>look tb.ty t
  | none=>none
 | none=>none
def u9 (a:AV) (n:Nat) (k:AV→Option R):Option R :=
 match a with
 | .ptr r i off=>k (.ptr r i (off+n))
 | .sptr p e l i off=>k (.sptr p e l i (off+n))
 | _=>none
def rX (tb:mJ) (t:Nat):Option Ty :=
 match look tb.ty t with | some (.slice e)=>some e | _=>none
def Qf (n:Int) (i:Nat):Bool:=decide (n=(i:Int))
def uS (k:Nat→Option R) (n:Int):Nat→Nat→Option R
 | 0,_=>none
 | m+1,i=>bif Qf n i then k i else uS k n m (i+1)
def indexAddr (tb:mJ) (hp:Hp) (t:Nat) (x i:AV) (k:AV→Option R):Option R :=
 match rX tb t,i with
 | some e,.int _ n =>
  match x with
  | .ref r=>match hp r with
   | .own _ t l=>bif decide (t=e) then (bif decide (0≤n) then (bif decide (n<(l.length:Int)) then k (.ptr r n.toNat 0) else none) else none) else none
   | .fro _ t l=>bif decide (t=e) then (bif decide (0≤n) then (bif decide (n<(l.length:Int)) then k (.ptr r n.toNat 0) else none) else none) else none
   | _=>none
  | .sl p t l=>bif decide (t=e) then (bif decide (0≤n) then (bif decide (n<(l.length:Int)) then k (.sptr p t l n.toNat 0) else none) else none) else none
  | _=>none
 | none,.int _ n=>match look tb.arr t,x with
  | some (m,sz),.ptr r j off=>uS (fun q=>k (.ptr r j (off+q*sz))) n m 0
  | _,_=>none
 | _,_=>none
def uQ {α:Type} (l:List α) (lo hi:Option AV) (k:List α→Option R):Option R :=
 match lo,hi with
 | none,none=>k l
 | none,some (.int _ h)=>bif decide (0≤h) then (bif decide (h≤(l.length:Int)) then k (l.take h.toNat) else none) else none
 | some (.int _ a),none=>bif decide (0≤a) then (bif decide (a≤(l.length:Int)) then k (l.drop a.toNat) else none) else none
 | some (.int _ a),some (.int _ h)=>bif decide (0≤a) then (bif decide (a≤h) then (bif decide (h≤(l.length:Int)) then k ((l.take h.toNat).drop a.toNat) else none) else none) else none
 | _,_=>none
def Ff (s:ByteArray) (lo hi:Option AV) (k:ByteArray→Option R):Option R :=
 match lo,hi with
 | none,none=>k s
 | none,some (.int _ h)=>bif decide (0≤h) then (bif decide (h≤(s.size:Int)) then k (s.extract 0 h.toNat) else none) else none
 | some (.int _ a),none=>bif decide (0≤a) then (bif decide (a≤(s.size:Int)) then k (s.extract a.toNat s.size) else none) else none
 | some (.int _ a),some (.int _ h)=>bif decide (0≤a) then (bif decide (a≤h) then (bif decide (h≤(s.size:Int)) then k (s.extract a.toNat h.toNat) else none) else none) else none
 | _,_=>none
def lO (u:Ty) (hp:Hp) (x:AV) (lo hi:Option AV) (k:AV→jg→Option R):Option R :=
 match u,x with
 | .str,.str s=>Ff s lo hi fun s'=>k (.str s') []
 | .slice _,.nil e=>uQ ([]:List Unit) lo hi fun _=>k (.nil e) []
 | .slice u,.sl p e l=>bif decide (u=e) then uQ l lo hi fun l'=>k (.sl p e l') [] else none
 | .slice u,.ref r=>match hp r with
  | .own p e l=>bif decide (u=e) then uQ l lo hi fun l'=>k (.sl p e l') [(r,.fro p e l)] else none
  | .fro p e l=>bif decide (u=e) then uQ l lo hi fun l'=>k (.sl p e l') [(r,.fro p e l)] else none
  | _=>none
 | _,_=>none
def lenOf (u:Ty) (hp:Hp) (x:AV) (k:AV→Option R):Option R :=
 match u,x with
 | .str,.str s=>k (.int .i64 (s.size:Int))
 | .slice _,.nil _=>k (.int .i64 0)
 | .slice _,.sl _ _ l=>k (.int .i64 (l.length:Int))
 | .slice _,.ref r=>match hp r with
  | .own _ _ l=>k (.int .i64 (l.length:Int))
  | .fro _ _ l=>k (.int .i64 (l.length:Int))
  | _=>none
 | _,_=>none
def lK (z:List AV) (offs:List (Nat × Nat)) (ρ:Operand→AV):List (Nat × Operand)→Option (List AV)
 | []=>some z
 | (f,x)::ps=>match offs[f]? with
  | some p=>bif nD (ρ x)&&Nat.beq (cellsOf (ρ x)).length p.2&&Nat.ble (p.1+p.2) z.length then lK (setCells z p.1 (cellsOf (ρ x))) offs ρ ps else none
  | none=>none
def elems (hp:Hp) (e:Ty) (ρ:Operand→AV):List (Nat × Operand)→List e.d→Bool→Option (List e.d × Bool)
 | [],l,b=>some (l,b)
 | (i,x)::ps,l,b=>match prj hp e (cellsOf (ρ x)) with
  | some y=>bif nD (ρ x)&&Nat.blt i l.length then elems hp e ρ ps (l.set i y) (b||(CY e&&taint hp (cellsOf (ρ x)))) else none
  | none=>none
def k7 (e:Ty) (hp:Hp) (id:Nat) (d s:AV) (k:AV→jg→Option R):Option R :=
 match getSl hp e s with
 | none=>none
 | some ls =>
  match d with
  | .nil _=>bif room e.bytes ls.length then k (.ref id) [(id,.own (CY e&&taint hp [s]) e ls)] else none
  | .ref r=>match hp r with
   | .own p t l=>match AY t e l with
    | some ld=>bif room e.bytes (ld.length+ls.length) then k (.ref id) [(r,.dead),(id,.own (p||(CY e&&taint hp [s])) e (ld++ls))] else none
    | none=>none
   | _=>none
  | _=>none
def BL (t:Ty):AV→Bool
 | .agg _=>t.agg
 | _=>!t.agg
def args (hp:Hp):(ts:List Ty)→List AV→Option (tup ts).d
 | [],[]=>some ()
 | t::ts,v::vs=>bif BL t v then uo (prj hp t (cellsOf v)) (args hp ts vs) else none
 | _,_=>none
def JN (fresh al:Bool):(ts:List Ty)→(tup ts).d→Nat→List AV
 | [],_,_=>[]
 | t::ts,x,id=>ji t (bif fresh then pZ false t x.1 id else inj al t x.1)::JN fresh al ts x.2 (bif fresh then id+t.rows else id)
def pT (fresh al:Bool) (ts:List Ty) (x:(tup ts).d) (id:Nat):jg:=bif fresh then k8 al (tup ts) x id else []
def one:List AV→AV
 | [v]=>v
 | vs => .tup vs
def lh (a:List Nat) (b:List Nat):Bool :=
 match a with
 | []=>true
 | m::a=>bif jr b m then false else lh a b
def eF (hp:Hp):List AV→Bool
 | []=>true
 | .ref r::cs=>(match hp r with | .own _ _ _=>true | _=>false)&&eF hp cs
 | .nil _::cs=>eF hp cs
 | .bool _::cs=>eF hp cs
 | .int _ _::cs=>eF hp cs
 | .str _::cs=>eF hp cs
 | _::_=>false
def gn:List Pm→List AV→Option (List AV)
 | [],as=>match as with
  | []=>some []
  | _::_=>none
 | p::A,as=>match as with
  | []=>none
  | v::vs=>match p with
   | .fn f n=>match v with
    | .fn f' cs=>bif Nat.beq f f'&&Nat.beq cs.length n then gn A (cs++vs) else none
    | _=>none
   | _=>match gn A vs with | some l=>some (v::l) | none=>none
def rJ (hp:Hp) (f:Nat):AV→Option (List AV)
 | .ptr r i off=>bif Nat.beq i 0&&Nat.beq off f then (match hp r with | .box cs=>some cs | _=>none) else none
 | _=>none
def eV (hp:Hp):(A:List Pm)→List AV→Option (tup (pC A)).d
 | [],_=>some ()
 | .val t::A,as=>match as with
  | v::vs=>bif BL t v then uo (prj hp t (cellsOf v)) (eV hp A vs) else none
  | []=>none
 | .io o f t::A,as=>match as with
  | v::vs=>match rJ hp f v with
   | some cs=>bif !o||eF hp cs then uo (prj hp t cs) (eV hp A vs) else none
   | none=>none
  | []=>none
 | .lend t::A,as=>match as with
  | v::vs=>bif BL t v&&eF hp (cellsOf v) then uo (prj hp t (cellsOf v)) (eV hp A vs) else none
  | []=>none
 | .give t::A,as=>match as with
  | v::vs=>bif BL t v&&eF hp (cellsOf v) then uo (prj hp t (cellsOf v)) (eV hp A vs) else none
  | []=>none
 | .fn _ _::A,as=>eV hp A as
def mn (hp:Hp):List Pm→List AV→List Nat
 | [],_=>[]
 | .val _::A,as=>mn hp A as.tail
 | .io o f _::A,as=>cK [as.headD .junk]++((bif o then cK ((rJ hp f (as.headD .junk)).getD []) else [])++mn hp A as.tail)
 | .lend _::A,as=>cK (cellsOf (as.headD .junk))++mn hp A as.tail
 | .give _::A,as=>cK (cellsOf (as.headD .junk))++mn hp A as.tail
 | .fn _ _::A,as=>mn hp A as
def rQ (hp:Hp):List Pm→List AV→List Nat
 | [],_=>[]
 | .val _::A,as=>cK (cellsOf (as.headD .junk))++rQ hp A as.tail
 | .io o f _::A,as=>(bif o then [] else cK ((rJ hp f (as.headD .junk)).getD []))++rQ hp A as.tail
 | .lend _::A,as=>rQ hp A as.tail
 | .give _::A,as=>rQ hp A as.tail
 | .fn _ _::A,as=>rQ hp A as
def FN:List Nat→Bool
 | []=>true
 | r::rs=>!jr rs r&&FN rs
def sN (l:List Nat):jg:=l.map fun r=>(r,.dead)
def ut (p:Bool) (e:Ty) (l:List e.d):List AV→jg
 | [.ref r]=>[(r,.own (p&&CY e) e l)]
 | _=>[]
def pB (p:Bool):(t:Ty)→t.d→List AV→jg
 | .slice e,l,cs=>ut p e l cs
 | .pair a b,x,cs=>pB p a x.1 (cs.take a.size)++pB p b x.2 (cs.drop a.size)
 | .bool,_,_=>[]
 | .int _,_,_=>[]
 | .str,_,_=>[]
 | .unit,_,_=>[]
 | .opq,_,_=>[]
def kW:AV→Nat
 | .ptr r _ _=>r
 | _=>0
def je (hp:Hp) (al:Bool):(A:List Pm)→List AV→(tup (gk A)).d→Nat→jg
 | [],_,_,_=>[]
 | .val _::A,as,y,id=>je hp al A as.tail y id
 | .io o f t::A,as,y,id=>bif o then sN (cK ((rJ hp f (as.headD .junk)).getD []))++((kW (as.headD .junk),.box (pZ false t y.1 id))::(k8 al t y.1 id++je hp al A as.tail y.2 (id+t.rows)))
  else (kW (as.headD .junk),.box (inj al t y.1))::je hp al A as.tail y.2 id
 | .lend t::A,as,y,id=>pB al t y.1 (cellsOf (as.headD .junk))++je hp al A as.tail y.2 id
 | .give _::A,as,y,id=>sN (cK (cellsOf (as.headD .junk)))++je hp al A as.tail y id
 | .fn _ _::A,as,y,id=>je hp al A as y id
def j8:List Pm→Nat
 | []=>0
 | .io o f t::A=>(bif o then t.rows else 0)+j8 A
 | .val _::A=>j8 A
 | .lend _::A=>j8 A
 | .give _::A=>j8 A
 | .fn _ _::A=>j8 A
def sT (c:Cn) (hp:Hp) (id:Nat) (as:List AV) (k:AV→jg→Nat→Option R):Option R :=
 match gn c.A as with
 | none=>none
 | some vs=>match eV hp c.A vs with
  | none=>none
  | some x=>bif FN (mn hp c.A vs)&&lh (rQ hp c.A vs) (mn hp c.A vs) then
   match c.fn x with
   | none=>none
   | some y=>k (one (JN c.fresh c.al c.R (oj (gk c.A) y) (id+j8 c.A)))
    ((bif c.al then freeze hp ((rQ hp c.A vs).map AV.ref) else [])++(je hp c.al c.A vs (Dc (gk c.A) y) id++pT c.fresh c.al c.R (oj (gk c.A) y) (id+j8 c.A)))
    (bif c.fresh then id+j8 c.A+(tup c.R).rows else id+j8 c.A)
   else none
def q_:List Ty→Bool
 | [.opq,_]=>true
 | _=>false
def vc:(rs:List Ty)→(tup rs).d→List AV
 | [.opq,t],y=>inj true t y.2.1
 | _,_=>[]
def Ai (c:Cn) (hp:Hp) (id:Nat) (as:List AV) (k:AV→jg→Nat→Option R):Option R :=
 match gn c.A as with
 | none=>none
 | some vs=>match eV hp c.A vs with
  | none=>none
  | some x=>bif (mn hp c.A vs).isEmpty then
   match c.fn x with
   | none=>none
   | some y=>k (.ptr id 0 0) (freeze hp ((rQ hp c.A vs).map AV.ref)++[(id,.box (vc c.R (oj (gk c.A) y)))]) (id+1)
   else none
def rT (c:Cn) (hp:Hp) (id:Nat) (as:List AV) (k:AV→jg→Nat→Option R):Option R :=
 bif q_ c.R then Ai c hp id as k else sT c hp id as k
def MG:List AV→Option AV
 | [.int k x,.int _ y]=>some (.int k (if y > x then y else x))
 | _=>none
def KN:List AV→Option AV
 | [.int k x,.int _ y]=>some (.int k (if y<x then y else x))
 | _=>none
def qE (tb:mJ) (ct:List (Nat × Cn)) (tm:List AV) (x:Operand) (vs:List AV):Option (Cn × List AV) :=
 match val tb tm 0 x with
 | .fn f cs=>match look ct f with
  | some c=>some (c,vs++cs)
  | none=>none
 | _=>none
def eU (tb:mJ) (ct:List (Nat × Cn)) (o:Oper) (tm:List AV) (hp:Hp) (id:Nat) (k:AV→jg→Nat→Option R):Option R :=
 match o.op with
 | .move x=>k (val tb tm o.type x) [] id
 | .assign x=>k (val tb tm o.type x) [] id
 | .pick c a b=>match val tb tm o.type c with
  | .bool x=>bif x then k (val tb tm o.type a) [] id else k (val tb tm o.type b) [] id
  | _=>none
 | .box t x=>match look tb.ty t with
  | some u=>bif nD (val tb tm t x)&&Nat.beq (cellsOf (val tb tm t x)).length u.size then k (.ptr id 0 0) [(id,.box (cellsOf (val tb tm t x)))] (id+1) else none
  | none=>none
 | .alloc t=>match look tb.ty t with | some u=>k (.ptr id 0 0) [(id,.box (zero u))] (id+1) | none=>none
 | .build t ps=>match look tb.ty t,look tb.off t with
  | some u,some offs=>match lK (zero u) offs (val tb tm 0) ps.toList with
   | some cs=>k (.agg cs) [] id
   | none=>none
  | _,_=>none
 | .buildSlice t n ps=>match rX tb t with
  | some e=>match elems hp e (val tb tm 0) ps.toList (List.replicate n e.z) false with
   | some (l,b)=>bif Nat.ble n 100000&&Nat.ble (n*e.size) 16777216 then k (.ref id) (freeze hp (ps.toList.flatMap fun p=>cellsOf (val tb tm 0 p.2))++[(id,.own b e l)]) (id+1) else none
   | none=>none
  | none=>none
 | .load t a=>match look tb.ty t with | some u=>ld hp u (val tb tm 0 a) fun v=>k v [] id | none=>none
 | .store t a v=>match look tb.ty t with | some u=>lR hp u (val tb tm 0 a) (val tb tm t v) fun us=>k .junk us id | none=>none
 | .nilCheck x=>match val tb tm 0 x with
  | .ptr r i f=>k (.ptr r i f) [] id
  | .sptr p e l i f=>k (.sptr p e l i f) [] id
  | _=>none
 | .binOp op t x y u=>pH (Cc (look tb.ty t)) (look tb.eqs t) op (val tb tm t x) (val tb tm u y) fun v=>k v [] id
 | .unOp op t x=>Ge op (val tb tm t x) fun v=>k v [] id
 | .convert s d x=>match look tb.ty d,look tb.ty s,val tb tm s x with
  | some (.int kd),some _,.int _ n=>k (.int kd (kd.wrap n)) [] id
  | some .str,some _,.str s=>k (.str s) [] id
  | some .str,some (.slice (.int .u8)),v=>match getSl hp (.int .u8) v with | some l=>k (.str (bytesOf l)) [] id | none=>none
  | _,_,_=>none
 | .makeSlice t l c=>match rX tb t,val tb tm 0 l,val tb tm 0 c with
  | some e,.int .i64 n,.int .i64 m=>bif decide (n=m) then (bif decide (0≤n) then (bif room e.bytes n.toNat then k (.ref id) [(id,.own false e (List.replicate n.toNat e.z))] (id+1) else none) else none) else none
  | _,_,_=>none
 | .slice t x lo hi none=>lO ((look tb.ty t).getD .opq) hp (val tb tm t x) (lo.map (val tb tm 0)) (hi.map (val tb tm 0)) fun v us=>k v us id
 | .fieldAddr s a f=>match Bn tb s f with | some n=>u9 (val tb tm 0 a) n fun v=>k v [] id | none=>none
 | .field s x f=>match Bn tb s f,val tb tm s x,DI tb s f with
  | some n,.agg cs,some u=>bif Nat.ble (n+u.size) cs.length then k (ji u ((cs.drop n).take u.size)) [] id else none
  | _,_,_=>none
 | .indexAddr t x i=>indexAddr tb hp t (val tb tm t x) (val tb tm 0 i) fun v=>k v [] id
 | .index t x i=>match look tb.ty t,val tb tm t x,val tb tm 0 i with
  | some .str,.str s,.int _ n=>bif decide (0≤n) then (bif decide (n<(s.size:Int)) then k (.int .u8 (jC s n)) [] id else none) else none
  | _,_,_=>none
 | .extract x i=>match val tb tm 0 x with
  | .tup vs=>match vs[i]? with
   | some v=>k v [] id
   | none=>none
  | _=>none
 | .makeFunc (.func f) first caps=>match first.toList with
  | []=>k (.fn f (caps.toList.map (val tb tm 0))) [] id
  | _=>none
 | .call c=>match c.callee with
  | .builtin .len=>match c.args.toList,c.argTypes.toList with
   | [x],[t]=>lenOf ((look tb.ty t).getD .opq) hp (val tb tm t x) fun v=>k v [] id
   | _,_=>none
  | .builtin .append=>match c.args.toList,c.argTypes.toList with
   | [d,s],[t,t']=>match rX tb t with
    | some e=>bif Nat.beq t t' then k7 e hp id (val tb tm t d) (val tb tm t s) fun v us=>k v us (id+1) else none
    | none=>none
   | _,_=>none
  | .builtin .max=>match MG (c.args.toList.map (val tb tm 0)) with | some v=>k v [] id | none=>none
  | .builtin .min=>match KN (c.args.toList.map (val tb tm 0)) with | some v=>k v [] id | none=>none
  | .value x=>match qE tb ct tm x (c.args.toList.map (val tb tm 0)) with
   | some q=>rT q.1 hp id q.2 k
   | none=>none
  | _=>none
 | _=>none
def nh (tm:List AV):Option Nat→AV→List AV
 | some d,v=>tm.set d v
 | none,_=>tm
def yB (all:List Oper) (o:Oper) (tm:List AV) (go by_:List AV→Option R):Option R :=
 match o.guard with
 | none=>go tm
 | some (j,want)=>match all[j]? with
  | some g=>match g.dst with
   | some d=>match tm.getD d .junk with
    | .bool b=>bif b then (bif want then go (tm.set d (.bool true)) else by_ (tm.set d (.bool true)))
     else (bif want then by_ (tm.set d (.bool false)) else go (tm.set d (.bool false)))
    | .tup []=>by_ tm
    | _=>none
   | none=>none
  | none=>none
def Q_ (tb:mJ) (ct:List (Nat × Cn)) (all:List Oper):List Oper→St→(St→Option R)→Option R
 | [],st,k=>k st
 | o::os,st,k=>yB all o st.tm
  (fun tm=>eU tb ct o tm st.hp st.nx fun v us nx=>Q_ tb ct all os ⟨nh tm o.dst v,apply st.hp us,nx⟩ k)
  (fun tm=>Q_ tb ct all os ⟨nh tm o.dst (.tup []),st.hp,st.nx⟩ k)
structure Pp where
 i:Nat
 us:jg
 rd:List Nat
def reads (tb:mJ) (ct:List (Nat × Cn)) (o:Oper) (tm:List AV) (hp:Hp):List Nat :=
 let v:=fun x=>cK (cellsOf (val tb tm 0 x))
 match o.op with
 | .load _ a=>v a
 | .store _ a x=>v a++v x
 | .indexAddr _ x _=>v x
 | .slice _ x _ _ _=>v x
 | .convert _ _ x=>v x
 | .buildSlice _ _ ps=>ps.toList.flatMap fun p=>v p.2
 | .call c=>c.args.toList.flatMap v++(match c.callee with
  | .value x=>match qE tb ct tm x (c.args.toList.map (val tb tm 0)) with
   | some q=>match gn q.1.A q.2 with
    | some vs=>mn hp q.1.A vs++rQ hp q.1.A vs
    | none=>[]
   | none=>[]
  | _=>[])
 | _=>[]
def Pl:List Nat→List Nat→List Nat
 | [],b=>b
 | x::a,b=>bif jr b x then Pl a b else x::Pl a b
def Jp (done:List (List Nat)):List Edge→List Nat
 | []=>[]
 | e::es=>bif Region.binds .any e then Pl (e.on::done.getD e.on []) (Jp done es) else Jp done es
def p_ (o:Oper) (done:List (List Nat)):List Nat:=Jp done o.after.toList
def kM:jg→List Nat
 | []=>[]
 | (_,.fro _ _ _)::us=>kM us
 | (r,_)::us=>r::kM us
def NA (a:List Nat) (us:jg) (rd:List Nat):List Pp→Bool
 | []=>true
 | r::rs=>bif (jr a r.i||(lh (kM us) r.rd&&lh (kM r.us) rd&&lh (us.map (·.1)) (kM r.us)&&lh (kM us) (r.us.map (·.1)))) then NA a us rd rs else false
def Cv:qP→qP
 | .own p e l => .fro p e l
 | x=>x
def turn (x y:qP):qP :=
 match x with
 | .fro _ _ _=>Cv y
 | x=>x
def applyF (hp:Hp):jg→Hp
 | []=>hp
 | u::us=>applyF (fun n=>bif Nat.beq n u.1 then turn u.2 (hp n) else hp n) us
def qZ (hp:Hp) (a:List Nat):List Pp→Hp
 | []=>hp
 | r::rs=>bif jr a r.i then applyF (qZ hp a rs) r.us else qZ hp a rs
def t8 (hp:Hp):List Pp→Hp
 | []=>hp
 | r::rs=>applyF (t8 hp rs) r.us
def H5 (tb:mJ) (ct:List (Nat × Cn)) (all:List Oper) (hp:Hp):List Oper→Nat→List (List Nat)→List Pp→List AV→Nat→(St→Option R)→Option R
 | [],_,_,rs,tm,nx,k=>k ⟨tm,t8 hp rs,nx⟩
 | o::os,i,done,rs,tm,nx,k=>yB all o tm
  (fun tm=>eU tb ct o tm (qZ hp (p_ o done) rs) nx fun v us nx' =>
   bif NA (p_ o done) us (reads tb ct o tm (qZ hp (p_ o done) rs)) rs then
    H5 tb ct all hp os (i+1) (done++[p_ o done]) (⟨i,us,reads tb ct o tm (qZ hp (p_ o done) rs)⟩::rs) (nh tm o.dst v) nx' k
   else none)
  (fun tm=>H5 tb ct all hp os (i+1) (done++[p_ o done]) rs (nh tm o.dst (.tup [])) nx k)
def named (all:List Oper) (o:Oper):List Nat :=
 (o.op.operands.toList.filterMap fun | .tmp t=>some t | _=>none) ++
 (match o.guard with
  | some (j,_)=>match all[j]? with | some g=>g.dst.toList | none=>[]
  | none=>[])
def Ep (all:List Oper):List Oper→Nat→List (List Nat)→Bool
 | [],_,_=>true
 | o::os,i,done =>
  bif (o.after.toList.all fun e=>!(Region.binds .any e)||Nat.blt e.on i) &&
   ((List.range i).all fun j=>jr (p_ o done) j||(match all[j]? with
     | some q=>lh (q.dst.toList++named all q) o.dst.toList&&lh q.dst.toList (named all o)
     | none=>false))
  then Ep all os (i+1) (done++[p_ o done]) else false
structure Cs where
 map:List (Nat × Nat)
 hp:Hp
 nx:Nat
mutual
def ju (hp:Hp):Nat→AV→Cs→AV × Cs
 | 0,_,c=>(.junk,c)
 | n+1,v,c =>
  match v with
  | .ref r=>match hp r with
   | .own p e l=>match look c.map r with
    | some r'=>(.ref r',c)
    | none=>(.ref c.nx,⟨(r,c.nx)::c.map,kS c.hp c.nx (.own p e l),c.nx+1⟩)
   | .fro p e l=>(.sl p e l,c)
   | _=>(.junk,c)
  | .nil e=>(.ref c.nx,⟨c.map,kS c.hp c.nx (.own false e []),c.nx+1⟩)
  | .ptr r i f=>match hp r with
   | .box cs=>match look c.map r with
    | some r'=>(.ptr r' i f,c)
    | none =>
     let u:=nG hp n cs ⟨(r,c.nx)::c.map,c.hp,c.nx+1⟩
     (.ptr c.nx i f,⟨u.2.map,kS u.2.hp c.nx (.box u.1),u.2.nx⟩)
   | .own p e l=>match look c.map r with
    | some r'=>(.ptr r' i f,c)
    | none=>(.ptr c.nx i f,⟨(r,c.nx)::c.map,kS c.hp c.nx (.own p e l),c.nx+1⟩)
   | .fro p e l=>(.sptr p e l i f,c)
   | .dead=>(.junk,c)
  | .agg cs=>let u:=nG hp n cs c;(.agg u.1,u.2)
  | .tup cs=>let u:=nG hp n cs c;(.tup u.1,u.2)
  | .fn f cs=>let u:=nG hp n cs c;(.fn f u.1,u.2)
  | v=>(v,c)
def nG (hp:Hp):Nat→List AV→Cs→List AV × Cs
 | 0,vs,c=>(vs.map fun _ => .junk,c)
 | _+1,[],c=>([],c)
 | n+1,v::vs,c =>
  let u:=ju hp n v c
  let w:=nG hp n vs u.2
  (u.1::w.1,w.2)
end
def keep (st:St):List Nat→List AV × Cs→List AV × Cs
 | [],x=>x
 | i::is,x =>
  let u:=ju st.hp 64 (st.tm.getD i .junk) x.2
  keep st is (x.1.set i u.1,u.2)
def xF (hp:Hp):List Nat→Cs→Cs
 | [],c=>c
 | i::is,c=>match hp i with
  | .box cs=>let u:=nG hp 64 cs c;xF hp is ⟨u.2.map,kS u.2.hp i (.box u.1),u.2.nx⟩
  | .own p e l=>xF hp is ⟨c.map,kS c.hp i (.own p e l),c.nx⟩
  | _=>xF hp is c
def bH (g:Nat) (live:List Nat) (st:St):St :=
 let u:=keep st live (List.replicate st.tm.length .junk,xF st.hp (List.range g) ⟨(List.range g).map fun i=>(i,i),pP,g⟩)
 ⟨u.1,u.2.hp,u.2.nx⟩
def bU (body:St→(Ex→St→Option R)→Option R) (cn:St→St) (K:Ex→St→Option R):Nat→St→Option R
 | 0,_=>none
 | n+1,st=>body st fun e st'=>match e with
  | .normal=>bU body cn K n (cn st')
  | .ret=>K .ret st'
  | .exit i=>K (.exit i) st'
def qC (body:St→(Ex→St→Option R)→Option R) (K:Ex→St→Option R):Nat→St→Option R
 | 0,_=>none
 | _+1,st=>body st K
def jI:Code→Nat
 | .region id _ _=>id
 | .seq a _=>jI a
 | .block _ c | .loop c | .scope c=>jI c
 | .cond _ a b=>1000000+1000*jI a+jI b
 | _=>0
structure jF where
 tb:mJ
 ct:List (Nat × Cn)
 live:List (Nat × List Nat)
 fuel:Nat
 g:Nat                              -- so many rows were given
 join:List (Nat × List Nat):=[]   -- where ways meet: what lives there
def cH (E:jF):Code→St→(Ex→St→Option R)→Option R
 | .skip,st,K=>K .normal st
 | .label _,st,K=>K .normal st
 | .ret,st,K=>K .ret st
 | .exit id,st,K=>K (.exit id) st
 | .region _ os draw,st,K=>bif draw then
  (bif Ep os.toList os.toList 0 [] then H5 E.tb E.ct os.toList st.hp os.toList 0 [] [] st.tm st.nx fun st'=>K .normal st' else none)
  else Q_ E.tb E.ct os.toList os.toList st fun st'=>K .normal st'
 | .seq a b,st,K=>cH E a st fun e st'=>match e with
  | .normal=>match look E.join (jI b) with
   | some live=>qC (cH E b) K E.fuel (bH E.g live st')
   | none=>cH E b st' K
  | .ret=>K .ret st'
  | .exit i=>K (.exit i) st'
 | .cond c a b,st,K=>match val E.tb st.tm 0 c with
  | .bool x=>bif x then cH E a st K else cH E b st K
  | _=>none
 | .block id c,st,K=>cH E c st fun e st'=>match e with
  | .normal=>K .normal st'
  | .ret=>K .ret st'
  | .exit i=>bif Nat.beq i id then K .normal st' else K (.exit i) st'
 | .loop c,st,K=>bU (cH E c) (bH E.g ((look E.live (jI c)).getD [])) K E.fuel (bH E.g ((look E.live (jI c)).getD []) st)
 | _,_,_=>none
end
def lE (tb:mJ) (st:St):List ResultVar→Option (List AV)
 | []=>some []
 | .tmp t::rs=>match lE tb st rs with | some l=>some (st.tm.getD t .junk::l) | none=>none
 | .cell a t::rs=>match look tb.ty t with
  | some u=>match ld st.hp u (st.tm.getD a .junk) some,lE tb st rs with
   | some v,some l=>some (v::l)
   | _,_=>none
  | none=>none
def gU (al:Bool) (hp:Hp):List AV→List Nat→Option (List Nat)
 | [],seen=>some seen
 | .ref r::cs,seen=>match hp r with
  | .own p _ _=>bif (p&&!al)||seen.contains r then none else gU al hp cs (r::seen)
  | _=>none
 | .bool _::cs,seen=>gU al hp cs seen
 | .int _ _::cs,seen=>gU al hp cs seen
 | .str _::cs,seen=>gU al hp cs seen
 | .nil _::cs,seen=>gU al hp cs seen
 | _::_,_=>none
def rO (al:Bool) (hp:Hp):List AV→Bool
 | []=>true
 | .ref r::cs=>(match hp r with | .fro p _ _=>al||!p | _=>false)&&rO al hp cs
 | .sl p _ _::cs=>(al||!p)&&rO al hp cs
 | .bool _::cs=>rO al hp cs
 | .int _ _::cs=>rO al hp cs
 | .str _::cs=>rO al hp cs
 | .nil _::cs=>rO al hp cs
 | _::_=>false
def xl (hp:Hp):(A:List Pm)→(tup (pC A)).d→Nat→Option (tup (gk A)).d
 | [],_,_=>some ()
 | .val _::A,x,i=>xl hp A x.2 i
 | .io _ f t::A,x,i=>match hp i with
  | .box cs=>uo (prj hp t cs) (xl hp A x.2 (i+1))
  | _=>none
 | .lend t::A,x,i=>uo (prj hp t (pZ true t x.1 i)) (xl hp A x.2 (i+t.rows))
 | .give _::A,x,i=>xl hp A x.2 i
 | .fn _ _::A,x,i=>xl hp A x i
def AU (al:Bool) (hp:Hp):(A:List Pm)→(tup (pC A)).d→Nat→List Nat→Option (List Nat)
 | [],_,_,seen=>some seen
 | .val _::A,x,i,seen=>AU al hp A x.2 i seen
 | .io o f _::A,x,i,seen=>match hp i with
  | .box cs=>bif o then (match gU al hp cs seen with | some seen'=>AU al hp A x.2 (i+1) seen' | none=>none)
   else bif rO al hp cs then AU al hp A x.2 (i+1) seen else none
  | _=>none
 | .lend t::A,x,i,seen=>match gU al hp (pZ true t x.1 i) seen with | some seen'=>AU al hp A x.2 (i+t.rows) seen' | none=>none
 | .give _::A,x,i,seen=>AU al hp A x.2 i seen
 | .fn _ _::A,x,i,seen=>AU al hp A x i seen
def uk (fresh:Bool) (hp:Hp) (vs:List AV):Hp:=bif fresh then hp else apply hp (freeze hp (vs.flatMap cellsOf))
def Hm (tb:mJ) (rv:List ResultVar) (A:List Pm) (x:(tup (pC A)).d) (rs:List Ty) (fresh al:Bool) (st:St):Option (tup (gk A++rs)).d :=
 match lE tb st rv with
 | none=>none
 | some vs=>match xl (uk fresh st.hp vs) A x 0 with
  | none=>none
  | some y=>match args (uk fresh st.hp vs) rs vs with
   | none=>none
   | some z=>match AU al (uk fresh st.hp vs) A x 0 [] with
    | none=>none
    | some seen=>bif fresh then (match gU al (uk fresh st.hp vs) (vs.flatMap cellsOf) seen with | some _=>some (J5 (gk A) y z) | none=>none)
     else bif rO al (uk fresh st.hp vs) (vs.flatMap cellsOf) then some (J5 (gk A) y z) else none
def cR:List Pm→Nat
 | []=>0
 | .io _ f _::A=>1+cR A
 | .lend t::A=>t.rows+cR A
 | .val _::A=>cR A
 | .give _::A=>cR A
 | .fn _ _::A=>cR A
def pj:List Pm→Nat
 | []=>0
 | .io o f t::A=>(bif o then t.rows else 0)+pj A
 | .give t::A=>t.rows+pj A
 | .val _::A=>pj A
 | .lend _::A=>pj A
 | .fn _ _::A=>pj A
def kU:(A:List Pm)→(tup (pC A)).d→(i j:Nat)→List AV
 | [],_,_,_=>[]
 | .val t::A,x,i,j=>ji t (inj true t x.1)::kU A x.2 i j
 | .io o f t::A,x,i,j => .ptr i 0 f::kU A x.2 (i+1) (j+(bif o then t.rows else 0))
 | .lend t::A,x,i,j=>ji t (pZ true t x.1 i)::kU A x.2 (i+t.rows) j
 | .give t::A,x,i,j=>ji t (pZ true t x.1 j)::kU A x.2 i (j+t.rows)
 | .fn f n::A,x,i,j => .fn f ((kU A x i j).take n)::(kU A x i j).drop n
def m7:(A:List Pm)→(tup (pC A)).d→(i j:Nat)→jg
 | [],_,_,_=>[]
 | .val _::A,x,i,j=>m7 A x.2 i j
 | .io o f t::A,x,i,j=>(i,.box (bif o then pZ true t x.1 j else inj true t x.1))::((bif o then k8 true t x.1 j else [])++m7 A x.2 (i+1) (j+(bif o then t.rows else 0)))
 | .lend t::A,x,i,j=>k8 true t x.1 i++m7 A x.2 (i+t.rows) j
 | .give t::A,x,i,j=>k8 true t x.1 j++m7 A x.2 i (j+t.rows)
 | .fn _ _::A,x,i,j=>m7 A x i j
def Q0 (E:jF) (rv:List ResultVar) (A:List Pm) (x:(tup (pC A)).d) (rs:List Ty) (fresh al:Bool):Ex→St→Option (tup (gk A++rs)).d
 | .normal,st=>Hm E.tb rv A x rs fresh al st
 | .ret,st=>Hm E.tb rv A x rs fresh al st
 | .exit _,_=>none
def Le (hp:Hp):(rs:List Ty)→List AV→Option (tup rs).d
 | [.opq,t],[.ptr r 0 0]=>match hp r with
  | .box cs=>bif rO true (apply hp (freeze hp cs)) cs then (match prj (apply hp (freeze hp cs)) t cs with | some y=>some ((),(y,())) | none=>none) else none
  | _=>none
 | _,_=>none
def Cj (tb:mJ) (rv:List ResultVar) (A:List Pm) (x:(tup (pC A)).d) (rs:List Ty) (st:St):Option (tup (gk A++rs)).d :=
 match lE tb st rv with
 | none=>none
 | some vs=>match Le st.hp rs vs with
  | none=>none
  | some z=>match xl st.hp A x 0 with
   | none=>none
   | some y=>some (J5 (gk A) y z)
def QJ (E:jF) (rv:List ResultVar) (A:List Pm) (x:(tup (pC A)).d) (rs:List Ty):Ex→St→Option (tup (gk A++rs)).d
 | .normal,st=>Cj E.tb rv A x rs st
 | .ret,st=>Cj E.tb rv A x rs st
 | .exit _,_=>none
def body (f:Func):Code:=match f.body with | some c=>c | none => .refuse ""
def start (A:List Pm) (ntmps:Nat) (x:(tup (pC A)).d):St :=
 ⟨kU A x 0 (cR A)++List.replicate (ntmps-(kU A x 0 (cR A)).length) .junk,apply pP (m7 A x 0 (cR A)),cR A+pj A⟩
def run (E:jF) (f:Func) (A:List Pm) (rs:List Ty) (fresh al:Bool) (x:(tup (pC A)).d):Option (tup (gk A++rs)).d :=
 cH E (body f) (start A f.ntmps x) (Q0 E f.results.toList A x rs fresh al)
def PN (E:jF) (f:Func) (A:List Pm) (rs:List Ty) (x:(tup (pC A)).d):Option (tup (gk A++rs)).d :=
 cH E (body f) (start A f.ntmps x) (QJ E f.results.toList A x rs)
inductive Fr where
 | code (c:Code)
 | blk (id:Nat)
def dG {R:Type} (E:jF) (K0:Ex→St→Option R):List Fr→Ex→St→Option R
 | [],e,st=>K0 e st
 | .code c::ks,e,st=>match e with
  | .normal=>match look E.join (jI c) with
   | some live=>qC (cH E c) (dG E K0 ks) E.fuel (bH E.g live st)
   | none=>cH E c st (dG E K0 ks)
  | .ret=>dG E K0 ks .ret st
  | .exit i=>dG E K0 ks (.exit i) st
 | .blk id::ks,e,st=>match e with
  | .normal=>dG E K0 ks .normal st
  | .ret=>dG E K0 ks .ret st
  | .exit i=>bif Nat.beq i id then dG E K0 ks .normal st else dG E K0 ks (.exit i) st
def at_:List Bool→Code→Code
 | [],c=>c
 | p::ps,.seq a b=>bif p then at_ ps b else at_ ps a
 | p::ps,.cond _ a b=>bif p then at_ ps b else at_ ps a
 | _::ps,.block _ c=>at_ ps c
 | _::ps,.loop c=>at_ ps c
 | _,c=>c
def mk (n nx:Nat) (l:List (Nat × AV)) (hp:List (Nat × qP)):St :=
 ⟨l.foldl (fun tm p=>tm.set p.1 p.2) (List.replicate n .junk),hp.foldl (fun h p=>kS h p.1 p.2) pP,nx⟩
def Wf:(u:Ty)→u.d→Prop
 | .int k,n=>(Lit.int k n).wf=true
 | .str,s=>s.size≤reachBytes
 | .slice e,l=>l.length*e.bytes≤reachBytes∧∀ x ∈ l,Wf e x
 | .pair a b,x=>Wf a x.1∧Wf b x.2
 | _,_=>True
end Go.V
