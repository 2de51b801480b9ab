/- Functions keep their contracts. -/
import Derived.Test.YtejgkmhpmhfnbaaGreatDoorVTab
import Derived.Test.YtejgkmhpmhfnbaaGreatDoorFR
import Derived.Test.YtejgkmhpmhfnbaaGreatDoorCLib
set_option linter.unusedVariables false
set_option maxRecDepth 100000
namespace Go.Proofs.YtejgkmhpmhfnbaaGreatDoor.G
open Go.V
noncomputable section
namespace laws_szPair
def C (k:Nat):Cn:=⟨[.val TPair,.val (.int .i64)],[(.int .i64)],true,false,fun x=>f k x.1 x.2.1⟩
def E (k:Nat):Env:=en [] [] 0 [] k
theorem eq (k:Nat) (a0:Ty.den TPair) (a1:Int):rn (E k) Tryz.f68 (C k) (a0,a1,())=f k a0 a1:=by kernel_rfl
theorem ctr (k:Nat):Cp 68 (C k):=rc rfl [] (by kernel_rfl) Tryz.func68 (by kernel_rfl) rfl fun ⟨a0,a1,_⟩ r h=>(eq k a0 a1).trans h
end laws_szPair
namespace laws_szPairS
def C (k:Nat):Cn:=⟨[.val (.slice TPair),.val (.int .i64)],[(.int .i64)],true,false,fun x=>f k x.1 x.2.1⟩
def D (k:Nat):List Ce:=[q (laws_szPair.ctr k)]
def E (k:Nat):Env:=en (D k) [(5,[0,1,5])] 0 [] k
section
variable (k:Nat) (a0:List (Ty.den TPair)) (a1:Int)
def K0:Ex→St→Rs:=runK (E k) (eK (E k) Tryz.f30 (C k) (a0,a1,())) [.blk 0,.code (at_ (bt 4 15) (body Tryz.f30))]
def V0 (n0:Nat):T0:=fun x0 x1 x2=>loopN (exec (E k) (at_ (bt 7 23) (body Tryz.f30))) (canon 0 [0,1,5]) (K0 k a0 a1) n0 (mk 27 0 [(0,.sl true TPair x0),(1,.int .i64 x1),(5,.int .i64 x2)] [])
theorem s0 (n0:Nat):V0 k a0 a1 (n0+1)=b0 k (V0 k a0 a1 n0):=by kernel_rfl
theorem e0:V0 k a0 a1=l0 k:=loop_eq rfl (s0 k a0 a1) fun _=>rfl
end
theorem eq (k:Nat) (a0:List (Ty.den TPair)) (a1:Int):rn (E k) Tryz.f30 (C k) (a0,a1,())=f k a0 a1:=(show _=t k (V0 k a0 a1 k) a0 a1 by kernel_rfl).trans (by rw [e0];rfl)
theorem ctr (k:Nat):Cp 30 (C k):=rc rfl (D k) (by kernel_rfl) Tryz.func30 (by kernel_rfl) rfl fun ⟨a0,a1,_⟩ r h=>(eq k a0 a1).trans h
end laws_szPairS
namespace laws_toPair
def C (k:Nat):Cn:=⟨[.val TPair],[TPair],true,false,fun x=>f k x.1⟩
def E (k:Nat):Env:=en [] [] 0 [] k
theorem eq (k:Nat) (a0:Ty.den TPair):rn (E k) Tryz.f74 (C k) (a0,())=f k a0:=by kernel_rfl
theorem ctr (k:Nat):Cp 74 (C k):=rc rfl [] (by kernel_rfl) Tryz.func74 (by kernel_rfl) rfl fun ⟨a0,_⟩ r h=>(eq k a0).trans h
end laws_toPair
namespace laws_toPairS
def C (k:Nat):Cn:=⟨[.val (.slice TPair)],[(.slice TPair)],true,false,fun x=>f k x.1⟩
def D (k:Nat):List Ce:=[q (laws_toPair.ctr k)]
def E (k:Nat):Env:=en (D k) [(3,[0,3,4])] 0 [] k
section
variable (k:Nat) (a0:List (Ty.den TPair))
def K0:Ex→St→Rs:=runK (E k) (eK (E k) Tryz.f32 (C k) (a0,())) [.blk 0,.code (at_ (bt 3 7) (body Tryz.f32))]
def V0 (n0:Nat):T0:=fun x0 x1 x2=>loopN (exec (E k) (at_ (bt 6 11) (body Tryz.f32))) (canon 0 [0,3,4]) (K0 k a0) n0 (mk 23 1 [(0,.sl true TPair x0),(3,.ref 0),(4,.int .i64 x1)] [(0,.own false TPair x2)])
theorem s0 (n0:Nat):V0 k a0 (n0+1)=b0 k (V0 k a0 n0):=by kernel_rfl
theorem e0:V0 k a0=l0 k:=loop_eq rfl (s0 k a0) fun _=>rfl
end
theorem eq (k:Nat) (a0:List (Ty.den TPair)):rn (E k) Tryz.f32 (C k) (a0,())=f k a0:=(show _=t k (V0 k a0 k) a0 by kernel_rfl).trans (by rw [e0];rfl)
theorem ctr (k:Nat):Cp 32 (C k):=rc rfl (D k) (by kernel_rfl) Tryz.func32 (by kernel_rfl) rfl fun ⟨a0,_⟩ r h=>(eq k a0).trans h
end laws_toPairS
namespace spec_l1In
def C (k:Nat):Cn:=⟨[.val (.int .i64),.val (.int .i64),.val (.int .i64)],[.bool],true,false,fun x=>f k x.1 x.2.1 x.2.2.1⟩
def E (k:Nat):Env:=en [] [] 0 [] k
theorem eq (k:Nat) (a0:Int) (a1:Int) (a2:Int):rn (E k) Tryz.f69 (C k) (a0,a1,a2,())=f k a0 a1 a2:=by kernel_rfl
theorem ctr (k:Nat):Cp 69 (C k):=rc rfl [] (by kernel_rfl) Tryz.func69 (by kernel_rfl) rfl fun ⟨a0,a1,a2,_⟩ r h=>(eq k a0 a1 a2).trans h
end spec_l1In
namespace spec_KeyOk
def C (k:Nat):Cn:=⟨[.val .str],[.bool],true,false,fun x=>f k x.1⟩
def D (k:Nat):List Ce:=[q (spec_l1In.ctr k)]
def E (k:Nat):Env:=en (D k) [] 0 [] k
theorem eq (k:Nat) (a0:ByteArray):rn (E k) Tryz.f105 (C k) (a0,())=f k a0:=by kernel_rfl
theorem ctr (k:Nat):Cp 105 (C k):=rc rfl (D k) (by kernel_rfl) Tryz.func105 (by kernel_rfl) rfl fun ⟨a0,_⟩ r h=>(eq k a0).trans h
end spec_KeyOk
namespace spec_PairsOk
def C (k:Nat):Cn:=⟨[.val (.slice TPair)],[.bool],true,false,fun x=>f k x.1⟩
def D (k:Nat):List Ce:=[q (spec_KeyOk.ctr k),q (spec_l1In.ctr k)]
def E (k:Nat):Env:=en (D k) [(4,[0,3])] 0 [] k
section
variable (k:Nat) (a0:List (Ty.den TPair))
def K0:Ex→St→Rs:=runK (E k) (eK (E k) Tryz.f70 (C k) (a0,())) [.blk 0,.code (at_ (bt 3 7) (body Tryz.f70))]
def V0 (n0:Nat):T0:=fun x0 x1=>loopN (exec (E k) (at_ (bt 6 11) (body Tryz.f70))) (canon 0 [0,3]) (K0 k a0) n0 (mk 56 0 [(0,.sl true TPair x0),(3,.int .i64 x1)] [])
theorem s0 (n0:Nat):V0 k a0 (n0+1)=b0 k (V0 k a0 n0):=by kernel_rfl
theorem e0:V0 k a0=l0 k:=loop_eq rfl (s0 k a0) fun _=>rfl
end
theorem eq (k:Nat) (a0:List (Ty.den TPair)):rn (E k) Tryz.f70 (C k) (a0,())=f k a0:=(show _=t k (V0 k a0 k) a0 by kernel_rfl).trans (by rw [e0];rfl)
theorem ctr (k:Nat):Cp 70 (C k):=rc rfl (D k) (by kernel_rfl) Tryz.func70 (by kernel_rfl) rfl fun ⟨a0,_⟩ r h=>(eq k a0).trans h
end spec_PairsOk
namespace spec_DiskNew
def C (k:Nat):Cn:=⟨[.val (.int .i64)],[TDisk],true,false,fun x=>f k x.1⟩
def D (k:Nat):List Ce:=[q (spec_l1In.ctr k)]
def E (k:Nat):Env:=en (D k) [] 0 [] k
theorem eq (k:Nat) (a0:Int):rn (E k) Tryz.f72 (C k) (a0,())=f k a0:=by kernel_rfl
theorem ctr (k:Nat):Cp 72 (C k):=rc rfl (D k) (by kernel_rfl) Tryz.func72 (by kernel_rfl) rfl fun ⟨a0,_⟩ r h=>(eq k a0).trans h
end spec_DiskNew
namespace spec_l3Used
def C (k:Nat):Cn:=⟨[.val TDisk],[(.int .i64)],true,false,fun x=>f k x.1⟩
def E (k:Nat):Env:=en [] [(3,[1,3,4])] 0 [] k
section
variable (k:Nat) (a0:Ty.den TDisk)
def K0:Ex→St→Rs:=runK (E k) (eK (E k) Tryz.f140 (C k) (a0,())) [.blk 0,.code (at_ (bt 3 7) (body Tryz.f140))]
def V0 (n0:Nat):T0:=fun x0 x1 x2 x3 x4 x5=>loopN (exec (E k) (at_ (bt 6 11) (body Tryz.f140))) (canon 0 [1,3,4]) (K0 k a0) n0 (mk 22 1 [(1,.ptr 0 0 0),(3,.int .i64 x0),(4,.int .i64 x1)] [(0,.box [.sl true TPair x2,.int .i64 x3,.int .i64 x4,.bool x5])])
theorem s0 (n0:Nat):V0 k a0 (n0+1)=b0 k (V0 k a0 n0):=by kernel_rfl
theorem e0:V0 k a0=l0 k:=loop_eq rfl (s0 k a0) fun _=>rfl
end
theorem eq (k:Nat) (a0:Ty.den TDisk):rn (E k) Tryz.f140 (C k) (a0,())=f k a0:=(show _=t k (V0 k a0 k) a0 by kernel_rfl).trans (by rw [e0];rfl)
theorem ctr (k:Nat):Cp 140 (C k):=rc rfl [] (by kernel_rfl) Tryz.func140 (by kernel_rfl) rfl fun ⟨a0,_⟩ r h=>(eq k a0).trans h
end spec_l3Used
namespace spec_NameOk
def C (k:Nat):Cn:=⟨[.val .str],[.bool],true,false,fun x=>f k x.1⟩
def D (k:Nat):List Ce:=[q (spec_l1In.ctr k)]
def E (k:Nat):Env:=en (D k) [(2,[0,3])] 0 [] k
section
variable (k:Nat) (a0:ByteArray)
def K0:Ex→St→Rs:=runK (E k) (eK (E k) Tryz.f141 (C k) (a0,())) [.blk 0,.code (at_ (bt 2 3) (body Tryz.f141))]
def V0 (n0:Nat):T0:=fun x0 x1=>loopN (exec (E k) (at_ (bt 5 5) (body Tryz.f141))) (canon 0 [0,3]) (K0 k a0) n0 (mk 36 0 [(0,.str x0),(3,.int .i64 x1)] [])
theorem s0 (n0:Nat):V0 k a0 (n0+1)=b0 k (V0 k a0 n0):=by kernel_rfl
theorem e0:V0 k a0=l0 k:=loop_eq rfl (s0 k a0) fun _=>rfl
end
theorem eq (k:Nat) (a0:ByteArray):rn (E k) Tryz.f141 (C k) (a0,())=f k a0:=(show _=t k (V0 k a0 k) a0 by kernel_rfl).trans (by rw [e0];rfl)
theorem ctr (k:Nat):Cp 141 (C k):=rc rfl (D k) (by kernel_rfl) Tryz.func141 (by kernel_rfl) rfl fun ⟨a0,_⟩ r h=>(eq k a0).trans h
end spec_NameOk
namespace spec_DiskOk
def C (k:Nat):Cn:=⟨[.val TDisk],[.bool],true,false,fun x=>f k x.1⟩
def D (k:Nat):List Ce:=[q (spec_l1In.ctr k),q (spec_l3Used.ctr k),q (spec_NameOk.ctr k)]
def E (k:Nat):Env:=en (D k) [(4,[1,3])] 0 [] k
section
variable (k:Nat) (a0:Ty.den TDisk)
def K0:Ex→St→Rs:=runK (E k) (eK (E k) Tryz.f100 (C k) (a0,())) [.blk 0,.code (at_ (bt 3 7) (body Tryz.f100))]
def V0 (n0:Nat):T0:=fun x0 x1 x2 x3 x4=>loopN (exec (E k) (at_ (bt 6 11) (body Tryz.f100))) (canon 0 [1,3]) (K0 k a0) n0 (mk 79 1 [(1,.ptr 0 0 0),(3,.int .i64 x0)] [(0,.box [.sl true TPair x1,.int .i64 x2,.int .i64 x3,.bool x4])])
theorem s0 (n0:Nat):V0 k a0 (n0+1)=b0 k (V0 k a0 n0):=by kernel_rfl
theorem e0:V0 k a0=l0 k:=loop_eq rfl (s0 k a0) fun _=>rfl
end
theorem eq (k:Nat) (a0:Ty.den TDisk):rn (E k) Tryz.f100 (C k) (a0,())=f k a0:=(show _=t k (V0 k a0 k) a0 by kernel_rfl).trans (by rw [e0];rfl)
theorem ctr (k:Nat):Cp 100 (C k):=rc rfl (D k) (by kernel_rfl) Tryz.func100 (by kernel_rfl) rfl fun ⟨a0,_⟩ r h=>(eq k a0).trans h
end spec_DiskOk
namespace spec_l3Copy
def C (k:Nat):Cn:=⟨[.val TDisk],[TDisk],true,false,fun x=>f k x.1⟩
def E (k:Nat):Env:=en [] [] 0 [] k
theorem eq (k:Nat) (a0:Ty.den TDisk):rn (E k) Tryz.f99 (C k) (a0,())=f k a0:=by kernel_rfl
theorem ctr (k:Nat):Cp 99 (C k):=rc rfl [] (by kernel_rfl) Tryz.func99 (by kernel_rfl) rfl fun ⟨a0,_⟩ r h=>(eq k a0).trans h
end spec_l3Copy
namespace spec_l3Find
def C (k:Nat):Cn:=⟨[.val TDisk,.val .str],[(.int .i64)],true,false,fun x=>f k x.1 x.2.1⟩
def E (k:Nat):Env:=en [] [(2,[1,2,5])] 0 [] k
section
variable (k:Nat) (a0:Ty.den TDisk) (a1:ByteArray)
def K0:Ex→St→Rs:=runK (E k) (eK (E k) Tryz.f132 (C k) (a0,a1,())) [.blk 0,.code (at_ (bt 2 3) (body Tryz.f132))]
def V0 (n0:Nat):T0:=fun x0 x1 x2 x3 x4 x5=>loopN (exec (E k) (at_ (bt 5 5) (body Tryz.f132))) (canon 0 [1,2,5]) (K0 k a0 a1) n0 (mk 22 1 [(1,.str x0),(2,.ptr 0 0 0),(5,.int .i64 x1)] [(0,.box [.sl true TPair x2,.int .i64 x3,.int .i64 x4,.bool x5])])
theorem s0 (n0:Nat):V0 k a0 a1 (n0+1)=b0 k (V0 k a0 a1 n0):=by kernel_rfl
theorem e0:V0 k a0 a1=l0 k:=loop_eq rfl (s0 k a0 a1) fun _=>rfl
end
theorem eq (k:Nat) (a0:Ty.den TDisk) (a1:ByteArray):rn (E k) Tryz.f132 (C k) (a0,a1,())=f k a0 a1:=(show _=t k (V0 k a0 a1 k) a0 a1 by kernel_rfl).trans (by rw [e0];rfl)
theorem ctr (k:Nat):Cp 132 (C k):=rc rfl [] (by kernel_rfl) Tryz.func132 (by kernel_rfl) rfl fun ⟨a0,a1,_⟩ r h=>(eq k a0 a1).trans h
end spec_l3Find
namespace spec_FileText
def C (k:Nat):Cn:=⟨[.val TDisk,.val .str],[.str,.bool],true,false,fun x=>f k x.1 x.2.1⟩
def D (k:Nat):List Ce:=[q (spec_DiskOk.ctr k),q (spec_l3Find.ctr k)]
def E (k:Nat):Env:=en (D k) [] 0 [] k
theorem eq (k:Nat) (a0:Ty.den TDisk) (a1:ByteArray):rn (E k) Tryz.f87 (C k) (a0,a1,())=f k a0 a1:=by kernel_rfl
theorem ctr (k:Nat):Cp 87 (C k):=rc rfl (D k) (by kernel_rfl) Tryz.func87 (by kernel_rfl) rfl fun ⟨a0,a1,_⟩ r h=>(eq k a0 a1).trans h
end spec_FileText
namespace spec_Dec
def C (k:Nat):Cn:=⟨[.val (.int .i64)],[.str],true,false,fun x=>f k x.1⟩
def E (k:Nat):Env:=en [] [(5,[0,3,4])] 0 [] k
section
variable (k:Nat) (a0:Int)
def K0:Ex→St→Rs:=runK (E k) (eK (E k) Tryz.f133 (C k) (a0,())) [.blk 0,.code (at_ (bt 5 31) (body Tryz.f133))]
def V0 (n0:Nat):T0:=fun x0 x1 x2=>loopN (exec (E k) (at_ (bt 7 15) (body Tryz.f133))) (canon 0 [0,3,4]) (K0 k a0) n0 (mk 31 0 [(0,.int .i64 x0),(3,.str x1),(4,.bool x2)] [])
theorem s0 (n0:Nat):V0 k a0 (n0+1)=b0 k (V0 k a0 n0):=by kernel_rfl
theorem e0:V0 k a0=l0 k:=loop_eq rfl (s0 k a0) fun _=>rfl
end
theorem eq (k:Nat) (a0:Int):rn (E k) Tryz.f133 (C k) (a0,())=f k a0:=(show _=t k (V0 k a0 k) a0 by kernel_rfl).trans (by rw [e0];rfl)
theorem ctr (k:Nat):Cp 133 (C k):=rc rfl [] (by kernel_rfl) Tryz.func133 (by kernel_rfl) rfl fun ⟨a0,_⟩ r h=>(eq k a0).trans h
end spec_Dec
namespace spec_ReadDec
def C (k:Nat):Cn:=⟨[.val .str],[(.int .i64),.bool],true,false,fun x=>f k x.1⟩
def D (k:Nat):List Ce:=[q (spec_Dec.ctr k)]
def E (k:Nat):Env:=en (D k) [(4,[0,4,5,6])] 0 [] k
section
variable (k:Nat) (a0:ByteArray)
def K0:Ex→St→Rs:=runK (E k) (eK (E k) Tryz.f240 (C k) (a0,())) [.blk 0,.code (at_ (bt 4 15) (body Tryz.f240))]
def V0 (n0:Nat):T0:=fun x0 x1 x2 x3=>loopN (exec (E k) (at_ (bt 7 23) (body Tryz.f240))) (canon 0 [0,4,5,6]) (K0 k a0) n0 (mk 61 0 [(0,.str x0),(4,.int .i64 x1),(5,.int .i64 x2),(6,.int .i64 x3)] [])
theorem s0 (n0:Nat):V0 k a0 (n0+1)=b0 k (V0 k a0 n0):=by kernel_rfl
theorem e0:V0 k a0=l0 k:=loop_eq rfl (s0 k a0) fun _=>rfl
end
theorem eq (k:Nat) (a0:ByteArray):rn (E k) Tryz.f240 (C k) (a0,())=f k a0:=(show _=t k (V0 k a0 k) a0 by kernel_rfl).trans (by rw [e0];rfl)
theorem ctr (k:Nat):Cp 240 (C k):=rc rfl (D k) (by kernel_rfl) Tryz.func240 (by kernel_rfl) rfl fun ⟨a0,_⟩ r h=>(eq k a0).trans h
end spec_ReadDec
namespace spec_SegName
def C (k:Nat):Cn:=⟨[.val (.int .i64)],[.str],true,false,fun x=>f k x.1⟩
def D (k:Nat):List Ce:=[q (spec_l1In.ctr k),q (spec_Dec.ctr k)]
def E (k:Nat):Env:=en (D k) [] 0 [] k
theorem eq (k:Nat) (a0:Int):rn (E k) Tryz.f88 (C k) (a0,())=f k a0:=by kernel_rfl
theorem ctr (k:Nat):Cp 88 (C k):=rc rfl (D k) (by kernel_rfl) Tryz.func88 (by kernel_rfl) rfl fun ⟨a0,_⟩ r h=>(eq k a0).trans h
end spec_SegName
namespace spec_HintName
def C (k:Nat):Cn:=⟨[.val (.int .i64)],[.str],true,false,fun x=>f k x.1⟩
def D (k:Nat):List Ce:=[q (spec_l1In.ctr k),q (spec_Dec.ctr k)]
def E (k:Nat):Env:=en (D k) [] 0 [] k
theorem eq (k:Nat) (a0:Int):rn (E k) Tryz.f112 (C k) (a0,())=f k a0:=by kernel_rfl
theorem ctr (k:Nat):Cp 112 (C k):=rc rfl (D k) (by kernel_rfl) Tryz.func112 (by kernel_rfl) rfl fun ⟨a0,_⟩ r h=>(eq k a0).trans h
end spec_HintName
namespace spec_IdOf
def C (k:Nat):Cn:=⟨[.val .str],[(.int .i64),.bool],true,false,fun x=>f k x.1⟩
def D (k:Nat):List Ce:=[q (spec_ReadDec.ctr k),q (spec_SegName.ctr k),q (spec_HintName.ctr k)]
def E (k:Nat):Env:=en (D k) [(2,[0,4])] 0 [] k
section
variable (k:Nat) (a0:ByteArray)
def K0:Ex→St→Rs:=runK (E k) (eK (E k) Tryz.f207 (C k) (a0,())) [.blk 0,.code (at_ (bt 2 3) (body Tryz.f207))]
def V0 (n0:Nat):T0:=fun x0 x1=>loopN (exec (E k) (at_ (bt 5 5) (body Tryz.f207))) (canon 0 [0,4]) (K0 k a0) n0 (mk 40 0 [(0,.str x0),(4,.int .i64 x1)] [])
theorem s0 (n0:Nat):V0 k a0 (n0+1)=b0 k (V0 k a0 n0):=by kernel_rfl
theorem e0:V0 k a0=l0 k:=loop_eq rfl (s0 k a0) fun _=>rfl
end
theorem eq (k:Nat) (a0:ByteArray):rn (E k) Tryz.f207 (C k) (a0,())=f k a0:=(show _=t k (V0 k a0 k) a0 by kernel_rfl).trans (by rw [e0];rfl)
theorem ctr (k:Nat):Cp 207 (C k):=rc rfl (D k) (by kernel_rfl) Tryz.func207 (by kernel_rfl) rfl fun ⟨a0,_⟩ r h=>(eq k a0).trans h
end spec_IdOf
namespace spec_Orphans
def C (k:Nat):Cn:=⟨[.val TDisk,.val TLive],[(.slice .str)],true,false,fun x=>f k x.1 x.2.1⟩
def D (k:Nat):List Ce:=[q (spec_DiskOk.ctr k),q (spec_IdOf.ctr k)]
def E (k:Nat):Env:=en (D k) [(5,[2,3,5,6]),(10,[2,3,5,6,7,8,9,10])] 0 [] k
section
variable (k:Nat) (a0:Ty.den TDisk) (a1:Ty.den TLive)
def K0:Ex→St→Rs:=runK (E k) (eK (E k) Tryz.f158 (C k) (a0,a1,())) [.blk 0,.code (at_ (bt 4 15) (body Tryz.f158))]
def B0 (n0:Nat):Ex→St→Rs:=lpK (E k) (at_ (bt 7 23) (body Tryz.f158)) 0 [2,3,5,6] (K0 k a0 a1) n0
def K1 (n0:Nat):Ex→St→Rs:=runK (E k) (B0 k a0 a1 n0) [.blk 2,.code (at_ (bt 13 7319) (body Tryz.f158)),.blk 1,.code (at_ (bt 9 407) (body Tryz.f158))]
def V0 (n0:Nat):T0:=fun x0 x1 x2 x3 x4 x5 x6 x7=>loopN (exec (E k) (at_ (bt 7 23) (body Tryz.f158))) (canon 0 [2,3,5,6]) (K0 k a0 a1) n0 (mk 74 3 [(2,.ptr 0 0 0),(3,.ptr 1 0 0),(5,.ref 2),(6,.int .i64 x0)] [(0,.box [.sl true TPair x1,.int .i64 x2,.int .i64 x3,.bool x4]),(1,.box [.int .i64 x5,.sl true (.int .i64) x6]),(2,.own false .str x7)])
def V1 (n0 n1:Nat):T1:=fun x0 x1 x2 x3 x4 x5 x6 x7 x8 x9 x10 x11=>loopN (exec (E k) (at_ (bt 16 11415) (body Tryz.f158))) (canon 0 [2,3,5,6,7,8,9,10]) (K1 k a0 a1 n0) n1 (mk 74 3 [(2,.ptr 0 0 0),(3,.ptr 1 0 0),(5,.ref 2),(6,.int .i64 x0),(7,.int .i64 x1),(8,.bool x2),(9,.bool x3),(10,.int .i64 x4)] [(0,.box [.sl true TPair x5,.int .i64 x6,.int .i64 x7,.bool x8]),(1,.box [.int .i64 x9,.sl true (.int .i64) x10]),(2,.own false .str x11)])
theorem s0 (n0:Nat):V0 k a0 a1 (n0+1)=b0 k (V1 k a0 a1 n0 k) (V0 k a0 a1 n0):=by kernel_rfl
theorem s1 (n0 n1:Nat):V1 k a0 a1 n0 (n1+1)=b1 k (V0 k a0 a1 n0) (V1 k a0 a1 n0 n1):=by kernel_rfl
theorem e1 (n0:Nat):V1 k a0 a1 n0=l1 k (V0 k a0 a1 n0):=loop_eq rfl (s1 k a0 a1 n0) fun _=>rfl
theorem e0 (n0:Nat):V0 k a0 a1 n0=l0 k n0:=by
 induction n0 with
 | zero=>rfl
 | succ n0 ih =>
  have h:V0 k a0 a1 (n0+1)=b0 k (V1 k a0 a1 n0 k) (V0 k a0 a1 n0):=s0 k a0 a1 n0
  rw [h,e1,ih]
  rfl
end
theorem eq (k:Nat) (a0:Ty.den TDisk) (a1:Ty.den TLive):rn (E k) Tryz.f158 (C k) (a0,a1,())=f k a0 a1:=(show _=t k (V0 k a0 a1 k) a0 a1 by kernel_rfl).trans (by rw [e0];rfl)
theorem ctr (k:Nat):Cp 158 (C k):=rc rfl (D k) (by kernel_rfl) Tryz.func158 (by kernel_rfl) rfl fun ⟨a0,a1,_⟩ r h=>(eq k a0 a1).trans h
end spec_Orphans
namespace spec_l3Begin
def C (k:Nat):Cn:=⟨[.val TDisk],[TDisk,(.int .i64)],true,false,fun x=>f k x.1⟩
def D (k:Nat):List Ce:=[q (spec_l3Copy.ctr k),q (spec_DiskOk.ctr k)]
def E (k:Nat):Env:=en (D k) [] 0 [] k
theorem eq (k:Nat) (a0:Ty.den TDisk):rn (E k) Tryz.f148 (C k) (a0,())=f k a0:=by kernel_rfl
theorem ctr (k:Nat):Cp 148 (C k):=rc rfl (D k) (by kernel_rfl) Tryz.func148 (by kernel_rfl) rfl fun ⟨a0,_⟩ r h=>(eq k a0).trans h
end spec_l3Begin
namespace spec_l3Without
def C (k:Nat):Cn:=⟨[.val (.slice TPair),.val (.int .i64)],[(.slice TPair)],true,false,fun x=>f k x.1 x.2.1⟩
def E (k:Nat):Env:=en [] [] 0 [] k
theorem eq (k:Nat) (a0:List (Ty.den TPair)) (a1:Int):rn (E k) Tryz.f208 (C k) (a0,a1,())=f k a0 a1:=by kernel_rfl
theorem ctr (k:Nat):Cp 208 (C k):=rc rfl [] (by kernel_rfl) Tryz.func208 (by kernel_rfl) rfl fun ⟨a0,a1,_⟩ r h=>(eq k a0 a1).trans h
end spec_l3Without
namespace spec_Remove
def C (k:Nat):Cn:=⟨[.val TDisk,.val .str],[TDisk,(.int .i64)],true,false,fun x=>f k x.1 x.2.1⟩
def D (k:Nat):List Ce:=[q (spec_l3Begin.ctr k),q (spec_l3Find.ctr k),q (spec_l3Without.ctr k)]
def E (k:Nat):Env:=en (D k) [] 0 [] k
theorem eq (k:Nat) (a0:Ty.den TDisk) (a1:ByteArray):rn (E k) Tryz.f159 (C k) (a0,a1,())=f k a0 a1:=by kernel_rfl
theorem ctr (k:Nat):Cp 159 (C k):=rc rfl (D k) (by kernel_rfl) Tryz.func159 (by kernel_rfl) rfl fun ⟨a0,a1,_⟩ r h=>(eq k a0 a1).trans h
end spec_Remove
namespace spec_l11Code
def C (k:Nat):Cn:=⟨[.val (.int .i64)],[(.int .i64)],true,false,fun x=>f k x.1⟩
def E (k:Nat):Env:=en [] [] 0 [] k
theorem eq (k:Nat) (a0:Int):rn (E k) Tryz.f110 (C k) (a0,())=f k a0:=by kernel_rfl
theorem ctr (k:Nat):Cp 110 (C k):=rc rfl [] (by kernel_rfl) Tryz.func110 (by kernel_rfl) rfl fun ⟨a0,_⟩ r h=>(eq k a0).trans h
end spec_l11Code
namespace spec_l3Insert
def C (k:Nat):Cn:=⟨[.val (.slice TPair),.val TPair],[(.slice TPair)],true,false,fun x=>f k x.1 x.2.1⟩
def E (k:Nat):Env:=en [] [(4,[0,3,5,6,7])] 0 [] k
section
variable (k:Nat) (a0:List (Ty.den TPair)) (a1:Ty.den TPair)
def K0:Ex→St→Rs:=runK (E k) (eK (E k) Tryz.f198 (C k) (a0,a1,())) [.blk 0,.code (at_ (bt 4 15) (body Tryz.f198))]
def V0 (n0:Nat):T0:=fun x0 x1 x2 x3 x4 x5 x6=>loopN (exec (E k) (at_ (bt 7 23) (body Tryz.f198))) (canon 0 [0,3,5,6,7]) (K0 k a0 a1) n0 (mk 45 2 [(0,.sl true TPair x0),(3,.ptr 0 0 0),(5,.ref 1),(6,.bool x1),(7,.int .i64 x2)] [(0,.box [.str x3,.str x4,.int .i64 x5]),(1,.own false TPair x6)])
theorem s0 (n0:Nat):V0 k a0 a1 (n0+1)=b0 k (V0 k a0 a1 n0):=by kernel_rfl
theorem e0:V0 k a0 a1=l0 k:=loop_eq rfl (s0 k a0 a1) fun _=>rfl
end
theorem eq (k:Nat) (a0:List (Ty.den TPair)) (a1:Ty.den TPair):rn (E k) Tryz.f198 (C k) (a0,a1,())=f k a0 a1:=(show _=t k (V0 k a0 a1 k) a0 a1 by kernel_rfl).trans (by rw [e0];rfl)
theorem ctr (k:Nat):Cp 198 (C k):=rc rfl [] (by kernel_rfl) Tryz.func198 (by kernel_rfl) rfl fun ⟨a0,a1,_⟩ r h=>(eq k a0 a1).trans h
end spec_l3Insert
namespace spec_Create
def C (k:Nat):Cn:=⟨[.val TDisk,.val .str],[TDisk,(.int .i64)],true,false,fun x=>f k x.1 x.2.1⟩
def D (k:Nat):List Ce:=[q (spec_l3Begin.ctr k),q (spec_NameOk.ctr k),q (spec_l3Find.ctr k),q (spec_l3Insert.ctr k)]
def E (k:Nat):Env:=en (D k) [] 0 [] k
theorem eq (k:Nat) (a0:Ty.den TDisk) (a1:ByteArray):rn (E k) Tryz.f144 (C k) (a0,a1,())=f k a0 a1:=by kernel_rfl
theorem ctr (k:Nat):Cp 144 (C k):=rc rfl (D k) (by kernel_rfl) Tryz.func144 (by kernel_rfl) rfl fun ⟨a0,a1,_⟩ r h=>(eq k a0 a1).trans h
end spec_Create
namespace spec_LiveOk
def C (k:Nat):Cn:=⟨[.val TLive],[.bool],true,false,fun x=>f k x.1⟩
def D (k:Nat):List Ce:=[q (spec_l1In.ctr k)]
def E (k:Nat):Env:=en (D k) [(4,[1,3])] 0 [] k
section
variable (k:Nat) (a0:Ty.den TLive)
def K0:Ex→St→Rs:=runK (E k) (eK (E k) Tryz.f160 (C k) (a0,())) [.blk 0,.code (at_ (bt 3 7) (body Tryz.f160))]
def V0 (n0:Nat):T0:=fun x0 x1 x2=>loopN (exec (E k) (at_ (bt 6 11) (body Tryz.f160))) (canon 0 [1,3]) (K0 k a0) n0 (mk 50 1 [(1,.ptr 0 0 0),(3,.int .i64 x0)] [(0,.box [.int .i64 x1,.sl true (.int .i64) x2])])
theorem s0 (n0:Nat):V0 k a0 (n0+1)=b0 k (V0 k a0 n0):=by kernel_rfl
theorem e0:V0 k a0=l0 k:=loop_eq rfl (s0 k a0) fun _=>rfl
end
theorem eq (k:Nat) (a0:Ty.den TLive):rn (E k) Tryz.f160 (C k) (a0,())=f k a0:=(show _=t k (V0 k a0 k) a0 by kernel_rfl).trans (by rw [e0];rfl)
theorem ctr (k:Nat):Cp 160 (C k):=rc rfl (D k) (by kernel_rfl) Tryz.func160 (by kernel_rfl) rfl fun ⟨a0,_⟩ r h=>(eq k a0).trans h
end spec_LiveOk
namespace spec_Var
def C (k:Nat):Cn:=⟨[.val (.int .i64)],[.str],true,false,fun x=>f k x.1⟩
def D (k:Nat):List Ce:=[q (spec_l1In.ctr k)]
def E (k:Nat):Env:=en (D k) [(4,[0,3])] 0 [] k
section
variable (k:Nat) (a0:Int)
def K0:Ex→St→Rs:=runK (E k) (eK (E k) Tryz.f201 (C k) (a0,())) [.blk 0,.code (at_ (bt 4 15) (body Tryz.f201))]
def V0 (n0:Nat):T0:=fun x0 x1=>loopN (exec (E k) (at_ (bt 6 7) (body Tryz.f201))) (canon 0 [0,3]) (K0 k a0) n0 (mk 25 1 [(0,.int .i64 x0),(3,.ref 0)] [(0,.own false (.int .u8) x1)])
theorem s0 (n0:Nat):V0 k a0 (n0+1)=b0 k (V0 k a0 n0):=by kernel_rfl
theorem e0:V0 k a0=l0 k:=loop_eq rfl (s0 k a0) fun _=>rfl
end
theorem eq (k:Nat) (a0:Int):rn (E k) Tryz.f201 (C k) (a0,())=f k a0:=(show _=t k (V0 k a0 k) a0 by kernel_rfl).trans (by rw [e0];rfl)
theorem ctr (k:Nat):Cp 201 (C k):=rc rfl (D k) (by kernel_rfl) Tryz.func201 (by kernel_rfl) rfl fun ⟨a0,_⟩ r h=>(eq k a0).trans h
end spec_Var
namespace spec_Crc
def C (k:Nat):Cn:=⟨[.val .str],[(.int .i64)],true,false,fun x=>f k x.1⟩
def E (k:Nat):Env:=en [] [(3,[0,3,4]),(7,[0,3,4,5])] 0 [] k
section
variable (k:Nat) (a0:ByteArray)
def K0:Ex→St→Rs:=runK (E k) (eK (E k) Tryz.f204 (C k) (a0,())) [.blk 0,.code (at_ (bt 3 7) (body Tryz.f204))]
def B0 (n0:Nat):Ex→St→Rs:=lpK (E k) (at_ (bt 6 11) (body Tryz.f204)) 0 [0,3,4] (K0 k a0) n0
def K1 (n0:Nat):Ex→St→Rs:=runK (E k) (B0 k a0 n0) [.blk 2,.blk 1,.code (at_ (bt 8 203) (body Tryz.f204))]
def V0 (n0:Nat):T0:=fun x0 x1 x2=>loopN (exec (E k) (at_ (bt 6 11) (body Tryz.f204))) (canon 0 [0,3,4]) (K0 k a0) n0 (mk 33 0 [(0,.str x0),(3,.int .i64 x1),(4,.int .i64 x2)] [])
def V1 (n0 n1:Nat):T1:=fun x0 x1 x2 x3=>loopN (exec (E k) (at_ (bt 13 1611) (body Tryz.f204))) (canon 0 [0,3,4,5]) (K1 k a0 n0) n1 (mk 33 0 [(0,.str x0),(3,.int .i64 x1),(4,.int .i64 x2),(5,.int .i64 x3)] [])
theorem s0 (n0:Nat):V0 k a0 (n0+1)=b0 k (V1 k a0 n0 k) (V0 k a0 n0):=by kernel_rfl
theorem s1 (n0 n1:Nat):V1 k a0 n0 (n1+1)=b1 k (V0 k a0 n0) (V1 k a0 n0 n1):=by kernel_rfl
theorem e1 (n0:Nat):V1 k a0 n0=l1 k (V0 k a0 n0):=loop_eq rfl (s1 k a0 n0) fun _=>rfl
theorem e0 (n0:Nat):V0 k a0 n0=l0 k n0:=by
 induction n0 with
 | zero=>rfl
 | succ n0 ih =>
  have h:V0 k a0 (n0+1)=b0 k (V1 k a0 n0 k) (V0 k a0 n0):=s0 k a0 n0
  rw [h,e1,ih]
  rfl
end
theorem eq (k:Nat) (a0:ByteArray):rn (E k) Tryz.f204 (C k) (a0,())=f k a0:=(show _=t k (V0 k a0 k) a0 by kernel_rfl).trans (by rw [e0];rfl)
theorem ctr (k:Nat):Cp 204 (C k):=rc rfl [] (by kernel_rfl) Tryz.func204 (by kernel_rfl) rfl fun ⟨a0,_⟩ r h=>(eq k a0).trans h
end spec_Crc
namespace spec_Fixed
def C (k:Nat):Cn:=⟨[.val (.int .i64),.val (.int .i64)],[.str],true,false,fun x=>f k x.1 x.2.1⟩
def D (k:Nat):List Ce:=[q (spec_l1In.ctr k)]
def E (k:Nat):Env:=en (D k) [(5,[0,1,5,6])] 0 [] k
section
variable (k:Nat) (a0:Int) (a1:Int)
def K0:Ex→St→Rs:=runK (E k) (eK (E k) Tryz.f203 (C k) (a0,a1,())) [.blk 0,.code (at_ (bt 4 15) (body Tryz.f203))]
def V0 (n0:Nat):T0:=fun x0 x1 x2 x3=>loopN (exec (E k) (at_ (bt 7 23) (body Tryz.f203))) (canon 0 [0,1,5,6]) (K0 k a0 a1) n0 (mk 31 0 [(0,.int .i64 x0),(1,.int .i64 x1),(5,.str x2),(6,.int .i64 x3)] [])
theorem s0 (n0:Nat):V0 k a0 a1 (n0+1)=b0 k (V0 k a0 a1 n0):=by kernel_rfl
theorem e0:V0 k a0 a1=l0 k:=loop_eq rfl (s0 k a0 a1) fun _=>rfl
end
theorem eq (k:Nat) (a0:Int) (a1:Int):rn (E k) Tryz.f203 (C k) (a0,a1,())=f k a0 a1:=(show _=t k (V0 k a0 a1 k) a0 a1 by kernel_rfl).trans (by rw [e0];rfl)
theorem ctr (k:Nat):Cp 203 (C k):=rc rfl (D k) (by kernel_rfl) Tryz.func203 (by kernel_rfl) rfl fun ⟨a0,a1,_⟩ r h=>(eq k a0 a1).trans h
end spec_Fixed
namespace spec_Frame
def C (k:Nat):Cn:=⟨[.val .str],[.str],true,false,fun x=>f k x.1⟩
def D (k:Nat):List Ce:=[q (spec_Var.ctr k),q (spec_Crc.ctr k),q (spec_Fixed.ctr k)]
def E (k:Nat):Env:=en (D k) [] 0 [] k
theorem eq (k:Nat) (a0:ByteArray):rn (E k) Tryz.f187 (C k) (a0,())=f k a0:=by kernel_rfl
theorem ctr (k:Nat):Cp 187 (C k):=rc rfl (D k) (by kernel_rfl) Tryz.func187 (by kernel_rfl) rfl fun ⟨a0,_⟩ r h=>(eq k a0).trans h
end spec_Frame
namespace spec_ShowLive
def C (k:Nat):Cn:=⟨[.val TLive],[.str],true,false,fun x=>f k x.1⟩
def D (k:Nat):List Ce:=[q (spec_LiveOk.ctr k),q (spec_Var.ctr k),q (spec_Frame.ctr k)]
def E (k:Nat):Env:=en (D k) [(5,[1,3,4])] 0 [] k
section
variable (k:Nat) (a0:Ty.den TLive)
def K0:Ex→St→Rs:=runK (E k) (eK (E k) Tryz.f147 (C k) (a0,())) [.blk 0,.code (at_ (bt 4 15) (body Tryz.f147))]
def V0 (n0:Nat):T0:=fun x0 x1 x2 x3=>loopN (exec (E k) (at_ (bt 7 23) (body Tryz.f147))) (canon 0 [1,3,4]) (K0 k a0) n0 (mk 33 1 [(1,.ptr 0 0 0),(3,.str x0),(4,.int .i64 x1)] [(0,.box [.int .i64 x2,.sl true (.int .i64) x3])])
theorem s0 (n0:Nat):V0 k a0 (n0+1)=b0 k (V0 k a0 n0):=by kernel_rfl
theorem e0:V0 k a0=l0 k:=loop_eq rfl (s0 k a0) fun _=>rfl
end
theorem eq (k:Nat) (a0:Ty.den TLive):rn (E k) Tryz.f147 (C k) (a0,())=f k a0:=(show _=t k (V0 k a0 k) a0 by kernel_rfl).trans (by rw [e0];rfl)
theorem ctr (k:Nat):Cp 147 (C k):=rc rfl (D k) (by kernel_rfl) Tryz.func147 (by kernel_rfl) rfl fun ⟨a0,_⟩ r h=>(eq k a0).trans h
end spec_ShowLive
namespace spec_l11Fresh
def C (k:Nat):Cn:=⟨[.val TDisk,.val .str],[TDisk,(.int .i64)],true,false,fun x=>f k x.1 x.2.1⟩
def D (k:Nat):List Ce:=[q (spec_l3Find.ctr k),q (spec_Remove.ctr k),q (spec_Create.ctr k)]
def E (k:Nat):Env:=en (D k) [] 0 [] k
theorem eq (k:Nat) (a0:Ty.den TDisk) (a1:ByteArray):rn (E k) Tryz.f239 (C k) (a0,a1,())=f k a0 a1:=by kernel_rfl
theorem ctr (k:Nat):Cp 239 (C k):=rc rfl (D k) (by kernel_rfl) Tryz.func239 (by kernel_rfl) rfl fun ⟨a0,a1,_⟩ r h=>(eq k a0 a1).trans h
end spec_l11Fresh
namespace spec_Append
def C (k:Nat):Cn:=⟨[.val TDisk,.val .str,.val .str],[TDisk,(.int .i64)],true,false,fun x=>f k x.1 x.2.1 x.2.2.1⟩
def D (k:Nat):List Ce:=[q (spec_l3Begin.ctr k),q (spec_l3Find.ctr k),q (spec_l3Used.ctr k)]
def E (k:Nat):Env:=en (D k) [] 0 [] k
theorem eq (k:Nat) (a0:Ty.den TDisk) (a1:ByteArray) (a2:ByteArray):rn (E k) Tryz.f210 (C k) (a0,a1,a2,())=f k a0 a1 a2:=by kernel_rfl
theorem ctr (k:Nat):Cp 210 (C k):=rc rfl (D k) (by kernel_rfl) Tryz.func210 (by kernel_rfl) rfl fun ⟨a0,a1,a2,_⟩ r h=>(eq k a0 a1 a2).trans h
end spec_Append
namespace spec_Sync
def C (k:Nat):Cn:=⟨[.val TDisk,.val .str],[TDisk,(.int .i64)],true,false,fun x=>f k x.1 x.2.1⟩
def D (k:Nat):List Ce:=[q (spec_l3Begin.ctr k),q (spec_l3Find.ctr k)]
def E (k:Nat):Env:=en (D k) [] 0 [] k
theorem eq (k:Nat) (a0:Ty.den TDisk) (a1:ByteArray):rn (E k) Tryz.f111 (C k) (a0,a1,())=f k a0 a1:=by kernel_rfl
theorem ctr (k:Nat):Cp 111 (C k):=rc rfl (D k) (by kernel_rfl) Tryz.func111 (by kernel_rfl) rfl fun ⟨a0,a1,_⟩ r h=>(eq k a0 a1).trans h
end spec_Sync
namespace spec_l11File
def C (k:Nat):Cn:=⟨[.val TDisk,.val .str,.val .str],[TDisk,(.int .i64)],true,false,fun x=>f k x.1 x.2.1 x.2.2.1⟩
def D (k:Nat):List Ce:=[q (spec_l11Fresh.ctr k),q (spec_Append.ctr k),q (spec_Sync.ctr k)]
def E (k:Nat):Env:=en (D k) [] 0 [] k
theorem eq (k:Nat) (a0:Ty.den TDisk) (a1:ByteArray) (a2:ByteArray):rn (E k) Tryz.f199 (C k) (a0,a1,a2,())=f k a0 a1 a2:=by kernel_rfl
theorem ctr (k:Nat):Cp 199 (C k):=rc rfl (D k) (by kernel_rfl) Tryz.func199 (by kernel_rfl) rfl fun ⟨a0,a1,a2,_⟩ r h=>(eq k a0 a1 a2).trans h
end spec_l11File
namespace spec_Rename
def C (k:Nat):Cn:=⟨[.val TDisk,.val .str,.val .str],[TDisk,(.int .i64)],true,false,fun x=>f k x.1 x.2.1 x.2.2.1⟩
def D (k:Nat):List Ce:=[q (spec_l3Begin.ctr k),q (spec_NameOk.ctr k),q (spec_l3Find.ctr k),q (spec_l3Without.ctr k),q (spec_l3Insert.ctr k)]
def E (k:Nat):Env:=en (D k) [] 0 [] k
theorem eq (k:Nat) (a0:Ty.den TDisk) (a1:ByteArray) (a2:ByteArray):rn (E k) Tryz.f200 (C k) (a0,a1,a2,())=f k a0 a1 a2:=by kernel_rfl
theorem ctr (k:Nat):Cp 200 (C k):=rc rfl (D k) (by kernel_rfl) Tryz.func200 (by kernel_rfl) rfl fun ⟨a0,a1,a2,_⟩ r h=>(eq k a0 a1 a2).trans h
end spec_Rename
namespace spec_PutLive
def C (k:Nat):Cn:=⟨[.val TDisk,.val TLive],[TDisk,(.int .i64)],true,false,fun x=>f k x.1 x.2.1⟩
def D (k:Nat):List Ce:=[q (spec_DiskOk.ctr k),q (spec_l3Copy.ctr k),q (spec_LiveOk.ctr k),q (spec_ShowLive.ctr k),q (spec_l11File.ctr k),q (spec_Rename.ctr k),q (spec_l11Code.ctr k)]
def E (k:Nat):Env:=en (D k) [] 0 [] k
theorem eq (k:Nat) (a0:Ty.den TDisk) (a1:Ty.den TLive):rn (E k) Tryz.f145 (C k) (a0,a1,())=f k a0 a1:=by kernel_rfl
theorem ctr (k:Nat):Cp 145 (C k):=rc rfl (D k) (by kernel_rfl) Tryz.func145 (by kernel_rfl) rfl fun ⟨a0,a1,_⟩ r h=>(eq k a0 a1).trans h
end spec_PutLive
namespace spec_ReadVar
def C (k:Nat):Cn:=⟨[.val .str],[(.int .i64),(.int .i64)],true,false,fun x=>f k x.1⟩
def D (k:Nat):List Ce:=[q (spec_Var.ctr k)]
def E (k:Nat):Env:=en (D k) [(2,[0,4]),(6,[0,4,5,6])] 0 [] k
section
variable (k:Nat) (a0:ByteArray)
def K0:Ex→St→Rs:=runK (E k) (eK (E k) Tryz.f146 (C k) (a0,())) [.blk 0,.code (at_ (bt 2 3) (body Tryz.f146))]
def B0 (n0:Nat):Ex→St→Rs:=lpK (E k) (at_ (bt 5 5) (body Tryz.f146)) 0 [0,4] (K0 k a0) n0
def K1 (n0:Nat):Ex→St→Rs:=runK (E k) (B0 k a0 n0) [.blk 2,.code (at_ (bt 10 805) (body Tryz.f146)),.blk 1,.code (at_ (bt 7 101) (body Tryz.f146))]
def V0 (n0:Nat):T0:=fun x0 x1=>loopN (exec (E k) (at_ (bt 5 5) (body Tryz.f146))) (canon 0 [0,4]) (K0 k a0) n0 (mk 39 0 [(0,.str x0),(4,.int .i64 x1)] [])
def V1 (n0 n1:Nat):T1:=fun x0 x1 x2 x3=>loopN (exec (E k) (at_ (bt 13 1317) (body Tryz.f146))) (canon 0 [0,4,5,6]) (K1 k a0 n0) n1 (mk 39 0 [(0,.str x0),(4,.int .i64 x1),(5,.int .i64 x2),(6,.int .i64 x3)] [])
theorem s0 (n0:Nat):V0 k a0 (n0+1)=b0 k (V1 k a0 n0 k) (V0 k a0 n0):=by kernel_rfl
theorem s1 (n0 n1:Nat):V1 k a0 n0 (n1+1)=b1 k (V0 k a0 n0) (V1 k a0 n0 n1):=by kernel_rfl
theorem e1 (n0:Nat):V1 k a0 n0=l1 k (V0 k a0 n0):=loop_eq rfl (s1 k a0 n0) fun _=>rfl
theorem e0 (n0:Nat):V0 k a0 n0=l0 k n0:=by
 induction n0 with
 | zero=>rfl
 | succ n0 ih =>
  have h:V0 k a0 (n0+1)=b0 k (V1 k a0 n0 k) (V0 k a0 n0):=s0 k a0 n0
  rw [h,e1,ih]
  rfl
end
theorem eq (k:Nat) (a0:ByteArray):rn (E k) Tryz.f146 (C k) (a0,())=f k a0:=(show _=t k (V0 k a0 k) a0 by kernel_rfl).trans (by rw [e0];rfl)
theorem ctr (k:Nat):Cp 146 (C k):=rc rfl (D k) (by kernel_rfl) Tryz.func146 (by kernel_rfl) rfl fun ⟨a0,_⟩ r h=>(eq k a0).trans h
end spec_ReadVar
namespace spec_Unframe
def C (k:Nat):Cn:=⟨[.val .str],[.str,(.int .i64)],true,false,fun x=>f k x.1⟩
def D (k:Nat):List Ce:=[q (spec_ReadVar.ctr k),q (spec_Frame.ctr k)]
def E (k:Nat):Env:=en (D k) [] 0 [] k
theorem eq (k:Nat) (a0:ByteArray):rn (E k) Tryz.f134 (C k) (a0,())=f k a0:=by kernel_rfl
theorem ctr (k:Nat):Cp 134 (C k):=rc rfl (D k) (by kernel_rfl) Tryz.func134 (by kernel_rfl) rfl fun ⟨a0,_⟩ r h=>(eq k a0).trans h
end spec_Unframe
namespace spec_ReadLive
def C (k:Nat):Cn:=⟨[.val .str],[TLive,.bool],true,false,fun x=>f k x.1⟩
def D (k:Nat):List Ce:=[q (spec_Unframe.ctr k),q (spec_ReadVar.ctr k),q (spec_ShowLive.ctr k)]
def E (k:Nat):Env:=en (D k) [(9,[0,2,4,8,10,11,12])] 0 [] k
section
variable (k:Nat) (a0:ByteArray)
def K0:Ex→St→Rs:=runK (E k) (eK (E k) Tryz.f107 (C k) (a0,())) [.blk 0,.code (at_ (bt 8 255) (body Tryz.f107))]
def V0 (n0:Nat):T0:=fun x0 x1 x2 x3 x4 x5 x6 x7 x8=>loopN (exec (E k) (at_ (bt 11 383) (body Tryz.f107))) (canon 0 [0,2,4,8,10,11,12]) (K0 k a0) n0 (mk 81 4 [(0,.str x0),(2,.ptr 0 0 0),(4,.str x1),(8,.int .i64 x2),(10,.ptr 2 0 0),(11,.int .i64 x3),(12,.int .i64 x4)] [(1,.own false (.int .i64) x5),(0,.box [.int .i64 x6,.ref 1]),(3,.own false (.int .i64) x7),(2,.box [.int .i64 x8,.ref 3])])
theorem s0 (n0:Nat):V0 k a0 (n0+1)=b0 k (V0 k a0 n0):=by kernel_rfl
theorem e0:V0 k a0=l0 k:=loop_eq rfl (s0 k a0) fun _=>rfl
end
theorem eq (k:Nat) (a0:ByteArray):rn (E k) Tryz.f107 (C k) (a0,())=f k a0:=(show _=t k (V0 k a0 k) a0 by kernel_rfl).trans (by rw [e0];rfl)
theorem ctr (k:Nat):Cp 107 (C k):=rc rfl (D k) (by kernel_rfl) Tryz.func107 (by kernel_rfl) rfl fun ⟨a0,_⟩ r h=>(eq k a0).trans h
end spec_ReadLive
namespace spec_l5Text
def C (k:Nat):Cn:=⟨[.val .str],[.str,.str,.bool],true,false,fun x=>f k x.1⟩
def D (k:Nat):List Ce:=[q (spec_ReadVar.ctr k)]
def E (k:Nat):Env:=en (D k) [] 0 [] k
theorem eq (k:Nat) (a0:ByteArray):rn (E k) Tryz.f150 (C k) (a0,())=f k a0:=by kernel_rfl
theorem ctr (k:Nat):Cp 150 (C k):=rc rfl (D k) (by kernel_rfl) Tryz.func150 (by kernel_rfl) rfl fun ⟨a0,_⟩ r h=>(eq k a0).trans h
end spec_l5Text
namespace spec_RecOk
def C (k:Nat):Cn:=⟨[.val TRec],[.bool],true,false,fun x=>f k x.1⟩
def D (k:Nat):List Ce:=[q (spec_l1In.ctr k),q (spec_KeyOk.ctr k)]
def E (k:Nat):Env:=en (D k) [] 0 [] k
theorem eq (k:Nat) (a0:Ty.den TRec):rn (E k) Tryz.f234 (C k) (a0,())=f k a0:=by kernel_rfl
theorem ctr (k:Nat):Cp 234 (C k):=rc rfl (D k) (by kernel_rfl) Tryz.func234 (by kernel_rfl) rfl fun ⟨a0,_⟩ r h=>(eq k a0).trans h
end spec_RecOk
namespace spec_ShowRec
def C (k:Nat):Cn:=⟨[.val TRec],[.str],true,false,fun x=>f k x.1⟩
def D (k:Nat):List Ce:=[q (spec_RecOk.ctr k),q (spec_Var.ctr k),q (spec_Fixed.ctr k)]
def E (k:Nat):Env:=en (D k) [] 0 [] k
theorem eq (k:Nat) (a0:Ty.den TRec):rn (E k) Tryz.f189 (C k) (a0,())=f k a0:=by kernel_rfl
theorem ctr (k:Nat):Cp 189 (C k):=rc rfl (D k) (by kernel_rfl) Tryz.func189 (by kernel_rfl) rfl fun ⟨a0,_⟩ r h=>(eq k a0).trans h
end spec_ShowRec
namespace spec_ReadFixed
def C (k:Nat):Cn:=⟨[.val .str,.val (.int .i64)],[(.int .i64),.bool],true,false,fun x=>f k x.1 x.2.1⟩
def D (k:Nat):List Ce:=[q (spec_l1In.ctr k)]
def E (k:Nat):Env:=en (D k) [(5,[0,1,6,7])] 0 [] k
section
variable (k:Nat) (a0:ByteArray) (a1:Int)
def K0:Ex→St→Rs:=runK (E k) (eK (E k) Tryz.f188 (C k) (a0,a1,())) [.blk 0,.code (at_ (bt 4 15) (body Tryz.f188))]
def V0 (n0:Nat):T0:=fun x0 x1 x2 x3=>loopN (exec (E k) (at_ (bt 7 23) (body Tryz.f188))) (canon 0 [0,1,6,7]) (K0 k a0 a1) n0 (mk 30 0 [(0,.str x0),(1,.int .i64 x1),(6,.int .i64 x2),(7,.int .i64 x3)] [])
theorem s0 (n0:Nat):V0 k a0 a1 (n0+1)=b0 k (V0 k a0 a1 n0):=by kernel_rfl
theorem e0:V0 k a0 a1=l0 k:=loop_eq rfl (s0 k a0 a1) fun _=>rfl
end
theorem eq (k:Nat) (a0:ByteArray) (a1:Int):rn (E k) Tryz.f188 (C k) (a0,a1,())=f k a0 a1:=(show _=t k (V0 k a0 a1 k) a0 a1 by kernel_rfl).trans (by rw [e0];rfl)
theorem ctr (k:Nat):Cp 188 (C k):=rc rfl (D k) (by kernel_rfl) Tryz.func188 (by kernel_rfl) rfl fun ⟨a0,a1,_⟩ r h=>(eq k a0 a1).trans h
end spec_ReadFixed
namespace spec_ReadRec
def C (k:Nat):Cn:=⟨[.val .str],[TRec,.bool],true,false,fun x=>f k x.1⟩
def D (k:Nat):List Ce:=[q (spec_ReadVar.ctr k),q (spec_l5Text.ctr k),q (spec_ShowRec.ctr k),q (spec_ReadFixed.ctr k)]
def E (k:Nat):Env:=en (D k) [] 0 [] k
theorem eq (k:Nat) (a0:ByteArray):rn (E k) Tryz.f135 (C k) (a0,())=f k a0:=by kernel_rfl
theorem ctr (k:Nat):Cp 135 (C k):=rc rfl (D k) (by kernel_rfl) Tryz.func135 (by kernel_rfl) rfl fun ⟨a0,_⟩ r h=>(eq k a0).trans h
end spec_ReadRec
namespace spec_ScanRecs
def C (k:Nat):Cn:=⟨[.val .str],[(.slice TSpot),(.int .i64)],true,false,fun x=>f k x.1⟩
def D (k:Nat):List Ce:=[q (spec_Unframe.ctr k),q (spec_ReadRec.ctr k)]
def E (k:Nat):Env:=en (D k) [(3,[0,4,5])] 0 [] k
section
variable (k:Nat) (a0:ByteArray)
def K0:Ex→St→Rs:=runK (E k) (eK (E k) Tryz.f108 (C k) (a0,())) [.blk 0,.code (at_ (bt 4 15) (body Tryz.f108))]
def V0 (n0:Nat):T0:=fun x0 x1 x2=>loopN (exec (E k) (at_ (bt 6 7) (body Tryz.f108))) (canon 0 [0,4,5]) (K0 k a0) n0 (mk 47 1 [(0,.str x0),(4,.ref 0),(5,.int .i64 x1)] [(0,.own false TSpot x2)])
theorem s0 (n0:Nat):V0 k a0 (n0+1)=b0 k (V0 k a0 n0):=by kernel_rfl
theorem e0:V0 k a0=l0 k:=loop_eq rfl (s0 k a0) fun _=>rfl
end
theorem eq (k:Nat) (a0:ByteArray):rn (E k) Tryz.f108 (C k) (a0,())=f k a0:=(show _=t k (V0 k a0 k) a0 by kernel_rfl).trans (by rw [e0];rfl)
theorem ctr (k:Nat):Cp 108 (C k):=rc rfl (D k) (by kernel_rfl) Tryz.func108 (by kernel_rfl) rfl fun ⟨a0,_⟩ r h=>(eq k a0).trans h
end spec_ScanRecs
namespace spec_Truncate
def C (k:Nat):Cn:=⟨[.val TDisk,.val .str,.val (.int .i64)],[TDisk,(.int .i64)],true,false,fun x=>f k x.1 x.2.1 x.2.2.1⟩
def D (k:Nat):List Ce:=[q (spec_l3Begin.ctr k),q (spec_l3Find.ctr k),q (spec_l1In.ctr k)]
def E (k:Nat):Env:=en (D k) [] 0 [] k
theorem eq (k:Nat) (a0:Ty.den TDisk) (a1:ByteArray) (a2:Int):rn (E k) Tryz.f109 (C k) (a0,a1,a2,())=f k a0 a1 a2:=by kernel_rfl
theorem ctr (k:Nat):Cp 109 (C k):=rc rfl (D k) (by kernel_rfl) Tryz.func109 (by kernel_rfl) rfl fun ⟨a0,a1,a2,_⟩ r h=>(eq k a0 a1 a2).trans h
end spec_Truncate
namespace spec_l10Vars
def C (k:Nat):Cn:=⟨[.val .str,.val (.int .i64),.val (.int .i64)],[(.slice (.int .i64)),(.int .i64)],true,false,fun x=>f k x.1 x.2.1 x.2.2.1⟩
def D (k:Nat):List Ce:=[q (spec_ReadVar.ctr k)]
def E (k:Nat):Env:=en (D k) [(3,[0,1,2,8,9])] 0 [] k
section
variable (k:Nat) (a0:ByteArray) (a1:Int) (a2:Int)
def K0:Ex→St→Rs:=runK (E k) (eK (E k) Tryz.f149 (C k) (a0,a1,a2,())) [.blk 0,.code (at_ (bt 3 7) (body Tryz.f149))]
def V0 (n0:Nat):T0:=fun x0 x1 x2 x3 x4=>loopN (exec (E k) (at_ (bt 6 11) (body Tryz.f149))) (canon 0 [0,1,2,8,9]) (K0 k a0 a1 a2) n0 (mk 38 1 [(0,.str x0),(1,.int .i64 x1),(2,.int .i64 x2),(8,.ref 0),(9,.int .i64 x3)] [(0,.own false (.int .i64) x4)])
theorem s0 (n0:Nat):V0 k a0 a1 a2 (n0+1)=b0 k (V0 k a0 a1 a2 n0):=by kernel_rfl
theorem e0:V0 k a0 a1 a2=l0 k:=loop_eq rfl (s0 k a0 a1 a2) fun _=>rfl
end
theorem eq (k:Nat) (a0:ByteArray) (a1:Int) (a2:Int):rn (E k) Tryz.f149 (C k) (a0,a1,a2,())=f k a0 a1 a2:=(show _=t k (V0 k a0 a1 a2 k) a0 a1 a2 by kernel_rfl).trans (by rw [e0];rfl)
theorem ctr (k:Nat):Cp 149 (C k):=rc rfl (D k) (by kernel_rfl) Tryz.func149 (by kernel_rfl) rfl fun ⟨a0,a1,a2,_⟩ r h=>(eq k a0 a1 a2).trans h
end spec_l10Vars
namespace spec_DirOk
def C (k:Nat):Cn:=⟨[.val (.slice TEntry)],[.bool],true,false,fun x=>f k x.1⟩
def D (k:Nat):List Ce:=[q (spec_KeyOk.ctr k),q (spec_l1In.ctr k)]
def E (k:Nat):Env:=en (D k) [(4,[0,3])] 0 [] k
section
variable (k:Nat) (a0:List (Ty.den TEntry))
def K0:Ex→St→Rs:=runK (E k) (eK (E k) Tryz.f161 (C k) (a0,())) [.blk 0,.code (at_ (bt 3 7) (body Tryz.f161))]
def V0 (n0:Nat):T0:=fun x0 x1=>loopN (exec (E k) (at_ (bt 6 11) (body Tryz.f161))) (canon 0 [0,3]) (K0 k a0) n0 (mk 60 0 [(0,.sl true TEntry x0),(3,.int .i64 x1)] [])
theorem s0 (n0:Nat):V0 k a0 (n0+1)=b0 k (V0 k a0 n0):=by kernel_rfl
theorem e0:V0 k a0=l0 k:=loop_eq rfl (s0 k a0) fun _=>rfl
end
theorem eq (k:Nat) (a0:List (Ty.den TEntry)):rn (E k) Tryz.f161 (C k) (a0,())=f k a0:=(show _=t k (V0 k a0 k) a0 by kernel_rfl).trans (by rw [e0];rfl)
theorem ctr (k:Nat):Cp 161 (C k):=rc rfl (D k) (by kernel_rfl) Tryz.func161 (by kernel_rfl) rfl fun ⟨a0,_⟩ r h=>(eq k a0).trans h
end spec_DirOk
namespace spec_l10Ok
def C (k:Nat):Cn:=⟨[.val THint],[.bool],true,false,fun x=>f k x.1⟩
def D (k:Nat):List Ce:=[q (spec_l1In.ctr k),q (spec_DirOk.ctr k)]
def E (k:Nat):Env:=en (D k) [(4,[1,3])] 0 [] k
section
variable (k:Nat) (a0:Ty.den THint)
def K0:Ex→St→Rs:=runK (E k) (eK (E k) Tryz.f202 (C k) (a0,())) [.blk 0,.code (at_ (bt 3 7) (body Tryz.f202))]
def V0 (n0:Nat):T0:=fun x0 x1 x2 x3=>loopN (exec (E k) (at_ (bt 6 11) (body Tryz.f202))) (canon 0 [1,3]) (K0 k a0) n0 (mk 48 1 [(1,.ptr 0 0 0),(3,.int .i64 x0)] [(0,.box [.int .i64 x1,.int .i64 x2,.sl true TEntry x3])])
theorem s0 (n0:Nat):V0 k a0 (n0+1)=b0 k (V0 k a0 n0):=by kernel_rfl
theorem e0:V0 k a0=l0 k:=loop_eq rfl (s0 k a0) fun _=>rfl
end
theorem eq (k:Nat) (a0:Ty.den THint):rn (E k) Tryz.f202 (C k) (a0,())=f k a0:=(show _=t k (V0 k a0 k) a0 by kernel_rfl).trans (by rw [e0];rfl)
theorem ctr (k:Nat):Cp 202 (C k):=rc rfl (D k) (by kernel_rfl) Tryz.func202 (by kernel_rfl) rfl fun ⟨a0,_⟩ r h=>(eq k a0).trans h
end spec_l10Ok
namespace spec_ShowHint
def C (k:Nat):Cn:=⟨[.val THint],[.str],true,false,fun x=>f k x.1⟩
def D (k:Nat):List Ce:=[q (spec_l10Ok.ctr k),q (spec_Var.ctr k),q (spec_Crc.ctr k),q (spec_Fixed.ctr k)]
def E (k:Nat):Env:=en (D k) [(5,[1,3,4])] 0 [] k
section
variable (k:Nat) (a0:Ty.den THint)
def K0:Ex→St→Rs:=runK (E k) (eK (E k) Tryz.f151 (C k) (a0,())) [.blk 0,.code (at_ (bt 4 15) (body Tryz.f151))]
def V0 (n0:Nat):T0:=fun x0 x1 x2 x3 x4=>loopN (exec (E k) (at_ (bt 7 23) (body Tryz.f151))) (canon 0 [1,3,4]) (K0 k a0) n0 (mk 63 1 [(1,.ptr 0 0 0),(3,.str x0),(4,.int .i64 x1)] [(0,.box [.int .i64 x2,.int .i64 x3,.sl true TEntry x4])])
theorem s0 (n0:Nat):V0 k a0 (n0+1)=b0 k (V0 k a0 n0):=by kernel_rfl
theorem e0:V0 k a0=l0 k:=loop_eq rfl (s0 k a0) fun _=>rfl
end
theorem eq (k:Nat) (a0:Ty.den THint):rn (E k) Tryz.f151 (C k) (a0,())=f k a0:=(show _=t k (V0 k a0 k) a0 by kernel_rfl).trans (by rw [e0];rfl)
theorem ctr (k:Nat):Cp 151 (C k):=rc rfl (D k) (by kernel_rfl) Tryz.func151 (by kernel_rfl) rfl fun ⟨a0,_⟩ r h=>(eq k a0).trans h
end spec_ShowHint
namespace spec_ReadHint
def C (k:Nat):Cn:=⟨[.val .str],[THint,.bool],true,false,fun x=>f k x.1⟩
def D (k:Nat):List Ce:=[q (spec_l10Vars.ctr k),q (spec_l5Text.ctr k),q (spec_ShowHint.ctr k)]
def E (k:Nat):Env:=en (D k) [(8,[0,2,4,5,6,7])] 0 [] k
section
variable (k:Nat) (a0:ByteArray)
def K0:Ex→St→Rs:=runK (E k) (eK (E k) Tryz.f113 (C k) (a0,())) [.blk 0,.code (at_ (bt 6 63) (body Tryz.f113))]
def V0 (n0:Nat):T0:=fun x0 x1 x2 x3 x4 x5 x6 x7 x8 x9=>loopN (exec (E k) (at_ (bt 9 95) (body Tryz.f113))) (canon 0 [0,2,4,5,6,7]) (K0 k a0) n0 (mk 97 5 [(0,.str x0),(2,.ptr 0 0 0),(4,.ref 2),(5,.int .i64 x1),(6,.ptr 3 0 0),(7,.int .i64 x2)] [(1,.own false TEntry x3),(0,.box [.int .i64 x4,.int .i64 x5,.ref 1]),(2,.own false (.int .i64) x6),(4,.own false TEntry x7),(3,.box [.int .i64 x8,.int .i64 x9,.ref 4])])
theorem s0 (n0:Nat):V0 k a0 (n0+1)=b0 k (V0 k a0 n0):=by kernel_rfl
theorem e0:V0 k a0=l0 k:=loop_eq rfl (s0 k a0) fun _=>rfl
end
theorem eq (k:Nat) (a0:ByteArray):rn (E k) Tryz.f113 (C k) (a0,())=f k a0:=(show _=t k (V0 k a0 k) a0 by kernel_rfl).trans (by rw [e0];rfl)
theorem ctr (k:Nat):Cp 113 (C k):=rc rfl (D k) (by kernel_rfl) Tryz.func113 (by kernel_rfl) rfl fun ⟨a0,_⟩ r h=>(eq k a0).trans h
end spec_ReadHint
namespace spec_SumOf
def C (k:Nat):Cn:=⟨[.val (.slice TRec)],[(.int .i64)],true,false,fun x=>f k x.1⟩
def D (k:Nat):List Ce:=[q (spec_ShowRec.ctr k),q (spec_Crc.ctr k)]
def E (k:Nat):Env:=en (D k) [(3,[0,3,4])] 0 [] k
section
variable (k:Nat) (a0:List (Ty.den TRec))
def K0:Ex→St→Rs:=runK (E k) (eK (E k) Tryz.f205 (C k) (a0,())) [.blk 0,.code (at_ (bt 3 7) (body Tryz.f205))]
def V0 (n0:Nat):T0:=fun x0 x1 x2=>loopN (exec (E k) (at_ (bt 6 11) (body Tryz.f205))) (canon 0 [0,3,4]) (K0 k a0) n0 (mk 20 0 [(0,.sl true TRec x0),(3,.str x1),(4,.int .i64 x2)] [])
theorem s0 (n0:Nat):V0 k a0 (n0+1)=b0 k (V0 k a0 n0):=by kernel_rfl
theorem e0:V0 k a0=l0 k:=loop_eq rfl (s0 k a0) fun _=>rfl
end
theorem eq (k:Nat) (a0:List (Ty.den TRec)):rn (E k) Tryz.f205 (C k) (a0,())=f k a0:=(show _=t k (V0 k a0 k) a0 by kernel_rfl).trans (by rw [e0];rfl)
theorem ctr (k:Nat):Cp 205 (C k):=rc rfl (D k) (by kernel_rfl) Tryz.func205 (by kernel_rfl) rfl fun ⟨a0,_⟩ r h=>(eq k a0).trans h
end spec_SumOf
namespace spec_HintOf
def C (k:Nat):Cn:=⟨[.val (.int .i64),.val .str],[THint,.bool],true,false,fun x=>f k x.1 x.2.1⟩
def D (k:Nat):List Ce:=[q (spec_ScanRecs.ctr k),q (spec_SegName.ctr k),q (spec_SumOf.ctr k)]
def E (k:Nat):Env:=en (D k) [(7,[0,4,6,8,9,10])] 0 [] k
section
variable (k:Nat) (a0:Int) (a1:ByteArray)
def K0:Ex→St→Rs:=runK (E k) (eK (E k) Tryz.f152 (C k) (a0,a1,())) [.blk 0,.code (at_ (bt 6 63) (body Tryz.f152))]
def V0 (n0:Nat):T0:=fun x0 x1 x2 x3 x4 x5 x6 x7 x8 x9=>loopN (exec (E k) (at_ (bt 9 95) (body Tryz.f152))) (canon 0 [0,4,6,8,9,10]) (K0 k a0 a1) n0 (mk 141 6 [(0,.int .i64 x0),(4,.ptr 0 0 0),(6,.ref 2),(8,.ptr 3 0 0),(9,.ref 5),(10,.int .i64 x1)] [(1,.own false TEntry x2),(0,.box [.int .i64 x3,.int .i64 x4,.ref 1]),(2,.own false TSpot x5),(4,.own false TEntry x6),(3,.box [.int .i64 x7,.int .i64 x8,.ref 4]),(5,.own false TRec x9)])
theorem s0 (n0:Nat):V0 k a0 a1 (n0+1)=b0 k (V0 k a0 a1 n0):=by kernel_rfl
theorem e0:V0 k a0 a1=l0 k:=loop_eq rfl (s0 k a0 a1) fun _=>rfl
end
theorem eq (k:Nat) (a0:Int) (a1:ByteArray):rn (E k) Tryz.f152 (C k) (a0,a1,())=f k a0 a1:=(show _=t k (V0 k a0 a1 k) a0 a1 by kernel_rfl).trans (by rw [e0];rfl)
theorem ctr (k:Nat):Cp 152 (C k):=rc rfl (D k) (by kernel_rfl) Tryz.func152 (by kernel_rfl) rfl fun ⟨a0,a1,_⟩ r h=>(eq k a0 a1).trans h
end spec_HintOf
namespace spec_SameDir
def C (k:Nat):Cn:=⟨[.val (.slice TEntry),.val (.slice TEntry)],[.bool],true,false,fun x=>f k x.1 x.2.1⟩
def E (k:Nat):Env:=en [] [(4,[0,1,5])] 0 [] k
section
variable (k:Nat) (a0:List (Ty.den TEntry)) (a1:List (Ty.den TEntry))
def K0:Ex→St→Rs:=runK (E k) (eK (E k) Tryz.f153 (C k) (a0,a1,())) [.blk 0,.code (at_ (bt 3 7) (body Tryz.f153))]
def V0 (n0:Nat):T0:=fun x0 x1 x2=>loopN (exec (E k) (at_ (bt 6 11) (body Tryz.f153))) (canon 0 [0,1,5]) (K0 k a0 a1) n0 (mk 26 0 [(0,.sl true TEntry x0),(1,.sl true TEntry x1),(5,.int .i64 x2)] [])
theorem s0 (n0:Nat):V0 k a0 a1 (n0+1)=b0 k (V0 k a0 a1 n0):=by kernel_rfl
theorem e0:V0 k a0 a1=l0 k:=loop_eq rfl (s0 k a0 a1) fun _=>rfl
end
theorem eq (k:Nat) (a0:List (Ty.den TEntry)) (a1:List (Ty.den TEntry)):rn (E k) Tryz.f153 (C k) (a0,a1,())=f k a0 a1:=(show _=t k (V0 k a0 a1 k) a0 a1 by kernel_rfl).trans (by rw [e0];rfl)
theorem ctr (k:Nat):Cp 153 (C k):=rc rfl [] (by kernel_rfl) Tryz.func153 (by kernel_rfl) rfl fun ⟨a0,a1,_⟩ r h=>(eq k a0 a1).trans h
end spec_SameDir
namespace spec_HintFits
def C (k:Nat):Cn:=⟨[.val (.int .i64),.val .str,.val THint],[.bool],true,false,fun x=>f k x.1 x.2.1 x.2.2.1⟩
def D (k:Nat):List Ce:=[q (spec_HintOf.ctr k),q (spec_SameDir.ctr k)]
def E (k:Nat):Env:=en (D k) [] 0 [] k
theorem eq (k:Nat) (a0:Int) (a1:ByteArray) (a2:Ty.den THint):rn (E k) Tryz.f114 (C k) (a0,a1,a2,())=f k a0 a1 a2:=by kernel_rfl
theorem ctr (k:Nat):Cp 114 (C k):=rc rfl (D k) (by kernel_rfl) Tryz.func114 (by kernel_rfl) rfl fun ⟨a0,a1,a2,_⟩ r h=>(eq k a0 a1 a2).trans h
end spec_HintFits
namespace spec_l11Places
def C (k:Nat):Cn:=⟨[.val (.int .i64),.val .str],[(.slice TPlace)],true,false,fun x=>f k x.1 x.2.1⟩
def D (k:Nat):List Ce:=[q (spec_ScanRecs.ctr k)]
def E (k:Nat):Env:=en (D k) [(4,[0,5,6,8])] 0 [] k
section
variable (k:Nat) (a0:Int) (a1:ByteArray)
def K0:Ex→St→Rs:=runK (E k) (eK (E k) Tryz.f115 (C k) (a0,a1,())) [.blk 0,.code (at_ (bt 4 15) (body Tryz.f115))]
def V0 (n0:Nat):T0:=fun x0 x1 x2 x3=>loopN (exec (E k) (at_ (bt 7 23) (body Tryz.f115))) (canon 0 [0,5,6,8]) (K0 k a0 a1) n0 (mk 42 2 [(0,.int .i64 x0),(5,.ref 0),(6,.ref 1),(8,.int .i64 x1)] [(0,.own false TPlace x2),(1,.own false TSpot x3)])
theorem s0 (n0:Nat):V0 k a0 a1 (n0+1)=b0 k (V0 k a0 a1 n0):=by kernel_rfl
theorem e0:V0 k a0 a1=l0 k:=loop_eq rfl (s0 k a0 a1) fun _=>rfl
end
theorem eq (k:Nat) (a0:Int) (a1:ByteArray):rn (E k) Tryz.f115 (C k) (a0,a1,())=f k a0 a1:=(show _=t k (V0 k a0 a1 k) a0 a1 by kernel_rfl).trans (by rw [e0];rfl)
theorem ctr (k:Nat):Cp 115 (C k):=rc rfl (D k) (by kernel_rfl) Tryz.func115 (by kernel_rfl) rfl fun ⟨a0,a1,_⟩ r h=>(eq k a0 a1).trans h
end spec_l11Places
namespace spec_l9Of
def C (k:Nat):Cn:=⟨[.val (.slice TPlace),.val (.int .i64),.val (.int .i64)],[(.slice TPlace)],true,false,fun x=>f k x.1 x.2.1 x.2.2.1⟩
def E (k:Nat):Env:=en [] [(3,[0,1,2,7,8])] 0 [] k
section
variable (k:Nat) (a0:List (Ty.den TPlace)) (a1:Int) (a2:Int)
def K0:Ex→St→Rs:=runK (E k) (eK (E k) Tryz.f154 (C k) (a0,a1,a2,())) [.blk 0,.code (at_ (bt 3 7) (body Tryz.f154))]
def V0 (n0:Nat):T0:=fun x0 x1 x2 x3 x4=>loopN (exec (E k) (at_ (bt 6 11) (body Tryz.f154))) (canon 0 [0,1,2,7,8]) (K0 k a0 a1 a2) n0 (mk 53 1 [(0,.sl true TPlace x0),(1,.int .i64 x1),(2,.int .i64 x2),(7,.ref 0),(8,.int .i64 x3)] [(0,.own false TPlace x4)])
theorem s0 (n0:Nat):V0 k a0 a1 a2 (n0+1)=b0 k (V0 k a0 a1 a2 n0):=by kernel_rfl
theorem e0:V0 k a0 a1 a2=l0 k:=loop_eq rfl (s0 k a0 a1 a2) fun _=>rfl
end
theorem eq (k:Nat) (a0:List (Ty.den TPlace)) (a1:Int) (a2:Int):rn (E k) Tryz.f154 (C k) (a0,a1,a2,())=f k a0 a1 a2:=(show _=t k (V0 k a0 a1 a2 k) a0 a1 a2 by kernel_rfl).trans (by rw [e0];rfl)
theorem ctr (k:Nat):Cp 154 (C k):=rc rfl [] (by kernel_rfl) Tryz.func154 (by kernel_rfl) rfl fun ⟨a0,a1,a2,_⟩ r h=>(eq k a0 a1 a2).trans h
end spec_l9Of
namespace spec_l9Recs
def C (k:Nat):Cn:=⟨[.val (.slice TPlace)],[(.slice TRec)],true,false,fun x=>f k x.1⟩
def E (k:Nat):Env:=en [] [(3,[0,3,4])] 0 [] k
section
variable (k:Nat) (a0:List (Ty.den TPlace))
def K0:Ex→St→Rs:=runK (E k) (eK (E k) Tryz.f206 (C k) (a0,())) [.blk 0,.code (at_ (bt 3 7) (body Tryz.f206))]
def V0 (n0:Nat):T0:=fun x0 x1 x2=>loopN (exec (E k) (at_ (bt 6 11) (body Tryz.f206))) (canon 0 [0,3,4]) (K0 k a0) n0 (mk 21 1 [(0,.sl true TPlace x0),(3,.ref 0),(4,.int .i64 x1)] [(0,.own false TRec x2)])
theorem s0 (n0:Nat):V0 k a0 (n0+1)=b0 k (V0 k a0 n0):=by kernel_rfl
theorem e0:V0 k a0=l0 k:=loop_eq rfl (s0 k a0) fun _=>rfl
end
theorem eq (k:Nat) (a0:List (Ty.den TPlace)):rn (E k) Tryz.f206 (C k) (a0,())=f k a0:=(show _=t k (V0 k a0 k) a0 by kernel_rfl).trans (by rw [e0];rfl)
theorem ctr (k:Nat):Cp 206 (C k):=rc rfl [] (by kernel_rfl) Tryz.func206 (by kernel_rfl) rfl fun ⟨a0,_⟩ r h=>(eq k a0).trans h
end spec_l9Recs
namespace spec_l9Fits
def C (k:Nat):Cn:=⟨[.val TRec,.val (.slice TPlace)],[.bool],true,false,fun x=>f k x.1 x.2.1⟩
def D (k:Nat):List Ce:=[q (spec_l9Recs.ctr k),q (spec_SumOf.ctr k)]
def E (k:Nat):Env:=en (D k) [] 0 [] k
theorem eq (k:Nat) (a0:Ty.den TRec) (a1:List (Ty.den TPlace)):rn (E k) Tryz.f155 (C k) (a0,a1,())=f k a0 a1:=by kernel_rfl
theorem ctr (k:Nat):Cp 155 (C k):=rc rfl (D k) (by kernel_rfl) Tryz.func155 (by kernel_rfl) rfl fun ⟨a0,a1,_⟩ r h=>(eq k a0 a1).trans h
end spec_l9Fits
namespace spec_DirDrop
def C (k:Nat):Cn:=⟨[.val (.slice TEntry),.val .str],[(.slice TEntry)],true,false,fun x=>f k x.1 x.2.1⟩
def E (k:Nat):Env:=en [] [(3,[0,1,5,6])] 0 [] k
section
variable (k:Nat) (a0:List (Ty.den TEntry)) (a1:ByteArray)
def K0:Ex→St→Rs:=runK (E k) (eK (E k) Tryz.f162 (C k) (a0,a1,())) [.blk 0,.code (at_ (bt 3 7) (body Tryz.f162))]
def V0 (n0:Nat):T0:=fun x0 x1 x2 x3=>loopN (exec (E k) (at_ (bt 6 11) (body Tryz.f162))) (canon 0 [0,1,5,6]) (K0 k a0 a1) n0 (mk 29 1 [(0,.sl true TEntry x0),(1,.str x1),(5,.ref 0),(6,.int .i64 x2)] [(0,.own false TEntry x3)])
theorem s0 (n0:Nat):V0 k a0 a1 (n0+1)=b0 k (V0 k a0 a1 n0):=by kernel_rfl
theorem e0:V0 k a0 a1=l0 k:=loop_eq rfl (s0 k a0 a1) fun _=>rfl
end
theorem eq (k:Nat) (a0:List (Ty.den TEntry)) (a1:ByteArray):rn (E k) Tryz.f162 (C k) (a0,a1,())=f k a0 a1:=(show _=t k (V0 k a0 a1 k) a0 a1 by kernel_rfl).trans (by rw [e0];rfl)
theorem ctr (k:Nat):Cp 162 (C k):=rc rfl [] (by kernel_rfl) Tryz.func162 (by kernel_rfl) rfl fun ⟨a0,a1,_⟩ r h=>(eq k a0 a1).trans h
end spec_DirDrop
namespace spec_DirPut
def C (k:Nat):Cn:=⟨[.val (.slice TEntry),.val TEntry],[(.slice TEntry)],true,false,fun x=>f k x.1 x.2.1⟩
def E (k:Nat):Env:=en [] [(4,[0,3,5,6,7])] 0 [] k
section
variable (k:Nat) (a0:List (Ty.den TEntry)) (a1:Ty.den TEntry)
def K0:Ex→St→Rs:=runK (E k) (eK (E k) Tryz.f163 (C k) (a0,a1,())) [.blk 0,.code (at_ (bt 4 15) (body Tryz.f163))]
def V0 (n0:Nat):T0:=fun x0 x1 x2 x3 x4 x5 x6 x7 x8=>loopN (exec (E k) (at_ (bt 7 23) (body Tryz.f163))) (canon 0 [0,3,5,6,7]) (K0 k a0 a1) n0 (mk 53 2 [(0,.sl true TEntry x0),(3,.ptr 0 0 0),(5,.ref 1),(6,.bool x1),(7,.int .i64 x2)] [(0,.box [.str x3,.int .i64 x4,.int .i64 x5,.int .i64 x6,.int .i64 x7]),(1,.own false TEntry x8)])
theorem s0 (n0:Nat):V0 k a0 a1 (n0+1)=b0 k (V0 k a0 a1 n0):=by kernel_rfl
theorem e0:V0 k a0 a1=l0 k:=loop_eq rfl (s0 k a0 a1) fun _=>rfl
end
theorem eq (k:Nat) (a0:List (Ty.den TEntry)) (a1:Ty.den TEntry):rn (E k) Tryz.f163 (C k) (a0,a1,())=f k a0 a1:=(show _=t k (V0 k a0 a1 k) a0 a1 by kernel_rfl).trans (by rw [e0];rfl)
theorem ctr (k:Nat):Cp 163 (C k):=rc rfl [] (by kernel_rfl) Tryz.func163 (by kernel_rfl) rfl fun ⟨a0,a1,_⟩ r h=>(eq k a0 a1).trans h
end spec_DirPut
namespace spec_l9Put
def C (k:Nat):Cn:=⟨[.val (.slice TEntry),.val TPlace],[(.slice TEntry)],true,false,fun x=>f k x.1 x.2.1⟩
def D (k:Nat):List Ce:=[q (spec_DirDrop.ctr k),q (spec_DirPut.ctr k)]
def E (k:Nat):Env:=en (D k) [] 0 [] k
theorem eq (k:Nat) (a0:List (Ty.den TEntry)) (a1:Ty.den TPlace):rn (E k) Tryz.f157 (C k) (a0,a1,())=f k a0 a1:=by kernel_rfl
theorem ctr (k:Nat):Cp 157 (C k):=rc rfl (D k) (by kernel_rfl) Tryz.func157 (by kernel_rfl) rfl fun ⟨a0,a1,_⟩ r h=>(eq k a0 a1).trans h
end spec_l9Put
namespace spec_l9Kept
def C (k:Nat):Cn:=⟨[.val (.slice TPlace),.val (.int .i64)],[(.slice TPlace)],true,false,fun x=>f k x.1 x.2.1⟩
def E (k:Nat):Env:=en [] [(3,[0,1,5,6])] 0 [] k
section
variable (k:Nat) (a0:List (Ty.den TPlace)) (a1:Int)
def K0:Ex→St→Rs:=runK (E k) (eK (E k) Tryz.f156 (C k) (a0,a1,())) [.blk 0,.code (at_ (bt 3 7) (body Tryz.f156))]
def V0 (n0:Nat):T0:=fun x0 x1 x2 x3=>loopN (exec (E k) (at_ (bt 6 11) (body Tryz.f156))) (canon 0 [0,1,5,6]) (K0 k a0 a1) n0 (mk 36 1 [(0,.sl true TPlace x0),(1,.int .i64 x1),(5,.ref 0),(6,.int .i64 x2)] [(0,.own false TPlace x3)])
theorem s0 (n0:Nat):V0 k a0 a1 (n0+1)=b0 k (V0 k a0 a1 n0):=by kernel_rfl
theorem e0:V0 k a0 a1=l0 k:=loop_eq rfl (s0 k a0 a1) fun _=>rfl
end
theorem eq (k:Nat) (a0:List (Ty.den TPlace)) (a1:Int):rn (E k) Tryz.f156 (C k) (a0,a1,())=f k a0 a1:=(show _=t k (V0 k a0 a1 k) a0 a1 by kernel_rfl).trans (by rw [e0];rfl)
theorem ctr (k:Nat):Cp 156 (C k):=rc rfl [] (by kernel_rfl) Tryz.func156 (by kernel_rfl) rfl fun ⟨a0,a1,_⟩ r h=>(eq k a0 a1).trans h
end spec_l9Kept
namespace spec_Regroup
def C (k:Nat):Cn:=⟨[.val TGroup,.val (.slice TPlace)],[TGroup],true,false,fun x=>f k x.1 x.2.1⟩
def D (k:Nat):List Ce:=[q (spec_l9Of.ctr k),q (spec_l9Fits.ctr k),q (spec_l9Put.ctr k),q (spec_l9Kept.ctr k)]
def E (k:Nat):Env:=en (D k) [(3,[1,4,5,6]),(17,[1,4,5,6,8,9])] 0 [] k
section
variable (k:Nat) (a0:Ty.den TGroup) (a1:List (Ty.den TPlace))
def K0:Ex→St→Rs:=runK (E k) (eK (E k) Tryz.f116 (C k) (a0,a1,())) [.blk 0,.code (at_ (bt 3 7) (body Tryz.f116))]
def B0 (n0:Nat):Ex→St→Rs:=lpK (E k) (at_ (bt 6 11) (body Tryz.f116)) 0 [1,4,5,6] (K0 k a0 a1) n0
def K1 (n0:Nat):Ex→St→Rs:=runK (E k) (B0 k a0 a1 n0) [.blk 3,.code (at_ (bt 14 15947) (body Tryz.f116)),.blk 1,.code (at_ (bt 8 203) (body Tryz.f116))]
def V0 (n0:Nat):T0:=fun x0 x1 x2 x3 x4 x5 x6 x7=>loopN (exec (E k) (at_ (bt 6 11) (body Tryz.f116))) (canon 0 [1,4,5,6]) (K0 k a0 a1) n0 (mk 97 4 [(1,.sl true TPlace x0),(4,.ptr 0 0 0),(5,.ptr 2 0 0),(6,.int .i64 x1)] [(1,.own false TEntry x2),(0,.box [.ref 1,.int .i64 x3,.int .i64 x4]),(3,.own false TEntry x5),(2,.box [.ref 3,.int .i64 x6,.int .i64 x7])])
def V1 (n0 n1:Nat):T1:=fun x0 x1 x2 x3 x4 x5 x6 x7 x8 x9=>loopN (exec (E k) (at_ (bt 17 24139) (body Tryz.f116))) (canon 0 [1,4,5,6,8,9]) (K1 k a0 a1 n0) n1 (mk 97 5 [(1,.sl true TPlace x0),(4,.ptr 0 0 0),(5,.ptr 2 0 0),(6,.int .i64 x1),(8,.ref 4),(9,.int .i64 x2)] [(1,.own false TEntry x3),(0,.box [.ref 1,.int .i64 x4,.int .i64 x5]),(3,.own false TEntry x6),(2,.box [.ref 3,.int .i64 x7,.int .i64 x8]),(4,.own false TPlace x9)])
theorem s0 (n0:Nat):V0 k a0 a1 (n0+1)=b0 k (V1 k a0 a1 n0 k) (V0 k a0 a1 n0):=by kernel_rfl
theorem s1 (n0 n1:Nat):V1 k a0 a1 n0 (n1+1)=b1 k (V0 k a0 a1 n0) (V1 k a0 a1 n0 n1):=by kernel_rfl
theorem e1 (n0:Nat):V1 k a0 a1 n0=l1 k (V0 k a0 a1 n0):=loop_eq rfl (s1 k a0 a1 n0) fun _=>rfl
theorem e0 (n0:Nat):V0 k a0 a1 n0=l0 k n0:=by
 induction n0 with
 | zero=>rfl
 | succ n0 ih =>
  have h:V0 k a0 a1 (n0+1)=b0 k (V1 k a0 a1 n0 k) (V0 k a0 a1 n0):=s0 k a0 a1 n0
  rw [h,e1,ih]
  rfl
end
theorem eq (k:Nat) (a0:Ty.den TGroup) (a1:List (Ty.den TPlace)):rn (E k) Tryz.f116 (C k) (a0,a1,())=f k a0 a1:=(show _=t k (V0 k a0 a1 k) a0 a1 by kernel_rfl).trans (by rw [e0];rfl)
theorem ctr (k:Nat):Cp 116 (C k):=rc rfl (D k) (by kernel_rfl) Tryz.func116 (by kernel_rfl) rfl fun ⟨a0,a1,_⟩ r h=>(eq k a0 a1).trans h
end spec_Regroup
namespace spec_l11Sweep_g
def C (k:Nat):Cn:=⟨[.give TDisk,.val TLive],[TDisk,(.int .i64)],true,false,fun x=>f k x.1 x.2.1⟩
def D (k:Nat):List Ce:=[q (spec_Orphans.ctr k),q (spec_Remove.ctr k),q (spec_l11Code.ctr k)]
def E (k:Nat):Env:=en (D k) [(3,[2,4,6,7])] 0 [] k
section
variable (k:Nat) (a0:Ty.den TDisk) (a1:Ty.den TLive)
def K0:Ex→St→Rs:=runK (E k) (eK (E k) Tryz.f117 (C k) (a0,a1,())) [.blk 0,.code (at_ (bt 3 7) (body Tryz.f117))]
def V0 (n0:Nat):T0:=fun x0 x1 x2 x3 x4 x5 x6 x7 x8 x9=>loopN (exec (E k) (at_ (bt 6 11) (body Tryz.f117))) (canon 0 [2,4,6,7]) (K0 k a0 a1) n0 (mk 35 5 [(2,.ptr 0 0 0),(4,.ptr 2 0 0),(6,.ref 4),(7,.int .i64 x0)] [(1,.own false TPair x1),(0,.box [.ref 1,.int .i64 x2,.int .i64 x3,.bool x4]),(3,.own false TPair x5),(2,.box [.ref 3,.int .i64 x6,.int .i64 x7,.bool x8]),(4,.own false .str x9)])
theorem s0 (n0:Nat):V0 k a0 a1 (n0+1)=b0 k (V0 k a0 a1 n0):=by kernel_rfl
theorem e0:V0 k a0 a1=l0 k:=loop_eq rfl (s0 k a0 a1) fun _=>rfl
end
theorem eq (k:Nat) (a0:Ty.den TDisk) (a1:Ty.den TLive):rn (E k) Tryz.f117 (C k) (a0,a1,())=f k a0 a1:=(show _=t k (V0 k a0 a1 k) a0 a1 by kernel_rfl).trans (by rw [e0];rfl)
theorem ctr (k:Nat):Cp 117 (C k):=rc rfl (D k) (by kernel_rfl) Tryz.func117 (by kernel_rfl) rfl fun ⟨a0,a1,_⟩ r h=>(eq k a0 a1).trans h
end spec_l11Sweep_g
namespace spec_l11First_g
def C (k:Nat):Cn:=⟨[.give TDisk],[TStore,TDisk,(.int .i64)],true,false,fun x=>f k x.1⟩
def D (k:Nat):List Ce:=[q (spec_l11Sweep_g.ctr k),q (spec_SegName.ctr k),q (spec_Create.ctr k),q (spec_l11Code.ctr k),q (spec_PutLive.ctr k)]
def E (k:Nat):Env:=en (D k) [] 0 [] k
theorem eq (k:Nat) (a0:Ty.den TDisk):rn (E k) Tryz.f106 (C k) (a0,())=f k a0:=by kernel_rfl
theorem ctr (k:Nat):Cp 106 (C k):=rc rfl (D k) (by kernel_rfl) Tryz.func106 (by kernel_rfl) rfl fun ⟨a0,_⟩ r h=>(eq k a0).trans h
end spec_l11First_g
namespace spec_Open_g
def C (k:Nat):Cn:=⟨[.give TDisk],[TStore,TDisk,(.int .i64)],true,false,fun x=>f k x.1⟩
def D (k:Nat):List Ce:=[q (spec_DiskOk.ctr k),q (spec_l3Copy.ctr k),q (spec_FileText.ctr k),q (spec_l11First_g.ctr k),q (spec_ReadLive.ctr k),q (spec_SegName.ctr k),q (spec_ScanRecs.ctr k),q (spec_Truncate.ctr k),q (spec_l11Code.ctr k),q (spec_Sync.ctr k),q (spec_HintName.ctr k),q (spec_ReadHint.ctr k),q (spec_HintFits.ctr k),q (spec_l11Places.ctr k),q (spec_Regroup.ctr k),q (spec_l11Sweep_g.ctr k)]
def E (k:Nat):Env:=en (D k) [(14,[1,2,3,5,8,9,10]),(35,[2,3,5,8,19,23,24,25,26])] 0 [] k
section
variable (k:Nat) (a0:Ty.den TDisk)
def K0:Ex→St→Rs:=runK (E k) (eK (E k) Tryz.f71 (C k) (a0,())) [.blk 0,.code (at_ (bt 10 1023) (body Tryz.f71))]
def K1:Ex→St→Rs:=runK (E k) (eK (E k) Tryz.f71 (C k) (a0,())) [.blk 2,.code (at_ (bt 20 1048575) (body Tryz.f71))]
def V0 (n0:Nat):T0:=fun x0 x1 x2 x3 x4 x5 x6 x7 x8 x9 x10 x11 x12 x13 x14 x15 x16 x17 x18 x19 x20 x21 x22 x23=>loopN (exec (E k) (at_ (bt 13 1535) (body Tryz.f71))) (canon 0 [1,2,3,5,8,9,10]) (K0 k a0) n0 (mk 268 12 [(1,.ptr 0 0 0),(2,.ptr 2 0 0),(3,.ptr 5 0 0),(5,.ptr 7 0 0),(8,.ptr 10 0 0),(9,.int .i64 x0),(10,.int .i64 x1)] [(1,.own false TPair x2),(0,.box [.ref 1,.int .i64 x3,.int .i64 x4,.bool x5]),(3,.own false (.int .i64) x6),(4,.own false TEntry x7),(2,.box [.int .i64 x8,.ref 3,.ref 4,.int .i64 x9,.int .i64 x10,.int .i64 x11]),(6,.own false TPair x12),(5,.box [.ref 6,.int .i64 x13,.int .i64 x14,.bool x15]),(8,.own false (.int .i64) x16),(9,.own false TEntry x17),(7,.box [.int .i64 x18,.ref 8,.ref 9,.int .i64 x19,.int .i64 x20,.int .i64 x21]),(11,.own false (.int .i64) x22),(10,.box [.int .i64 x23,.ref 11])])
def V1 (n1:Nat):T1:=fun x0 x1 x2 x3 x4 x5 x6 x7 x8 x9 x10 x11 x12 x13 x14 x15 x16 x17 x18 x19 x20 x21 x22 x23 x24 x25 x26 x27 x28 x29 x30 x31=>loopN (exec (E k) (at_ (bt 23 1572863) (body Tryz.f71))) (canon 0 [2,3,5,8,19,23,24,25,26]) (K1 k a0) n1 (mk 268 17 [(2,.ptr 0 0 0),(3,.ptr 3 0 0),(5,.ptr 5 0 0),(8,.ptr 8 0 0),(19,.ptr 10 0 0),(23,.ptr 12 0 0),(24,.ptr 14 0 0),(25,.ref 16),(26,.int .i64 x0)] [(1,.own false (.int .i64) x1),(2,.own false TEntry x2),(0,.box [.int .i64 x3,.ref 1,.ref 2,.int .i64 x4,.int .i64 x5,.int .i64 x6]),(4,.own false TPair x7),(3,.box [.ref 4,.int .i64 x8,.int .i64 x9,.bool x10]),(6,.own false (.int .i64) x11),(7,.own false TEntry x12),(5,.box [.int .i64 x13,.ref 6,.ref 7,.int .i64 x14,.int .i64 x15,.int .i64 x16]),(9,.own false (.int .i64) x17),(8,.box [.int .i64 x18,.ref 9]),(11,.own false TPair x19),(10,.box [.ref 11,.int .i64 x20,.int .i64 x21,.bool x22]),(13,.own false TEntry x23),(12,.box [.int .i64 x24,.ref 9,.ref 13,.int .i64 x25,.int .i64 x26,.int .i64 x27]),(15,.own false TEntry x28),(14,.box [.ref 15,.int .i64 x29,.int .i64 x30]),(16,.own false TPlace x31)])
def V2 (n1:Nat):T2:=fun x0 x1 x2 x3 x4 x5 x6 x7 x8 x9 x10 x11 x12 x13 x14 x15 x16 x17 x18 x19 x20 x21 x22 x23 x24 x25 x26 x27 x28 x29 x30 x31=>loopN (exec (E k) (at_ (bt 23 1572863) (body Tryz.f71))) (canon 0 [2,3,5,8,19,23,24,25,26]) (K1 k a0) n1 (mk 268 17 [(2,.ptr 0 0 0),(3,.ptr 3 0 0),(5,.ptr 5 0 0),(8,.ptr 8 0 0),(19,.ptr 10 0 0),(23,.ptr 12 0 0),(24,.ptr 14 0 0),(25,.ref 16),(26,.int .i64 x0)] [(1,.own false (.int .i64) x1),(2,.own false TEntry x2),(0,.box [.int .i64 x3,.ref 1,.ref 2,.int .i64 x4,.int .i64 x5,.int .i64 x6]),(4,.own false TPair x7),(3,.box [.ref 4,.int .i64 x8,.int .i64 x9,.bool x10]),(6,.own false (.int .i64) x11),(7,.own false TEntry x12),(5,.box [.int .i64 x13,.ref 6,.ref 7,.int .i64 x14,.int .i64 x15,.int .i64 x16]),(9,.own false (.int .i64) x17),(8,.box [.int .i64 x18,.ref 9]),(11,.own false TPair x19),(10,.box [.ref 11,.int .i64 x20,.int .i64 x21,.bool x22]),(13,.own false TEntry x23),(12,.box [.int .i64 x24,.ref 9,.ref 13,.int .i64 x25,.int .i64 x26,.int .i64 x27]),(15,.own false TEntry x28),(14,.box [.ref 15,.int .i64 x29,.int .i64 x30]),(16,.own false TPlace x31)])
theorem s0 (n0:Nat):V0 k a0 (n0+1)=b0 k (V1 k a0 k) (V2 k a0 k) (V0 k a0 n0):=by kernel_rfl
theorem s1 (n1:Nat):V1 k a0 (n1+1)=b1 k (V1 k a0 n1):=by kernel_rfl
theorem s2 (n1:Nat):V2 k a0 (n1+1)=b2 k (V2 k a0 n1):=by kernel_rfl
theorem e1:V1 k a0=l1 k:=loop_eq rfl (s1 k a0) fun _=>rfl
theorem e2:V2 k a0=l2 k:=loop_eq rfl (s2 k a0) fun _=>rfl
theorem e0 (n0:Nat):V0 k a0 n0=l0 k n0:=by
 induction n0 with
 | zero=>rfl
 | succ n0 ih =>
  have h:V0 k a0 (n0+1)=b0 k (V1 k a0 k) (V2 k a0 k) (V0 k a0 n0):=s0 k a0 n0
  rw [h,e1,e2,ih]
  rfl
end
theorem eq (k:Nat) (a0:Ty.den TDisk):rn (E k) Tryz.f71 (C k) (a0,())=f k a0:=(show _=t k (V0 k a0 k) a0 by kernel_rfl).trans (by rw [e0];rfl)
theorem ctr (k:Nat):Cp 71 (C k):=rc rfl (D k) (by kernel_rfl) Tryz.func71 (by kernel_rfl) rfl fun ⟨a0,_⟩ r h=>(eq k a0).trans h
end spec_Open_g
namespace spec_l12Copy
def C (k:Nat):Cn:=⟨[.val TStore],[TStore],true,false,fun x=>f k x.1⟩
def E (k:Nat):Env:=en [] [] 0 [] k
theorem eq (k:Nat) (a0:Ty.den TStore):rn (E k) Tryz.f118 (C k) (a0,())=f k a0:=by kernel_rfl
theorem ctr (k:Nat):Cp 118 (C k):=rc rfl [] (by kernel_rfl) Tryz.func118 (by kernel_rfl) rfl fun ⟨a0,_⟩ r h=>(eq k a0).trans h
end spec_l12Copy
namespace spec_RecAt
def C (k:Nat):Cn:=⟨[.val .str,.val (.int .i64),.val (.int .i64)],[TRec,.bool],true,false,fun x=>f k x.1 x.2.1 x.2.2.1⟩
def D (k:Nat):List Ce:=[q (spec_l1In.ctr k),q (spec_Unframe.ctr k),q (spec_ReadRec.ctr k)]
def E (k:Nat):Env:=en (D k) [] 0 [] k
theorem eq (k:Nat) (a0:ByteArray) (a1:Int) (a2:Int):rn (E k) Tryz.f89 (C k) (a0,a1,a2,())=f k a0 a1 a2:=by kernel_rfl
theorem ctr (k:Nat):Cp 89 (C k):=rc rfl (D k) (by kernel_rfl) Tryz.func89 (by kernel_rfl) rfl fun ⟨a0,a1,a2,_⟩ r h=>(eq k a0 a1 a2).trans h
end spec_RecAt
namespace spec_StoreOk
def C (k:Nat):Cn:=⟨[.val TStore,.val TDisk],[.bool],true,false,fun x=>f k x.1 x.2.1⟩
def D (k:Nat):List Ce:=[q (spec_DiskOk.ctr k),q (spec_LiveOk.ctr k),q (spec_DirOk.ctr k),q (spec_l1In.ctr k),q (spec_SegName.ctr k),q (spec_FileText.ctr k),q (spec_ScanRecs.ctr k),q (spec_RecAt.ctr k)]
def E (k:Nat):Env:=en (D k) [(4,[2,3,5]),(11,[2,3,10])] 0 [] k
section
variable (k:Nat) (a0:Ty.den TStore) (a1:Ty.den TDisk)
def K0:Ex→St→Rs:=runK (E k) (eK (E k) Tryz.f119 (C k) (a0,a1,())) [.blk 0,.code (at_ (bt 3 7) (body Tryz.f119))]
def K1:Ex→St→Rs:=runK (E k) (eK (E k) Tryz.f119 (C k) (a0,a1,())) [.blk 2,.code (at_ (bt 4 15) (body Tryz.f119))]
def V0 (n0:Nat):T0:=fun x0 x1 x2 x3 x4 x5 x6 x7 x8 x9 x10=>loopN (exec (E k) (at_ (bt 6 11) (body Tryz.f119))) (canon 0 [2,3,5]) (K0 k a0 a1) n0 (mk 148 2 [(2,.ptr 0 0 0),(3,.ptr 1 0 0),(5,.int .i64 x0)] [(0,.box [.int .i64 x1,.sl true (.int .i64) x2,.sl true TEntry x3,.int .i64 x4,.int .i64 x5,.int .i64 x6]),(1,.box [.sl true TPair x7,.int .i64 x8,.int .i64 x9,.bool x10])])
def V1 (n1:Nat):T1:=fun x0 x1 x2 x3 x4 x5 x6 x7 x8 x9 x10=>loopN (exec (E k) (at_ (bt 7 23) (body Tryz.f119))) (canon 0 [2,3,10]) (K1 k a0 a1) n1 (mk 148 2 [(2,.ptr 0 0 0),(3,.ptr 1 0 0),(10,.int .i64 x0)] [(0,.box [.int .i64 x1,.sl true (.int .i64) x2,.sl true TEntry x3,.int .i64 x4,.int .i64 x5,.int .i64 x6]),(1,.box [.sl true TPair x7,.int .i64 x8,.int .i64 x9,.bool x10])])
theorem s0 (n0:Nat):V0 k a0 a1 (n0+1)=b0 k (V1 k a0 a1 k) (V0 k a0 a1 n0):=by kernel_rfl
theorem s1 (n1:Nat):V1 k a0 a1 (n1+1)=b1 k (V1 k a0 a1 n1):=by kernel_rfl
theorem e1:V1 k a0 a1=l1 k:=loop_eq rfl (s1 k a0 a1) fun _=>rfl
theorem e0 (n0:Nat):V0 k a0 a1 n0=l0 k n0:=by
 induction n0 with
 | zero=>rfl
 | succ n0 ih =>
  have h:V0 k a0 a1 (n0+1)=b0 k (V1 k a0 a1 k) (V0 k a0 a1 n0):=s0 k a0 a1 n0
  rw [h,e1,ih]
  rfl
end
theorem eq (k:Nat) (a0:Ty.den TStore) (a1:Ty.den TDisk):rn (E k) Tryz.f119 (C k) (a0,a1,())=f k a0 a1:=(show _=t k (V0 k a0 a1 k) a0 a1 by kernel_rfl).trans (by rw [e0];rfl)
theorem ctr (k:Nat):Cp 119 (C k):=rc rfl (D k) (by kernel_rfl) Tryz.func119 (by kernel_rfl) rfl fun ⟨a0,a1,_⟩ r h=>(eq k a0 a1).trans h
end spec_StoreOk
namespace spec_PutsOk
def C (k:Nat):Cn:=⟨[.val (.slice TPut)],[.bool],true,false,fun x=>f k x.1⟩
def D (k:Nat):List Ce:=[q (spec_KeyOk.ctr k)]
def E (k:Nat):Env:=en (D k) [(4,[0,3])] 0 [] k
section
variable (k:Nat) (a0:List (Ty.den TPut))
def K0:Ex→St→Rs:=runK (E k) (eK (E k) Tryz.f120 (C k) (a0,())) [.blk 0,.code (at_ (bt 3 7) (body Tryz.f120))]
def V0 (n0:Nat):T0:=fun x0 x1=>loopN (exec (E k) (at_ (bt 6 11) (body Tryz.f120))) (canon 0 [0,3]) (K0 k a0) n0 (mk 44 0 [(0,.sl true TPut x0),(3,.int .i64 x1)] [])
theorem s0 (n0:Nat):V0 k a0 (n0+1)=b0 k (V0 k a0 n0):=by kernel_rfl
theorem e0:V0 k a0=l0 k:=loop_eq rfl (s0 k a0) fun _=>rfl
end
theorem eq (k:Nat) (a0:List (Ty.den TPut)):rn (E k) Tryz.f120 (C k) (a0,())=f k a0:=(show _=t k (V0 k a0 k) a0 by kernel_rfl).trans (by rw [e0];rfl)
theorem ctr (k:Nat):Cp 120 (C k):=rc rfl (D k) (by kernel_rfl) Tryz.func120 (by kernel_rfl) rfl fun ⟨a0,_⟩ r h=>(eq k a0).trans h
end spec_PutsOk
namespace spec_l12After
def C (k:Nat):Cn:=⟨[.val (.slice TEntry),.val (.slice TPut)],[(.int .i64)],true,false,fun x=>f k x.1 x.2.1⟩
def D (k:Nat):List Ce:=[q (spec_DirDrop.ctr k),q (spec_DirPut.ctr k)]
def E (k:Nat):Env:=en (D k) [(2,[0,1,5])] 0 [] k
section
variable (k:Nat) (a0:List (Ty.den TEntry)) (a1:List (Ty.den TPut))
def K0:Ex→St→Rs:=runK (E k) (eK (E k) Tryz.f121 (C k) (a0,a1,())) [.blk 0,.code (at_ (bt 2 3) (body Tryz.f121))]
def V0 (n0:Nat):T0:=fun x0 x1 x2=>loopN (exec (E k) (at_ (bt 5 5) (body Tryz.f121))) (canon 0 [0,1,5]) (K0 k a0 a1) n0 (mk 34 0 [(0,.sl true TEntry x0),(1,.sl true TPut x1),(5,.int .i64 x2)] [])
def V1 (n0:Nat):T1:=fun x0 x1 x2=>loopN (exec (E k) (at_ (bt 5 5) (body Tryz.f121))) (canon 0 [0,1,5]) (K0 k a0 a1) n0 (mk 34 1 [(0,.ref 0),(1,.sl true TPut x0),(5,.int .i64 x1)] [(0,.own false TEntry x2)])
theorem s0 (n0:Nat):V0 k a0 a1 (n0+1)=b0 k (V1 k a0 a1 n0):=by kernel_rfl
theorem s1 (n0:Nat):V1 k a0 a1 (n0+1)=b1 k (V1 k a0 a1 n0):=by kernel_rfl
theorem e1:V1 k a0 a1=l1 k:=loop_eq rfl (s1 k a0 a1) fun _=>rfl
theorem e0 (n0:Nat):V0 k a0 a1 n0=l0 k n0:=by
 induction n0 with
 | zero=>rfl
 | succ n0 ih =>
  have h:V0 k a0 a1 (n0+1)=b0 k (V1 k a0 a1 n0):=s0 k a0 a1 n0
  rw [h,e1]
  rfl
end
theorem eq (k:Nat) (a0:List (Ty.den TEntry)) (a1:List (Ty.den TPut)):rn (E k) Tryz.f121 (C k) (a0,a1,())=f k a0 a1:=(show _=t k (V0 k a0 a1 k) a0 a1 by kernel_rfl).trans (by rw [e0];rfl)
theorem ctr (k:Nat):Cp 121 (C k):=rc rfl (D k) (by kernel_rfl) Tryz.func121 (by kernel_rfl) rfl fun ⟨a0,a1,_⟩ r h=>(eq k a0 a1).trans h
end spec_l12After
namespace spec_l12Active
def C (k:Nat):Cn:=⟨[.val TStore],[.str],true,false,fun x=>f k x.1⟩
def D (k:Nat):List Ce:=[q (spec_SegName.ctr k)]
def E (k:Nat):Env:=en (D k) [] 0 [] k
theorem eq (k:Nat) (a0:Ty.den TStore):rn (E k) Tryz.f166 (C k) (a0,())=f k a0:=by kernel_rfl
theorem ctr (k:Nat):Cp 166 (C k):=rc rfl (D k) (by kernel_rfl) Tryz.func166 (by kernel_rfl) rfl fun ⟨a0,_⟩ r h=>(eq k a0).trans h
end spec_l12Active
namespace spec_l14Drop_g
def C (k:Nat):Cn:=⟨[.give TDisk,.val (.slice .str)],[TDisk,(.int .i64)],true,false,fun x=>f k x.1 x.2.1⟩
def D (k:Nat):List Ce:=[q (spec_l3Find.ctr k),q (spec_Remove.ctr k)]
def E (k:Nat):Env:=en (D k) [(2,[1,2,4,6])] 0 [] k
section
variable (k:Nat) (a0:Ty.den TDisk) (a1:List ByteArray)
def K0:Ex→St→Rs:=runK (E k) (eK (E k) Tryz.f241 (C k) (a0,a1,())) [.blk 0,.code (at_ (bt 2 3) (body Tryz.f241))]
def V0 (n0:Nat):T0:=fun x0 x1 x2 x3 x4 x5 x6 x7 x8 x9=>loopN (exec (E k) (at_ (bt 5 5) (body Tryz.f241))) (canon 0 [1,2,4,6]) (K0 k a0 a1) n0 (mk 37 4 [(1,.sl true .str x0),(2,.ptr 0 0 0),(4,.ptr 2 0 0),(6,.int .i64 x1)] [(1,.own false TPair x2),(0,.box [.ref 1,.int .i64 x3,.int .i64 x4,.bool x5]),(3,.own false TPair x6),(2,.box [.ref 3,.int .i64 x7,.int .i64 x8,.bool x9])])
theorem s0 (n0:Nat):V0 k a0 a1 (n0+1)=b0 k (V0 k a0 a1 n0):=by kernel_rfl
theorem e0:V0 k a0 a1=l0 k:=loop_eq rfl (s0 k a0 a1) fun _=>rfl
end
theorem eq (k:Nat) (a0:Ty.den TDisk) (a1:List ByteArray):rn (E k) Tryz.f241 (C k) (a0,a1,())=f k a0 a1:=(show _=t k (V0 k a0 a1 k) a0 a1 by kernel_rfl).trans (by rw [e0];rfl)
theorem ctr (k:Nat):Cp 241 (C k):=rc rfl (D k) (by kernel_rfl) Tryz.func241 (by kernel_rfl) rfl fun ⟨a0,a1,_⟩ r h=>(eq k a0 a1).trans h
end spec_l14Drop_g
namespace spec_l9Seal
def C (k:Nat):Cn:=⟨[.val (.slice TRec),.val (.int .i64),.val (.int .i64)],[TRec],true,false,fun x=>f k x.1 x.2.1 x.2.2.1⟩
def D (k:Nat):List Ce:=[q (spec_SumOf.ctr k)]
def E (k:Nat):Env:=en (D k) [] 0 [] k
theorem eq (k:Nat) (a0:List (Ty.den TRec)) (a1:Int) (a2:Int):rn (E k) Tryz.f165 (C k) (a0,a1,a2,())=f k a0 a1 a2:=by kernel_rfl
theorem ctr (k:Nat):Cp 165 (C k):=rc rfl (D k) (by kernel_rfl) Tryz.func165 (by kernel_rfl) rfl fun ⟨a0,a1,a2,_⟩ r h=>(eq k a0 a1 a2).trans h
end spec_l9Seal
namespace spec_l12Rotate_ga
def C (k:Nat):Cn:=⟨[.give TStore,.give TDisk],[TStore,TDisk,(.int .i64)],true,false,fun x=>f k x.1 x.2.1⟩
def D (k:Nat):List Ce:=[q (spec_l12Active.ctr k),q (spec_Sync.ctr k),q (spec_l11Code.ctr k),q (spec_SegName.ctr k),q (spec_l11Fresh.ctr k),q (spec_PutLive.ctr k),q (spec_l14Drop_g.ctr k)]
def E (k:Nat):Env:=en (D k) [] 0 [] k
theorem eq (k:Nat) (a0:Ty.den TStore) (a1:Ty.den TDisk):rn (E k) Tryz.f209 (C k) (a0,a1,())=f k a0 a1:=by kernel_rfl
theorem ctr (k:Nat):Cp 209 (C k):=rc rfl (D k) (by kernel_rfl) Tryz.func209 (by kernel_rfl) rfl fun ⟨a0,a1,_⟩ r h=>(eq k a0 a1).trans h
end spec_l12Rotate_ga
namespace spec_l12Add_ga
def C (k:Nat):Cn:=⟨[.give TStore,.give TDisk,.val TRec],[TStore,TDisk,TPlace,(.int .i64)],true,false,fun x=>f k x.1 x.2.1 x.2.2.1⟩
def D (k:Nat):List Ce:=[q (spec_ShowRec.ctr k),q (spec_Frame.ctr k),q (spec_l12Rotate_ga.ctr k),q (spec_l12Active.ctr k),q (spec_Append.ctr k),q (spec_l11Code.ctr k)]
def E (k:Nat):Env:=en (D k) [] 0 [] k
theorem eq (k:Nat) (a0:Ty.den TStore) (a1:Ty.den TDisk) (a2:Ty.den TRec):rn (E k) Tryz.f164 (C k) (a0,a1,a2,())=f k a0 a1 a2:=by kernel_rfl
theorem ctr (k:Nat):Cp 164 (C k):=rc rfl (D k) (by kernel_rfl) Tryz.func164 (by kernel_rfl) rfl fun ⟨a0,a1,a2,_⟩ r h=>(eq k a0 a1 a2).trans h
end spec_l12Add_ga
namespace spec_l12Commit_ga
def C (k:Nat):Cn:=⟨[.give TStore,.give TDisk,.give (.slice TPut)],[TStore,TDisk,(.int .i64)],true,false,fun x=>f k x.1 x.2.1 x.2.2.1⟩
def D (k:Nat):List Ce:=[q (spec_l12Add_ga.ctr k),q (spec_l9Put.ctr k),q (spec_l9Seal.ctr k),q (spec_l12Active.ctr k),q (spec_Sync.ctr k),q (spec_l11Code.ctr k)]
def E (k:Nat):Env:=en (D k) [(6,[2,3,4,6,7,9,10,11,12])] 0 [] k
section
variable (k:Nat) (a0:Ty.den TStore) (a1:Ty.den TDisk) (a2:List (Ty.den TPut))
def K0:Ex→St→Rs:=runK (E k) (eK (E k) Tryz.f122 (C k) (a0,a1,a2,())) [.blk 0,.code (at_ (bt 6 63) (body Tryz.f122))]
def V0 (n0:Nat):T0:=fun x0 x1 x2 x3 x4 x5 x6 x7 x8 x9 x10 x11 x12 x13 x14 x15 x16 x17 x18 x19 x20 x21 x22 x23 x24=>loopN (exec (E k) (at_ (bt 9 95) (body Tryz.f122))) (canon 0 [2,3,4,6,7,9,10,11,12]) (K0 k a0 a1 a2) n0 (mk 111 13 [(2,.ref 0),(3,.ptr 1 0 0),(4,.ptr 4 0 0),(6,.ptr 6 0 0),(7,.ptr 9 0 0),(9,.int .i64 x0),(10,.ref 11),(11,.ref 12),(12,.int .i64 x1)] [(0,.own false TPut x2),(2,.own false (.int .i64) x3),(3,.own false TEntry x4),(1,.box [.int .i64 x5,.ref 2,.ref 3,.int .i64 x6,.int .i64 x7,.int .i64 x8]),(5,.own false TPair x9),(4,.box [.ref 5,.int .i64 x10,.int .i64 x11,.bool x12]),(7,.own false (.int .i64) x13),(8,.own false TEntry x14),(6,.box [.int .i64 x15,.ref 7,.ref 8,.int .i64 x16,.int .i64 x17,.int .i64 x18]),(10,.own false TPair x19),(9,.box [.ref 10,.int .i64 x20,.int .i64 x21,.bool x22]),(11,.own false TRec x23),(12,.own false TEntry x24)])
theorem s0 (n0:Nat):V0 k a0 a1 a2 (n0+1)=b0 k (V0 k a0 a1 a2 n0):=by kernel_rfl
theorem e0:V0 k a0 a1 a2=l0 k:=loop_eq rfl (s0 k a0 a1 a2) fun _=>rfl
end
theorem eq (k:Nat) (a0:Ty.den TStore) (a1:Ty.den TDisk) (a2:List (Ty.den TPut)):rn (E k) Tryz.f122 (C k) (a0,a1,a2,())=f k a0 a1 a2:=(show _=t k (V0 k a0 a1 a2 k) a0 a1 a2 by kernel_rfl).trans (by rw [e0];rfl)
theorem ctr (k:Nat):Cp 122 (C k):=rc rfl (D k) (by kernel_rfl) Tryz.func122 (by kernel_rfl) rfl fun ⟨a0,a1,a2,_⟩ r h=>(eq k a0 a1 a2).trans h
end spec_l12Commit_ga
namespace spec_Commit_g2
def C (k:Nat):Cn:=⟨[.val TStore,.val TDisk,.give (.slice TPut)],[TStore,TDisk,(.int .i64)],true,false,fun x=>f k x.1 x.2.1 x.2.2.1⟩
def D (k:Nat):List Ce:=[q (spec_l12Copy.ctr k),q (spec_l3Copy.ctr k),q (spec_StoreOk.ctr k),q (spec_PutsOk.ctr k),q (spec_l12After.ctr k),q (spec_l12Commit_ga.ctr k)]
def E (k:Nat):Env:=en (D k) [] 0 [] k
theorem eq (k:Nat) (a0:Ty.den TStore) (a1:Ty.den TDisk) (a2:List (Ty.den TPut)):rn (E k) Tryz.f73 (C k) (a0,a1,a2,())=f k a0 a1 a2:=by kernel_rfl
theorem ctr (k:Nat):Cp 73 (C k):=rc rfl (D k) (by kernel_rfl) Tryz.func73 (by kernel_rfl) rfl fun ⟨a0,a1,a2,_⟩ r h=>(eq k a0 a1 a2).trans h
end spec_Commit_g2
namespace spec_Restore
def C (k:Nat):Cn:=⟨[.val (.int .i64),.val (.slice TPair)],[TStore,TDisk,(.int .i64)],true,false,fun x=>f k x.1 x.2.1⟩
def D (k:Nat):List Ce:=[q (spec_l1In.ctr k),q (spec_PairsOk.ctr k),q (spec_DiskNew.ctr k),q (spec_Open_g.ctr k),q (spec_Commit_g2.ctr k)]
def E (k:Nat):Env:=en (D k) [(5,[1,4,5,7,8,9,10]),(9,[1,4,5,7,8,10,11,12])] 0 [] k
section
variable (k:Nat) (a0:Int) (a1:List (Ty.den TPair))
def K0:Ex→St→Rs:=runK (E k) (eK (E k) Tryz.f31 (C k) (a0,a1,())) [.blk 0,.code (at_ (bt 4 15) (body Tryz.f31))]
def B0 (n0:Nat):Ex→St→Rs:=lpK (E k) (at_ (bt 7 23) (body Tryz.f31)) 0 [1,4,5,7,8,9,10] (K0 k a0 a1) n0
def K1 (n0:Nat):Ex→St→Rs:=runK (E k) (B0 k a0 a1 n0) [.blk 2,.code (at_ (bt 12 3223) (body Tryz.f31)),.blk 1,.code (at_ (bt 9 407) (body Tryz.f31))]
def V0 (n0:Nat):T0:=fun x0 x1 x2 x3 x4 x5 x6 x7 x8 x9 x10 x11 x12 x13 x14 x15 x16 x17 x18 x19 x20 x21 x22=>loopN (exec (E k) (at_ (bt 7 23) (body Tryz.f31))) (canon 0 [1,4,5,7,8,9,10]) (K0 k a0 a1) n0 (mk 85 10 [(1,.sl true TPair x0),(4,.ptr 0 0 0),(5,.ptr 3 0 0),(7,.ptr 5 0 0),(8,.ptr 8 0 0),(9,.int .i64 x1),(10,.int .i64 x2)] [(1,.own false (.int .i64) x3),(2,.own false TEntry x4),(0,.box [.int .i64 x5,.ref 1,.ref 2,.int .i64 x6,.int .i64 x7,.int .i64 x8]),(4,.own false TPair x9),(3,.box [.ref 4,.int .i64 x10,.int .i64 x11,.bool x12]),(6,.own false (.int .i64) x13),(7,.own false TEntry x14),(5,.box [.int .i64 x15,.ref 6,.ref 7,.int .i64 x16,.int .i64 x17,.int .i64 x18]),(9,.own false TPair x19),(8,.box [.ref 9,.int .i64 x20,.int .i64 x21,.bool x22])])
def V1 (n0 n1:Nat):T1:=fun x0 x1 x2 x3 x4 x5 x6 x7 x8 x9 x10 x11 x12 x13 x14 x15 x16 x17 x18 x19 x20 x21 x22 x23=>loopN (exec (E k) (at_ (bt 15 5271) (body Tryz.f31))) (canon 0 [1,4,5,7,8,10,11,12]) (K1 k a0 a1 n0) n1 (mk 85 11 [(1,.sl true TPair x0),(4,.ptr 0 0 0),(5,.ptr 3 0 0),(7,.ptr 5 0 0),(8,.ptr 8 0 0),(10,.int .i64 x1),(11,.ref 10),(12,.int .i64 x2)] [(1,.own false (.int .i64) x3),(2,.own false TEntry x4),(0,.box [.int .i64 x5,.ref 1,.ref 2,.int .i64 x6,.int .i64 x7,.int .i64 x8]),(4,.own false TPair x9),(3,.box [.ref 4,.int .i64 x10,.int .i64 x11,.bool x12]),(6,.own false (.int .i64) x13),(7,.own false TEntry x14),(5,.box [.int .i64 x15,.ref 6,.ref 7,.int .i64 x16,.int .i64 x17,.int .i64 x18]),(9,.own false TPair x19),(8,.box [.ref 9,.int .i64 x20,.int .i64 x21,.bool x22]),(10,.own false TPut x23)])
theorem s0 (n0:Nat):V0 k a0 a1 (n0+1)=b0 k (V1 k a0 a1 n0 k) (V0 k a0 a1 n0):=by kernel_rfl
theorem s1 (n0 n1:Nat):V1 k a0 a1 n0 (n1+1)=b1 k (V0 k a0 a1 n0) (V1 k a0 a1 n0 n1):=by kernel_rfl
theorem e1 (n0:Nat):V1 k a0 a1 n0=l1 k (V0 k a0 a1 n0):=loop_eq rfl (s1 k a0 a1 n0) fun _=>rfl
theorem e0 (n0:Nat):V0 k a0 a1 n0=l0 k n0:=by
 induction n0 with
 | zero=>rfl
 | succ n0 ih =>
  have h:V0 k a0 a1 (n0+1)=b0 k (V1 k a0 a1 n0 k) (V0 k a0 a1 n0):=s0 k a0 a1 n0
  rw [h,e1,ih]
  rfl
end
theorem eq (k:Nat) (a0:Int) (a1:List (Ty.den TPair)):rn (E k) Tryz.f31 (C k) (a0,a1,())=f k a0 a1:=(show _=t k (V0 k a0 a1 k) a0 a1 by kernel_rfl).trans (by rw [e0];rfl)
theorem ctr (k:Nat):Cp 31 (C k):=rc rfl (D k) (by kernel_rfl) Tryz.func31 (by kernel_rfl) rfl fun ⟨a0,a1,_⟩ r h=>(eq k a0 a1).trans h
end spec_Restore
namespace impl_in
def C (k:Nat):Cn:=⟨[.val (.int .i64),.val (.int .i64),.val (.int .i64)],[.bool],true,false,fun x=>f k x.1 x.2.1 x.2.2.1⟩
def E (k:Nat):Env:=en [] [] 0 [] k
theorem eq (k:Nat) (a0:Int) (a1:Int) (a2:Int):rn (E k) Tryz.f75 (C k) (a0,a1,a2,())=f k a0 a1 a2:=by kernel_rfl
theorem ctr (k:Nat):Cp 75 (C k):=rc rfl [] (by kernel_rfl) Tryz.func75 (by kernel_rfl) rfl fun ⟨a0,a1,a2,_⟩ r h=>(eq k a0 a1 a2).trans h
end impl_in
namespace impl_KeyOk
def C (k:Nat):Cn:=⟨[.val .str],[.bool],true,false,fun x=>f k x.1⟩
def D (k:Nat):List Ce:=[q (impl_in.ctr k)]
def E (k:Nat):Env:=en (D k) [] 0 [] k
theorem eq (k:Nat) (a0:ByteArray):rn (E k) Tryz.f123 (C k) (a0,())=f k a0:=by kernel_rfl
theorem ctr (k:Nat):Cp 123 (C k):=rc rfl (D k) (by kernel_rfl) Tryz.func123 (by kernel_rfl) rfl fun ⟨a0,_⟩ r h=>(eq k a0).trans h
end impl_KeyOk
namespace impl_PairsOk
def C (k:Nat):Cn:=⟨[.val (.slice TPair)],[.bool],true,false,fun x=>f k x.1⟩
def D (k:Nat):List Ce:=[q (impl_KeyOk.ctr k),q (impl_in.ctr k)]
def E (k:Nat):Env:=en (D k) [(2,[0,5,6,7])] 0 [] k
section
variable (k:Nat) (a0:List (Ty.den TPair))
def K0:Ex→St→Rs:=runK (E k) (eK (E k) Tryz.f76 (C k) (a0,())) [.blk 0,.code (at_ (bt 2 3) (body Tryz.f76))]
def V0 (n0:Nat):T0:=fun x0 x1 x2 x3=>loopN (exec (E k) (at_ (bt 5 5) (body Tryz.f76))) (canon 0 [0,5,6,7]) (K0 k a0) n0 (mk 47 0 [(0,.sl true TPair x0),(5,.sl true TPair x1),(6,.int .i64 x2),(7,.int .i64 x3)] [])
theorem s0 (n0:Nat):V0 k a0 (n0+1)=b0 k (V0 k a0 n0):=by kernel_rfl
theorem e0:V0 k a0=l0 k:=loop_eq rfl (s0 k a0) fun _=>rfl
end
theorem eq (k:Nat) (a0:List (Ty.den TPair)):rn (E k) Tryz.f76 (C k) (a0,())=f k a0:=(show _=t k (V0 k a0 k) a0 by kernel_rfl).trans (by rw [e0];rfl)
theorem ctr (k:Nat):Cp 76 (C k):=rc rfl (D k) (by kernel_rfl) Tryz.func76 (by kernel_rfl) rfl fun ⟨a0,_⟩ r h=>(eq k a0).trans h
end impl_PairsOk
namespace impl_DiskNew
def C (k:Nat):Cn:=⟨[.val (.int .i64)],[TDisk],true,false,fun x=>f k x.1⟩
def D (k:Nat):List Ce:=[q (impl_in.ctr k)]
def E (k:Nat):Env:=en (D k) [] 0 [] k
theorem eq (k:Nat) (a0:Int):rn (E k) Tryz.f78 (C k) (a0,())=f k a0:=by kernel_rfl
theorem ctr (k:Nat):Cp 78 (C k):=rc rfl (D k) (by kernel_rfl) Tryz.func78 (by kernel_rfl) rfl fun ⟨a0,_⟩ r h=>(eq k a0).trans h
end impl_DiskNew
namespace impl_copyDisk
def C (k:Nat):Cn:=⟨[.val TDisk],[TDisk],true,false,fun x=>f k x.1⟩
def E (k:Nat):Env:=en [] [] 0 [] k
theorem eq (k:Nat) (a0:Ty.den TDisk):rn (E k) Tryz.f102 (C k) (a0,())=f k a0:=by kernel_rfl
theorem ctr (k:Nat):Cp 102 (C k):=rc rfl [] (by kernel_rfl) Tryz.func102 (by kernel_rfl) rfl fun ⟨a0,_⟩ r h=>(eq k a0).trans h
end impl_copyDisk
namespace impl_NameOk
def C (k:Nat):Cn:=⟨[.val .str],[.bool],true,false,fun x=>f k x.1⟩
def D (k:Nat):List Ce:=[q (impl_in.ctr k)]
def E (k:Nat):Env:=en (D k) [(2,[0,3])] 0 [] k
section
variable (k:Nat) (a0:ByteArray)
def K0:Ex→St→Rs:=runK (E k) (eK (E k) Tryz.f142 (C k) (a0,())) [.blk 0,.code (at_ (bt 2 3) (body Tryz.f142))]
def V0 (n0:Nat):T0:=fun x0 x1=>loopN (exec (E k) (at_ (bt 5 5) (body Tryz.f142))) (canon 0 [0,3]) (K0 k a0) n0 (mk 37 0 [(0,.str x0),(3,.int .i64 x1)] [])
theorem s0 (n0:Nat):V0 k a0 (n0+1)=b0 k (V0 k a0 n0):=by kernel_rfl
theorem e0:V0 k a0=l0 k:=loop_eq rfl (s0 k a0) fun _=>rfl
end
theorem eq (k:Nat) (a0:ByteArray):rn (E k) Tryz.f142 (C k) (a0,())=f k a0:=(show _=t k (V0 k a0 k) a0 by kernel_rfl).trans (by rw [e0];rfl)
theorem ctr (k:Nat):Cp 142 (C k):=rc rfl (D k) (by kernel_rfl) Tryz.func142 (by kernel_rfl) rfl fun ⟨a0,_⟩ r h=>(eq k a0).trans h
end impl_NameOk
namespace impl_DiskOk
def C (k:Nat):Cn:=⟨[.val TDisk],[.bool],true,false,fun x=>f k x.1⟩
def D (k:Nat):List Ce:=[q (impl_in.ctr k),q (impl_NameOk.ctr k)]
def E (k:Nat):Env:=en (D k) [(5,[1,3,23,24,25])] 0 [] k
section
variable (k:Nat) (a0:Ty.den TDisk)
def K0:Ex→St→Rs:=runK (E k) (eK (E k) Tryz.f103 (C k) (a0,())) [.blk 0,.code (at_ (bt 4 15) (body Tryz.f103))]
def V0 (n0:Nat):T0:=fun x0 x1 x2 x3 x4 x5 x6 x7=>loopN (exec (E k) (at_ (bt 7 23) (body Tryz.f103))) (canon 0 [1,3,23,24,25]) (K0 k a0) n0 (mk 69 1 [(1,.ptr 0 0 0),(3,.int .i64 x0),(23,.sl true TPair x1),(24,.int .i64 x2),(25,.int .i64 x3)] [(0,.box [.sl true TPair x4,.int .i64 x5,.int .i64 x6,.bool x7])])
theorem s0 (n0:Nat):V0 k a0 (n0+1)=b0 k (V0 k a0 n0):=by kernel_rfl
theorem e0:V0 k a0=l0 k:=loop_eq rfl (s0 k a0) fun _=>rfl
end
theorem eq (k:Nat) (a0:Ty.den TDisk):rn (E k) Tryz.f103 (C k) (a0,())=f k a0:=(show _=t k (V0 k a0 k) a0 by kernel_rfl).trans (by rw [e0];rfl)
theorem ctr (k:Nat):Cp 103 (C k):=rc rfl (D k) (by kernel_rfl) Tryz.func103 (by kernel_rfl) rfl fun ⟨a0,_⟩ r h=>(eq k a0).trans h
end impl_DiskOk
namespace impl_fileAt
def C (k:Nat):Cn:=⟨[.val TDisk,.val .str],[(.int .i64)],true,false,fun x=>f k x.1 x.2.1⟩
def E (k:Nat):Env:=en [] [(2,[1,8,9,10])] 0 [] k
section
variable (k:Nat) (a0:Ty.den TDisk) (a1:ByteArray)
def K0:Ex→St→Rs:=runK (E k) (eK (E k) Tryz.f136 (C k) (a0,a1,())) [.blk 0,.code (at_ (bt 2 3) (body Tryz.f136))]
def V0 (n0:Nat):T0:=fun x0 x1 x2 x3=>loopN (exec (E k) (at_ (bt 5 5) (body Tryz.f136))) (canon 0 [1,8,9,10]) (K0 k a0 a1) n0 (mk 21 0 [(1,.str x0),(8,.sl true TPair x1),(9,.int .i64 x2),(10,.int .i64 x3)] [])
theorem s0 (n0:Nat):V0 k a0 a1 (n0+1)=b0 k (V0 k a0 a1 n0):=by kernel_rfl
theorem e0:V0 k a0 a1=l0 k:=loop_eq rfl (s0 k a0 a1) fun _=>rfl
end
theorem eq (k:Nat) (a0:Ty.den TDisk) (a1:ByteArray):rn (E k) Tryz.f136 (C k) (a0,a1,())=f k a0 a1:=(show _=t k (V0 k a0 a1 k) a0 a1 by kernel_rfl).trans (by rw [e0];rfl)
theorem ctr (k:Nat):Cp 136 (C k):=rc rfl [] (by kernel_rfl) Tryz.func136 (by kernel_rfl) rfl fun ⟨a0,a1,_⟩ r h=>(eq k a0 a1).trans h
end impl_fileAt
namespace impl_FileText
def C (k:Nat):Cn:=⟨[.val TDisk,.val .str],[.str,.bool],true,false,fun x=>f k x.1 x.2.1⟩
def D (k:Nat):List Ce:=[q (impl_fileAt.ctr k),q (impl_DiskOk.ctr k)]
def E (k:Nat):Env:=en (D k) [] 0 [] k
theorem eq (k:Nat) (a0:Ty.den TDisk) (a1:ByteArray):rn (E k) Tryz.f93 (C k) (a0,a1,())=f k a0 a1:=by kernel_rfl
theorem ctr (k:Nat):Cp 93 (C k):=rc rfl (D k) (by kernel_rfl) Tryz.func93 (by kernel_rfl) rfl fun ⟨a0,a1,_⟩ r h=>(eq k a0 a1).trans h
end impl_FileText
namespace impl_ReadVar
def C (k:Nat):Cn:=⟨[.val .str],[(.int .i64),(.int .i64)],true,false,fun x=>f k x.1⟩
def E (k:Nat):Env:=en [] [(3,[0,4,5])] 0 [] k
section
variable (k:Nat) (a0:ByteArray)
def K0:Ex→St→Rs:=runK (E k) (eK (E k) Tryz.f191 (C k) (a0,())) [.blk 0,.code (at_ (bt 3 7) (body Tryz.f191))]
def V0 (n0:Nat):T0:=fun x0 x1 x2=>loopN (exec (E k) (at_ (bt 6 11) (body Tryz.f191))) (canon 0 [0,4,5]) (K0 k a0) n0 (mk 39 0 [(0,.str x0),(4,.int .i64 x1),(5,.int .i64 x2)] [])
theorem s0 (n0:Nat):V0 k a0 (n0+1)=b0 k (V0 k a0 n0):=by kernel_rfl
theorem e0:V0 k a0=l0 k:=loop_eq rfl (s0 k a0) fun _=>rfl
end
theorem eq (k:Nat) (a0:ByteArray):rn (E k) Tryz.f191 (C k) (a0,())=f k a0:=(show _=t k (V0 k a0 k) a0 by kernel_rfl).trans (by rw [e0];rfl)
theorem ctr (k:Nat):Cp 191 (C k):=rc rfl [] (by kernel_rfl) Tryz.func191 (by kernel_rfl) rfl fun ⟨a0,_⟩ r h=>(eq k a0).trans h
end impl_ReadVar
namespace impl_Var
def C (k:Nat):Cn:=⟨[.val (.int .i64)],[.str],true,false,fun x=>f k x.1⟩
def D (k:Nat):List Ce:=[q (impl_in.ctr k)]
def E (k:Nat):Env:=en (D k) [(4,[0,3])] 0 [] k
section
variable (k:Nat) (a0:Int)
def K0:Ex→St→Rs:=runK (E k) (eK (E k) Tryz.f255 (C k) (a0,())) [.blk 0,.code (at_ (bt 4 15) (body Tryz.f255))]
def V0 (n0:Nat):T0:=fun x0 x1=>loopN (exec (E k) (at_ (bt 6 7) (body Tryz.f255))) (canon 0 [0,3]) (K0 k a0) n0 (mk 24 1 [(0,.int .i64 x0),(3,.ref 0)] [(0,.own false (.int .u8) x1)])
theorem s0 (n0:Nat):V0 k a0 (n0+1)=b0 k (V0 k a0 n0):=by kernel_rfl
theorem e0:V0 k a0=l0 k:=loop_eq rfl (s0 k a0) fun _=>rfl
end
theorem eq (k:Nat) (a0:Int):rn (E k) Tryz.f255 (C k) (a0,())=f k a0:=(show _=t k (V0 k a0 k) a0 by kernel_rfl).trans (by rw [e0];rfl)
theorem ctr (k:Nat):Cp 255 (C k):=rc rfl (D k) (by kernel_rfl) Tryz.func255 (by kernel_rfl) rfl fun ⟨a0,_⟩ r h=>(eq k a0).trans h
end impl_Var
namespace impl_textOf
def C (k:Nat):Cn:=⟨[.val .str],[.str],true,false,fun x=>f k x.1⟩
def D (k:Nat):List Ce:=[q (impl_Var.ctr k)]
def E (k:Nat):Env:=en (D k) [] 0 [] k
theorem eq (k:Nat) (a0:ByteArray):rn (E k) Tryz.f236 (C k) (a0,())=f k a0:=by kernel_rfl
theorem ctr (k:Nat):Cp 236 (C k):=rc rfl (D k) (by kernel_rfl) Tryz.func236 (by kernel_rfl) rfl fun ⟨a0,_⟩ r h=>(eq k a0).trans h
end impl_textOf
namespace impl_Crc
def C (k:Nat):Cn:=⟨[.val .str],[(.int .i64)],true,false,fun x=>f k x.1⟩
def E (k:Nat):Env:=en [] [(3,[0,3,4]),(7,[0,3,4,18])] 0 [] k
section
variable (k:Nat) (a0:ByteArray)
def K0:Ex→St→Rs:=runK (E k) (eK (E k) Tryz.f238 (C k) (a0,())) [.blk 0,.code (at_ (bt 3 7) (body Tryz.f238))]
def B0 (n0:Nat):Ex→St→Rs:=lpK (E k) (at_ (bt 6 11) (body Tryz.f238)) 0 [0,3,4] (K0 k a0) n0
def K1 (n0:Nat):Ex→St→Rs:=runK (E k) (B0 k a0 n0) [.blk 2,.blk 1,.code (at_ (bt 8 203) (body Tryz.f238))]
def V0 (n0:Nat):T0:=fun x0 x1 x2=>loopN (exec (E k) (at_ (bt 6 11) (body Tryz.f238))) (canon 0 [0,3,4]) (K0 k a0) n0 (mk 32 0 [(0,.str x0),(3,.int .u32 x1),(4,.int .i64 x2)] [])
def V1 (n0 n1:Nat):T1:=fun x0 x1 x2 x3=>loopN (exec (E k) (at_ (bt 13 1611) (body Tryz.f238))) (canon 0 [0,3,4,18]) (K1 k a0 n0) n1 (mk 32 0 [(0,.str x0),(3,.int .u32 x1),(4,.int .i64 x2),(18,.int .i64 x3)] [])
theorem s0 (n0:Nat):V0 k a0 (n0+1)=b0 k (V1 k a0 n0 k) (V0 k a0 n0):=by kernel_rfl
theorem s1 (n0 n1:Nat):V1 k a0 n0 (n1+1)=b1 k (V0 k a0 n0) (V1 k a0 n0 n1):=by kernel_rfl
theorem e1 (n0:Nat):V1 k a0 n0=l1 k (V0 k a0 n0):=loop_eq rfl (s1 k a0 n0) fun _=>rfl
theorem e0 (n0:Nat):V0 k a0 n0=l0 k n0:=by
 induction n0 with
 | zero=>rfl
 | succ n0 ih =>
  have h:V0 k a0 (n0+1)=b0 k (V1 k a0 n0 k) (V0 k a0 n0):=s0 k a0 n0
  rw [h,e1,ih]
  rfl
end
theorem eq (k:Nat) (a0:ByteArray):rn (E k) Tryz.f238 (C k) (a0,())=f k a0:=(show _=t k (V0 k a0 k) a0 by kernel_rfl).trans (by rw [e0];rfl)
theorem ctr (k:Nat):Cp 238 (C k):=rc rfl [] (by kernel_rfl) Tryz.func238 (by kernel_rfl) rfl fun ⟨a0,_⟩ r h=>(eq k a0).trans h
end impl_Crc
namespace impl_Fixed
def C (k:Nat):Cn:=⟨[.val (.int .i64),.val (.int .i64)],[.str],true,false,fun x=>f k x.1 x.2.1⟩
def D (k:Nat):List Ce:=[q (impl_in.ctr k)]
def E (k:Nat):Env:=en (D k) [(5,[0,5,6])] 0 [] k
section
variable (k:Nat) (a0:Int) (a1:Int)
def K0:Ex→St→Rs:=runK (E k) (eK (E k) Tryz.f237 (C k) (a0,a1,())) [.blk 0,.code (at_ (bt 4 15) (body Tryz.f237))]
def V0 (n0:Nat):T0:=fun x0 x1 x2=>loopN (exec (E k) (at_ (bt 7 23) (body Tryz.f237))) (canon 0 [0,5,6]) (K0 k a0 a1) n0 (mk 35 1 [(0,.int .i64 x0),(5,.ref 0),(6,.int .i64 x1)] [(0,.own false (.int .u8) x2)])
theorem s0 (n0:Nat):V0 k a0 a1 (n0+1)=b0 k (V0 k a0 a1 n0):=by kernel_rfl
theorem e0:V0 k a0 a1=l0 k:=loop_eq rfl (s0 k a0 a1) fun _=>rfl
end
theorem eq (k:Nat) (a0:Int) (a1:Int):rn (E k) Tryz.f237 (C k) (a0,a1,())=f k a0 a1:=(show _=t k (V0 k a0 a1 k) a0 a1 by kernel_rfl).trans (by rw [e0];rfl)
theorem ctr (k:Nat):Cp 237 (C k):=rc rfl (D k) (by kernel_rfl) Tryz.func237 (by kernel_rfl) rfl fun ⟨a0,a1,_⟩ r h=>(eq k a0 a1).trans h
end impl_Fixed
namespace impl_Frame
def C (k:Nat):Cn:=⟨[.val .str],[.str],true,false,fun x=>f k x.1⟩
def D (k:Nat):List Ce:=[q (impl_textOf.ctr k),q (impl_Crc.ctr k),q (impl_Fixed.ctr k)]
def E (k:Nat):Env:=en (D k) [] 0 [] k
theorem eq (k:Nat) (a0:ByteArray):rn (E k) Tryz.f192 (C k) (a0,())=f k a0:=by kernel_rfl
theorem ctr (k:Nat):Cp 192 (C k):=rc rfl (D k) (by kernel_rfl) Tryz.func192 (by kernel_rfl) rfl fun ⟨a0,_⟩ r h=>(eq k a0).trans h
end impl_Frame
namespace impl_Unframe
def C (k:Nat):Cn:=⟨[.val .str],[.str,(.int .i64)],true,false,fun x=>f k x.1⟩
def D (k:Nat):List Ce:=[q (impl_ReadVar.ctr k),q (impl_Frame.ctr k)]
def E (k:Nat):Env:=en (D k) [] 0 [] k
theorem eq (k:Nat) (a0:ByteArray):rn (E k) Tryz.f138 (C k) (a0,())=f k a0:=by kernel_rfl
theorem ctr (k:Nat):Cp 138 (C k):=rc rfl (D k) (by kernel_rfl) Tryz.func138 (by kernel_rfl) rfl fun ⟨a0,_⟩ r h=>(eq k a0).trans h
end impl_Unframe
namespace impl_scanner__num
def C (k:Nat):Cn:=⟨[.io true Tscanner],[(.int .i64)],true,false,fun x=>f k x.1⟩
def D (k:Nat):List Ce:=[q (impl_ReadVar.ctr k)]
def E (k:Nat):Env:=en (D k) [] 1 [] k
theorem eq (k:Nat) (a0:Ty.den Tscanner):rn (E k) Tryz.f193 (C k) (a0,())=f k a0:=by kernel_rfl
theorem ctr (k:Nat):Cp 193 (C k):=rc rfl (D k) (by kernel_rfl) Tryz.func193 (by kernel_rfl) rfl fun ⟨a0,_⟩ r h=>(eq k a0).trans h
end impl_scanner__num
namespace impl_LiveOk
def C (k:Nat):Cn:=⟨[.val TLive],[.bool],true,false,fun x=>f k x.1⟩
def D (k:Nat):List Ce:=[q (impl_in.ctr k)]
def E (k:Nat):Env:=en (D k) [(2,[1,6,7,8])] 0 [] k
section
variable (k:Nat) (a0:Ty.den TLive)
def K0:Ex→St→Rs:=runK (E k) (eK (E k) Tryz.f179 (C k) (a0,())) [.blk 0,.code (at_ (bt 2 3) (body Tryz.f179))]
def V0 (n0:Nat):T0:=fun x0 x1 x2 x3 x4=>loopN (exec (E k) (at_ (bt 5 5) (body Tryz.f179))) (canon 0 [1,6,7,8]) (K0 k a0) n0 (mk 43 1 [(1,.ptr 0 0 0),(6,.sl true (.int .i64) x0),(7,.int .i64 x1),(8,.int .i64 x2)] [(0,.box [.int .i64 x3,.sl true (.int .i64) x4])])
theorem s0 (n0:Nat):V0 k a0 (n0+1)=b0 k (V0 k a0 n0):=by kernel_rfl
theorem e0:V0 k a0=l0 k:=loop_eq rfl (s0 k a0) fun _=>rfl
end
theorem eq (k:Nat) (a0:Ty.den TLive):rn (E k) Tryz.f179 (C k) (a0,())=f k a0:=(show _=t k (V0 k a0 k) a0 by kernel_rfl).trans (by rw [e0];rfl)
theorem ctr (k:Nat):Cp 179 (C k):=rc rfl (D k) (by kernel_rfl) Tryz.func179 (by kernel_rfl) rfl fun ⟨a0,_⟩ r h=>(eq k a0).trans h
end impl_LiveOk
namespace impl_ReadLive
def C (k:Nat):Cn:=⟨[.val .str],[TLive,.bool],true,false,fun x=>f k x.1⟩
def D (k:Nat):List Ce:=[q (impl_Unframe.ctr k),q (impl_scanner__num.ctr k),q (impl_LiveOk.ctr k)]
def E (k:Nat):Env:=en (D k) [(6,[0,2,5,6,7,8,9])] 0 [] k
section
variable (k:Nat) (a0:ByteArray)
def K0:Ex→St→Rs:=runK (E k) (eK (E k) Tryz.f167 (C k) (a0,())) [.blk 0,.code (at_ (bt 6 63) (body Tryz.f167))]
def V0 (n0:Nat):T0:=fun x0 x1 x2 x3 x4 x5 x6 x7 x8 x9=>loopN (exec (E k) (at_ (bt 9 95) (body Tryz.f167))) (canon 0 [0,2,5,6,7,8,9]) (K0 k a0) n0 (mk 72 5 [(0,.str x0),(2,.ptr 0 0 0),(5,.int .i64 x1),(6,.ptr 2 0 0),(7,.ptr 3 0 0),(8,.int .i64 x2),(9,.int .i64 x3)] [(1,.own false (.int .i64) x4),(0,.box [.int .i64 x5,.ref 1]),(2,.box [.str x6,.bool x7]),(4,.own false (.int .i64) x8),(3,.box [.int .i64 x9,.ref 4])])
theorem s0 (n0:Nat):V0 k a0 (n0+1)=b0 k (V0 k a0 n0):=by kernel_rfl
theorem e0:V0 k a0=l0 k:=loop_eq rfl (s0 k a0) fun _=>rfl
end
theorem eq (k:Nat) (a0:ByteArray):rn (E k) Tryz.f167 (C k) (a0,())=f k a0:=(show _=t k (V0 k a0 k) a0 by kernel_rfl).trans (by rw [e0];rfl)
theorem ctr (k:Nat):Cp 167 (C k):=rc rfl (D k) (by kernel_rfl) Tryz.func167 (by kernel_rfl) rfl fun ⟨a0,_⟩ r h=>(eq k a0).trans h
end impl_ReadLive
namespace impl_Dec
def C (k:Nat):Cn:=⟨[.val (.int .i64)],[.str],true,false,fun x=>f k x.1⟩
def D (k:Nat):List Ce:=[q (lib_Itoa.ctr k)]
def E (k:Nat):Env:=en (D k) [] 0 [] k
theorem eq (k:Nat) (a0:Int):rn (E k) Tryz.f190 (C k) (a0,())=f k a0:=by kernel_rfl
theorem ctr (k:Nat):Cp 190 (C k):=rc rfl (D k) (by kernel_rfl) Tryz.func190 (by kernel_rfl) rfl fun ⟨a0,_⟩ r h=>(eq k a0).trans h
end impl_Dec
namespace impl_named
def C (k:Nat):Cn:=⟨[.val .str,.val (.int .i64)],[.str],true,false,fun x=>f k x.1 x.2.1⟩
def D (k:Nat):List Ce:=[q (impl_in.ctr k),q (impl_Dec.ctr k)]
def E (k:Nat):Env:=en (D k) [] 0 [] k
theorem eq (k:Nat) (a0:ByteArray) (a1:Int):rn (E k) Tryz.f137 (C k) (a0,a1,())=f k a0 a1:=by kernel_rfl
theorem ctr (k:Nat):Cp 137 (C k):=rc rfl (D k) (by kernel_rfl) Tryz.func137 (by kernel_rfl) rfl fun ⟨a0,a1,_⟩ r h=>(eq k a0 a1).trans h
end impl_named
namespace impl_SegName
def C (k:Nat):Cn:=⟨[.val (.int .i64)],[.str],true,false,fun x=>f k x.1⟩
def D (k:Nat):List Ce:=[q (impl_named.ctr k)]
def E (k:Nat):Env:=en (D k) [] 0 [] k
theorem eq (k:Nat) (a0:Int):rn (E k) Tryz.f94 (C k) (a0,())=f k a0:=by kernel_rfl
theorem ctr (k:Nat):Cp 94 (C k):=rc rfl (D k) (by kernel_rfl) Tryz.func94 (by kernel_rfl) rfl fun ⟨a0,_⟩ r h=>(eq k a0).trans h
end impl_SegName
namespace impl_scanner__bytes
def C (k:Nat):Cn:=⟨[.io true Tscanner,.val (.int .i64)],[.str],true,false,fun x=>f k x.1 x.2.1⟩
def E (k:Nat):Env:=en [] [] 1 [] k
theorem eq (k:Nat) (a0:Ty.den Tscanner) (a1:Int):rn (E k) Tryz.f196 (C k) (a0,a1,())=f k a0 a1:=by kernel_rfl
theorem ctr (k:Nat):Cp 196 (C k):=rc rfl [] (by kernel_rfl) Tryz.func196 (by kernel_rfl) rfl fun ⟨a0,a1,_⟩ r h=>(eq k a0 a1).trans h
end impl_scanner__bytes
namespace impl_scanner__text
def C (k:Nat):Cn:=⟨[.io true Tscanner],[.str],true,false,fun x=>f k x.1⟩
def D (k:Nat):List Ce:=[q (impl_scanner__num.ctr k),q (impl_scanner__bytes.ctr k)]
def E (k:Nat):Env:=en (D k) [] 1 [] k
theorem eq (k:Nat) (a0:Ty.den Tscanner):rn (E k) Tryz.f194 (C k) (a0,())=f k a0:=by kernel_rfl
theorem ctr (k:Nat):Cp 194 (C k):=rc rfl (D k) (by kernel_rfl) Tryz.func194 (by kernel_rfl) rfl fun ⟨a0,_⟩ r h=>(eq k a0).trans h
end impl_scanner__text
namespace impl_RecOk
def C (k:Nat):Cn:=⟨[.val TRec],[.bool],true,false,fun x=>f k x.1⟩
def D (k:Nat):List Ce:=[q (impl_KeyOk.ctr k),q (impl_in.ctr k)]
def E (k:Nat):Env:=en (D k) [] 0 [] k
theorem eq (k:Nat) (a0:Ty.den TRec):rn (E k) Tryz.f197 (C k) (a0,())=f k a0:=by kernel_rfl
theorem ctr (k:Nat):Cp 197 (C k):=rc rfl (D k) (by kernel_rfl) Tryz.func197 (by kernel_rfl) rfl fun ⟨a0,_⟩ r h=>(eq k a0).trans h
end impl_RecOk
namespace impl_ReadFixed
def C (k:Nat):Cn:=⟨[.val .str,.val (.int .i64)],[(.int .i64),.bool],true,false,fun x=>f k x.1 x.2.1⟩
def D (k:Nat):List Ce:=[q (impl_in.ctr k)]
def E (k:Nat):Env:=en (D k) [(5,[0,6,17,18])] 0 [] k
section
variable (k:Nat) (a0:ByteArray) (a1:Int)
def K0:Ex→St→Rs:=runK (E k) (eK (E k) Tryz.f195 (C k) (a0,a1,())) [.blk 0,.code (at_ (bt 4 15) (body Tryz.f195))]
def V0 (n0:Nat):T0:=fun x0 x1 x2 x3=>loopN (exec (E k) (at_ (bt 7 23) (body Tryz.f195))) (canon 0 [0,6,17,18]) (K0 k a0 a1) n0 (mk 30 0 [(0,.str x0),(6,.int .i64 x1),(17,.int .i64 x2),(18,.int .i64 x3)] [])
theorem s0 (n0:Nat):V0 k a0 a1 (n0+1)=b0 k (V0 k a0 a1 n0):=by kernel_rfl
theorem e0:V0 k a0 a1=l0 k:=loop_eq rfl (s0 k a0 a1) fun _=>rfl
end
theorem eq (k:Nat) (a0:ByteArray) (a1:Int):rn (E k) Tryz.f195 (C k) (a0,a1,())=f k a0 a1:=(show _=t k (V0 k a0 a1 k) a0 a1 by kernel_rfl).trans (by rw [e0];rfl)
theorem ctr (k:Nat):Cp 195 (C k):=rc rfl (D k) (by kernel_rfl) Tryz.func195 (by kernel_rfl) rfl fun ⟨a0,a1,_⟩ r h=>(eq k a0 a1).trans h
end impl_ReadFixed
namespace impl_ReadRec
def C (k:Nat):Cn:=⟨[.val .str],[TRec,.bool],true,false,fun x=>f k x.1⟩
def D (k:Nat):List Ce:=[q (impl_scanner__num.ctr k),q (impl_scanner__text.ctr k),q (impl_RecOk.ctr k),q (impl_scanner__bytes.ctr k),q (impl_ReadFixed.ctr k)]
def E (k:Nat):Env:=en (D k) [] 0 [] k
theorem eq (k:Nat) (a0:ByteArray):rn (E k) Tryz.f139 (C k) (a0,())=f k a0:=by kernel_rfl
theorem ctr (k:Nat):Cp 139 (C k):=rc rfl (D k) (by kernel_rfl) Tryz.func139 (by kernel_rfl) rfl fun ⟨a0,_⟩ r h=>(eq k a0).trans h
end impl_ReadRec
namespace impl_ScanRecs
def C (k:Nat):Cn:=⟨[.val .str],[(.slice TSpot),(.int .i64)],true,false,fun x=>f k x.1⟩
def D (k:Nat):List Ce:=[q (impl_Unframe.ctr k),q (impl_ReadRec.ctr k)]
def E (k:Nat):Env:=en (D k) [(3,[0,4,5])] 0 [] k
section
variable (k:Nat) (a0:ByteArray)
def K0:Ex→St→Rs:=runK (E k) (eK (E k) Tryz.f181 (C k) (a0,())) [.blk 0]
def V0 (n0:Nat):T0:=fun x0 x1 x2=>loopN (exec (E k) (at_ (bt 5 7) (body Tryz.f181))) (canon 0 [0,4,5]) (K0 k a0) n0 (mk 40 1 [(0,.str x0),(4,.ref 0),(5,.int .i64 x1)] [(0,.own false TSpot x2)])
theorem s0 (n0:Nat):V0 k a0 (n0+1)=b0 k (V0 k a0 n0):=by kernel_rfl
theorem e0:V0 k a0=l0 k:=loop_eq rfl (s0 k a0) fun _=>rfl
end
theorem eq (k:Nat) (a0:ByteArray):rn (E k) Tryz.f181 (C k) (a0,())=f k a0:=(show _=t k (V0 k a0 k) a0 by kernel_rfl).trans (by rw [e0];rfl)
theorem ctr (k:Nat):Cp 181 (C k):=rc rfl (D k) (by kernel_rfl) Tryz.func181 (by kernel_rfl) rfl fun ⟨a0,_⟩ r h=>(eq k a0).trans h
end impl_ScanRecs
namespace impl_placed
def C (k:Nat):Cn:=⟨[.val (.int .i64),.val (.slice TSpot)],[(.slice TPlace)],true,false,fun x=>f k x.1 x.2.1⟩
def E (k:Nat):Env:=en [] [(3,[0,5,8,9,10])] 0 [] k
section
variable (k:Nat) (a0:Int) (a1:List (Ty.den TSpot))
def K0:Ex→St→Rs:=runK (E k) (eK (E k) Tryz.f211 (C k) (a0,a1,())) [.blk 0,.code (at_ (bt 3 7) (body Tryz.f211))]
def V0 (n0:Nat):T0:=fun x0 x1 x2 x3 x4=>loopN (exec (E k) (at_ (bt 6 11) (body Tryz.f211))) (canon 0 [0,5,8,9,10]) (K0 k a0 a1) n0 (mk 27 1 [(0,.int .i64 x0),(5,.ref 0),(8,.sl true TSpot x1),(9,.int .i64 x2),(10,.int .i64 x3)] [(0,.own false TPlace x4)])
theorem s0 (n0:Nat):V0 k a0 a1 (n0+1)=b0 k (V0 k a0 a1 n0):=by kernel_rfl
theorem e0:V0 k a0 a1=l0 k:=loop_eq rfl (s0 k a0 a1) fun _=>rfl
end
theorem eq (k:Nat) (a0:Int) (a1:List (Ty.den TSpot)):rn (E k) Tryz.f211 (C k) (a0,a1,())=f k a0 a1:=(show _=t k (V0 k a0 a1 k) a0 a1 by kernel_rfl).trans (by rw [e0];rfl)
theorem ctr (k:Nat):Cp 211 (C k):=rc rfl [] (by kernel_rfl) Tryz.func211 (by kernel_rfl) rfl fun ⟨a0,a1,_⟩ r h=>(eq k a0 a1).trans h
end impl_placed
namespace impl_worker__scanAll
def C (k:Nat):Cn:=⟨[.io true Tworker,.val TLive],[(.slice (.slice TPlace)),(.int .i64),.bool],true,false,fun x=>f k x.1 x.2.1⟩
def D (k:Nat):List Ce:=[q (impl_SegName.ctr k),q (impl_FileText.ctr k),q (impl_ScanRecs.ctr k),q (impl_placed.ctr k)]
def E (k:Nat):Env:=en (D k) [(4,[0,3,7,8,16,17,18])] 1 [] k
section
variable (k:Nat) (a0:Ty.den Tworker) (a1:Ty.den TLive)
def K0:Ex→St→Rs:=runK (E k) (eK (E k) Tryz.f168 (C k) (a0,a1,())) [.blk 0,.code (at_ (bt 4 15) (body Tryz.f168))]
def V0 (n0:Nat):T0:=fun x0 x1 x2 x3 x4 x5 x6 x7 x8 x9 x10 x11=>loopN (exec (E k) (at_ (bt 7 23) (body Tryz.f168))) (canon 1 [0,3,7,8,16,17,18]) (K0 k a0 a1) n0 (mk 64 4 [(0,.ptr 0 0 0),(3,.ptr 2 0 0),(7,.ref 3),(8,.int .i64 x0),(16,.sl true (.int .i64) x1),(17,.int .i64 x2),(18,.int .i64 x3)] [(1,.own false TPair x4),(0,.box [.ref 1,.int .i64 x5,.int .i64 x6,.bool x7,.int .i64 x8]),(2,.box [.int .i64 x9,.sl true (.int .i64) x10]),(3,.own false (.slice TPlace) x11)])
theorem s0 (n0:Nat):V0 k a0 a1 (n0+1)=b0 k (V0 k a0 a1 n0):=by kernel_rfl
theorem e0:V0 k a0 a1=l0 k:=loop_eq rfl (s0 k a0 a1) fun _=>rfl
end
theorem eq (k:Nat) (a0:Ty.den Tworker) (a1:Ty.den TLive):rn (E k) Tryz.f168 (C k) (a0,a1,())=f k a0 a1:=(show _=t k (V0 k a0 a1 k) a0 a1 by kernel_rfl).trans (by rw [e0];rfl)
theorem ctr (k:Nat):Cp 168 (C k):=rc rfl (D k) (by kernel_rfl) Tryz.func168 (by kernel_rfl) rfl fun ⟨a0,a1,_⟩ r h=>(eq k a0 a1).trans h
end impl_worker__scanAll
namespace impl_Truncate_1
def C (k:Nat):Cn:=⟨[.io true TDisk,.io true .str,.io true (.int .i64)],[(.int .i64)],true,false,fun x=>f k x.1 x.2.1 x.2.2.1⟩
def D (k:Nat):List Ce:=[q (impl_fileAt.ctr k),q (impl_in.ctr k)]
def E (k:Nat):Env:=en (D k) [] 3 [] k
theorem eq (k:Nat) (a0:Ty.den TDisk) (a1:ByteArray) (a2:Int):rn (E k) Tryz.f214 (C k) (a0,a1,a2,())=f k a0 a1 a2:=by kernel_rfl
theorem ctr (k:Nat):Cp 214 (C k):=rc rfl (D k) (by kernel_rfl) Tryz.func214 (by kernel_rfl) rfl fun ⟨a0,a1,a2,_⟩ r h=>(eq k a0 a1 a2).trans h
end impl_Truncate_1
namespace impl_step_Truncate_1
def C (k:Nat):Cn:=⟨[.val TDisk,.fn 214 2,.io true .str,.io true (.int .i64)],[TDisk,(.int .i64)],true,false,fun x=>f k x.1 x.2.1 x.2.2.1⟩
def D (k:Nat):List Ce:=[q (impl_copyDisk.ctr k),q (impl_DiskOk.ctr k),q (impl_Truncate_1.ctr k)]
def E (k:Nat):Env:=en (D k) [] 2 [] k
theorem eq (k:Nat) (a0:Ty.den TDisk) (a1:ByteArray) (a2:Int):rn (E k) Tryz.f213 (C k) (a0,a1,a2,())=f k a0 a1 a2:=by kernel_rfl
theorem ctr (k:Nat):Cp 213 (C k):=rc rfl (D k) (by kernel_rfl) Tryz.func213 (by kernel_rfl) rfl fun ⟨a0,a1,a2,_⟩ r h=>(eq k a0 a1 a2).trans h
end impl_step_Truncate_1
namespace impl_Truncate
def C (k:Nat):Cn:=⟨[.val TDisk,.val .str,.val (.int .i64)],[TDisk,(.int .i64)],true,false,fun x=>f k x.1 x.2.1 x.2.2.1⟩
def D (k:Nat):List Ce:=[q (impl_step_Truncate_1.ctr k)]
def E (k:Nat):Env:=en (D k) [] 0 [] k
theorem eq (k:Nat) (a0:Ty.den TDisk) (a1:ByteArray) (a2:Int):rn (E k) Tryz.f170 (C k) (a0,a1,a2,())=f k a0 a1 a2:=by kernel_rfl
theorem ctr (k:Nat):Cp 170 (C k):=rc rfl (D k) (by kernel_rfl) Tryz.func170 (by kernel_rfl) rfl fun ⟨a0,a1,a2,_⟩ r h=>(eq k a0 a1 a2).trans h
end impl_Truncate
namespace impl_told
def C (k:Nat):Cn:=⟨[.val (.int .i64)],[(.int .i64)],true,false,fun x=>f k x.1⟩
def E (k:Nat):Env:=en [] [] 0 [] k
theorem eq (k:Nat) (a0:Int):rn (E k) Tryz.f212 (C k) (a0,())=f k a0:=by kernel_rfl
theorem ctr (k:Nat):Cp 212 (C k):=rc rfl [] (by kernel_rfl) Tryz.func212 (by kernel_rfl) rfl fun ⟨a0,_⟩ r h=>(eq k a0).trans h
end impl_told
namespace impl_worker__took_g1
def C (k:Nat):Cn:=⟨[.io true Tworker,.give TDisk,.val (.int .i64)],[],true,false,fun x=>f k x.1 x.2.1 x.2.2.1⟩
def D (k:Nat):List Ce:=[q (impl_told.ctr k)]
def E (k:Nat):Env:=en (D k) [] 1 [] k
theorem eq (k:Nat) (a0:Ty.den Tworker) (a1:Ty.den TDisk) (a2:Int):rn (E k) Tryz.f169 (C k) (a0,a1,a2,())=f k a0 a1 a2:=by kernel_rfl
theorem ctr (k:Nat):Cp 169 (C k):=rc rfl (D k) (by kernel_rfl) Tryz.func169 (by kernel_rfl) rfl fun ⟨a0,a1,a2,_⟩ r h=>(eq k a0 a1 a2).trans h
end impl_worker__took_g1
namespace impl_Sync_1
def C (k:Nat):Cn:=⟨[.io true TDisk,.io true .str],[(.int .i64)],true,false,fun x=>f k x.1 x.2.1⟩
def D (k:Nat):List Ce:=[q (impl_fileAt.ctr k)]
def E (k:Nat):Env:=en (D k) [] 2 [] k
theorem eq (k:Nat) (a0:Ty.den TDisk) (a1:ByteArray):rn (E k) Tryz.f242 (C k) (a0,a1,())=f k a0 a1:=by kernel_rfl
theorem ctr (k:Nat):Cp 242 (C k):=rc rfl (D k) (by kernel_rfl) Tryz.func242 (by kernel_rfl) rfl fun ⟨a0,a1,_⟩ r h=>(eq k a0 a1).trans h
end impl_Sync_1
namespace impl_step_Sync_1
def C (k:Nat):Cn:=⟨[.val TDisk,.fn 242 1,.io true .str],[TDisk,(.int .i64)],true,false,fun x=>f k x.1 x.2.1⟩
def D (k:Nat):List Ce:=[q (impl_copyDisk.ctr k),q (impl_DiskOk.ctr k),q (impl_Sync_1.ctr k)]
def E (k:Nat):Env:=en (D k) [] 1 [] k
theorem eq (k:Nat) (a0:Ty.den TDisk) (a1:ByteArray):rn (E k) Tryz.f213 (C k) (a0,a1,())=f k a0 a1:=by kernel_rfl
theorem ctr (k:Nat):Cp 213 (C k):=rc rfl (D k) (by kernel_rfl) Tryz.func213 (by kernel_rfl) rfl fun ⟨a0,a1,_⟩ r h=>(eq k a0 a1).trans h
end impl_step_Sync_1
namespace impl_Sync
def C (k:Nat):Cn:=⟨[.val TDisk,.val .str],[TDisk,(.int .i64)],true,false,fun x=>f k x.1 x.2.1⟩
def D (k:Nat):List Ce:=[q (impl_step_Sync_1.ctr k)]
def E (k:Nat):Env:=en (D k) [] 0 [] k
theorem eq (k:Nat) (a0:Ty.den TDisk) (a1:ByteArray):rn (E k) Tryz.f215 (C k) (a0,a1,())=f k a0 a1:=by kernel_rfl
theorem ctr (k:Nat):Cp 215 (C k):=rc rfl (D k) (by kernel_rfl) Tryz.func215 (by kernel_rfl) rfl fun ⟨a0,a1,_⟩ r h=>(eq k a0 a1).trans h
end impl_Sync
namespace impl_worker__sync
def C (k:Nat):Cn:=⟨[.io true Tworker,.val .str],[],true,false,fun x=>f k x.1 x.2.1⟩
def D (k:Nat):List Ce:=[q (impl_Sync.ctr k),q (impl_worker__took_g1.ctr k)]
def E (k:Nat):Env:=en (D k) [] 1 [] k
theorem eq (k:Nat) (a0:Ty.den Tworker) (a1:ByteArray):rn (E k) Tryz.f171 (C k) (a0,a1,())=f k a0 a1:=by kernel_rfl
theorem ctr (k:Nat):Cp 171 (C k):=rc rfl (D k) (by kernel_rfl) Tryz.func171 (by kernel_rfl) rfl fun ⟨a0,a1,_⟩ r h=>(eq k a0 a1).trans h
end impl_worker__sync
namespace impl_HintName
def C (k:Nat):Cn:=⟨[.val (.int .i64)],[.str],true,false,fun x=>f k x.1⟩
def D (k:Nat):List Ce:=[q (impl_named.ctr k)]
def E (k:Nat):Env:=en (D k) [] 0 [] k
theorem eq (k:Nat) (a0:Int):rn (E k) Tryz.f216 (C k) (a0,())=f k a0:=by kernel_rfl
theorem ctr (k:Nat):Cp 216 (C k):=rc rfl (D k) (by kernel_rfl) Tryz.func216 (by kernel_rfl) rfl fun ⟨a0,_⟩ r h=>(eq k a0).trans h
end impl_HintName
namespace impl_DirOk
def C (k:Nat):Cn:=⟨[.val (.slice TEntry)],[.bool],true,false,fun x=>f k x.1⟩
def D (k:Nat):List Ce:=[q (impl_KeyOk.ctr k),q (impl_in.ctr k)]
def E (k:Nat):Env:=en (D k) [(2,[0,5,6,7])] 0 [] k
section
variable (k:Nat) (a0:List (Ty.den TEntry))
def K0:Ex→St→Rs:=runK (E k) (eK (E k) Tryz.f180 (C k) (a0,())) [.blk 0,.code (at_ (bt 2 3) (body Tryz.f180))]
def V0 (n0:Nat):T0:=fun x0 x1 x2 x3=>loopN (exec (E k) (at_ (bt 5 5) (body Tryz.f180))) (canon 0 [0,5,6,7]) (K0 k a0) n0 (mk 58 0 [(0,.sl true TEntry x0),(5,.sl true TEntry x1),(6,.int .i64 x2),(7,.int .i64 x3)] [])
theorem s0 (n0:Nat):V0 k a0 (n0+1)=b0 k (V0 k a0 n0):=by kernel_rfl
theorem e0:V0 k a0=l0 k:=loop_eq rfl (s0 k a0) fun _=>rfl
end
theorem eq (k:Nat) (a0:List (Ty.den TEntry)):rn (E k) Tryz.f180 (C k) (a0,())=f k a0:=(show _=t k (V0 k a0 k) a0 by kernel_rfl).trans (by rw [e0];rfl)
theorem ctr (k:Nat):Cp 180 (C k):=rc rfl (D k) (by kernel_rfl) Tryz.func180 (by kernel_rfl) rfl fun ⟨a0,_⟩ r h=>(eq k a0).trans h
end impl_DirOk
namespace impl_hintOk
def C (k:Nat):Cn:=⟨[.val THint],[.bool],true,false,fun x=>f k x.1⟩
def D (k:Nat):List Ce:=[q (impl_in.ctr k),q (impl_DirOk.ctr k)]
def E (k:Nat):Env:=en (D k) [(2,[1,6,7,8])] 0 [] k
section
variable (k:Nat) (a0:Ty.den THint)
def K0:Ex→St→Rs:=runK (E k) (eK (E k) Tryz.f243 (C k) (a0,())) [.blk 0,.code (at_ (bt 2 3) (body Tryz.f243))]
def V0 (n0:Nat):T0:=fun x0 x1 x2 x3 x4 x5=>loopN (exec (E k) (at_ (bt 5 5) (body Tryz.f243))) (canon 0 [1,6,7,8]) (K0 k a0) n0 (mk 39 1 [(1,.ptr 0 0 0),(6,.sl true TEntry x0),(7,.int .i64 x1),(8,.int .i64 x2)] [(0,.box [.int .i64 x3,.int .i64 x4,.sl true TEntry x5])])
theorem s0 (n0:Nat):V0 k a0 (n0+1)=b0 k (V0 k a0 n0):=by kernel_rfl
theorem e0:V0 k a0=l0 k:=loop_eq rfl (s0 k a0) fun _=>rfl
end
theorem eq (k:Nat) (a0:Ty.den THint):rn (E k) Tryz.f243 (C k) (a0,())=f k a0:=(show _=t k (V0 k a0 k) a0 by kernel_rfl).trans (by rw [e0];rfl)
theorem ctr (k:Nat):Cp 243 (C k):=rc rfl (D k) (by kernel_rfl) Tryz.func243 (by kernel_rfl) rfl fun ⟨a0,_⟩ r h=>(eq k a0).trans h
end impl_hintOk
namespace impl_vars
def C (k:Nat):Cn:=⟨[.val (.slice (.int .i64))],[.str],true,false,fun x=>f k x.1⟩
def D (k:Nat):List Ce:=[q (impl_Var.ctr k)]
def E (k:Nat):Env:=en (D k) [(3,[3,6,7,8])] 0 [] k
section
variable (k:Nat) (a0:List Int)
def K0:Ex→St→Rs:=runK (E k) (eK (E k) Tryz.f253 (C k) (a0,())) [.blk 0,.code (at_ (bt 3 7) (body Tryz.f253))]
def V0 (n0:Nat):T0:=fun x0 x1 x2 x3=>loopN (exec (E k) (at_ (bt 6 11) (body Tryz.f253))) (canon 0 [3,6,7,8]) (K0 k a0) n0 (mk 18 0 [(3,.str x0),(6,.sl true (.int .i64) x1),(7,.int .i64 x2),(8,.int .i64 x3)] [])
theorem s0 (n0:Nat):V0 k a0 (n0+1)=b0 k (V0 k a0 n0):=by kernel_rfl
theorem e0:V0 k a0=l0 k:=loop_eq rfl (s0 k a0) fun _=>rfl
end
theorem eq (k:Nat) (a0:List Int):rn (E k) Tryz.f253 (C k) (a0,())=f k a0:=(show _=t k (V0 k a0 k) a0 by kernel_rfl).trans (by rw [e0];rfl)
theorem ctr (k:Nat):Cp 253 (C k):=rc rfl (D k) (by kernel_rfl) Tryz.func253 (by kernel_rfl) rfl fun ⟨a0,_⟩ r h=>(eq k a0).trans h
end impl_vars
namespace impl_ShowHint
def C (k:Nat):Cn:=⟨[.val THint],[.str],true,false,fun x=>f k x.1⟩
def D (k:Nat):List Ce:=[q (impl_hintOk.ctr k),q (impl_vars.ctr k),q (impl_textOf.ctr k),q (impl_Crc.ctr k),q (impl_Fixed.ctr k)]
def E (k:Nat):Env:=en (D k) [(5,[3,19,20,21])] 0 [] k
section
variable (k:Nat) (a0:Ty.den THint)
def K0:Ex→St→Rs:=runK (E k) (eK (E k) Tryz.f244 (C k) (a0,())) [.blk 0,.code (at_ (bt 4 15) (body Tryz.f244))]
def V0 (n0:Nat):T0:=fun x0 x1 x2 x3=>loopN (exec (E k) (at_ (bt 7 23) (body Tryz.f244))) (canon 0 [3,19,20,21]) (K0 k a0) n0 (mk 47 0 [(3,.str x0),(19,.sl true TEntry x1),(20,.int .i64 x2),(21,.int .i64 x3)] [])
theorem s0 (n0:Nat):V0 k a0 (n0+1)=b0 k (V0 k a0 n0):=by kernel_rfl
theorem e0:V0 k a0=l0 k:=loop_eq rfl (s0 k a0) fun _=>rfl
end
theorem eq (k:Nat) (a0:Ty.den THint):rn (E k) Tryz.f244 (C k) (a0,())=f k a0:=(show _=t k (V0 k a0 k) a0 by kernel_rfl).trans (by rw [e0];rfl)
theorem ctr (k:Nat):Cp 244 (C k):=rc rfl (D k) (by kernel_rfl) Tryz.func244 (by kernel_rfl) rfl fun ⟨a0,_⟩ r h=>(eq k a0).trans h
end impl_ShowHint
namespace impl_ReadHint
def C (k:Nat):Cn:=⟨[.val .str],[THint,.bool],true,false,fun x=>f k x.1⟩
def D (k:Nat):List Ce:=[q (impl_scanner__bytes.ctr k),q (impl_scanner__num.ctr k),q (impl_scanner__text.ctr k),q (impl_hintOk.ctr k),q (impl_ShowHint.ctr k)]
def E (k:Nat):Env:=en (D k) [(8,[0,2,4,5,6,7])] 0 [] k
section
variable (k:Nat) (a0:ByteArray)
def K0:Ex→St→Rs:=runK (E k) (eK (E k) Tryz.f217 (C k) (a0,())) [.blk 0,.code (at_ (bt 8 255) (body Tryz.f217))]
def V0 (n0:Nat):T0:=fun x0 x1 x2 x3 x4 x5 x6 x7 x8 x9 x10=>loopN (exec (E k) (at_ (bt 11 383) (body Tryz.f217))) (canon 0 [0,2,4,5,6,7]) (K0 k a0) n0 (mk 72 5 [(0,.str x0),(2,.ptr 0 0 0),(4,.ptr 2 0 0),(5,.ptr 3 0 0),(6,.int .i64 x1),(7,.int .i64 x2)] [(1,.own false TEntry x3),(0,.box [.int .i64 x4,.int .i64 x5,.ref 1]),(2,.box [.str x6,.bool x7]),(4,.own false TEntry x8),(3,.box [.int .i64 x9,.int .i64 x10,.ref 4])])
theorem s0 (n0:Nat):V0 k a0 (n0+1)=b0 k (V0 k a0 n0):=by kernel_rfl
theorem e0:V0 k a0=l0 k:=loop_eq rfl (s0 k a0) fun _=>rfl
end
theorem eq (k:Nat) (a0:ByteArray):rn (E k) Tryz.f217 (C k) (a0,())=f k a0:=(show _=t k (V0 k a0 k) a0 by kernel_rfl).trans (by rw [e0];rfl)
theorem ctr (k:Nat):Cp 217 (C k):=rc rfl (D k) (by kernel_rfl) Tryz.func217 (by kernel_rfl) rfl fun ⟨a0,_⟩ r h=>(eq k a0).trans h
end impl_ReadHint
namespace impl_ShowRec
def C (k:Nat):Cn:=⟨[.val TRec],[.str],true,false,fun x=>f k x.1⟩
def D (k:Nat):List Ce:=[q (impl_RecOk.ctr k),q (impl_vars.ctr k),q (impl_textOf.ctr k),q (impl_Var.ctr k),q (impl_Fixed.ctr k)]
def E (k:Nat):Env:=en (D k) [] 0 [] k
theorem eq (k:Nat) (a0:Ty.den TRec):rn (E k) Tryz.f231 (C k) (a0,())=f k a0:=by kernel_rfl
theorem ctr (k:Nat):Cp 231 (C k):=rc rfl (D k) (by kernel_rfl) Tryz.func231 (by kernel_rfl) rfl fun ⟨a0,_⟩ r h=>(eq k a0).trans h
end impl_ShowRec
namespace impl_SumOf
def C (k:Nat):Cn:=⟨[.val (.slice TRec)],[(.int .i64)],true,false,fun x=>f k x.1⟩
def D (k:Nat):List Ce:=[q (impl_ShowRec.ctr k),q (impl_Crc.ctr k)]
def E (k:Nat):Env:=en (D k) [(3,[3,6,7,8])] 0 [] k
section
variable (k:Nat) (a0:List (Ty.den TRec))
def K0:Ex→St→Rs:=runK (E k) (eK (E k) Tryz.f230 (C k) (a0,())) [.blk 0,.code (at_ (bt 3 7) (body Tryz.f230))]
def V0 (n0:Nat):T0:=fun x0 x1 x2 x3=>loopN (exec (E k) (at_ (bt 6 11) (body Tryz.f230))) (canon 0 [3,6,7,8]) (K0 k a0) n0 (mk 19 0 [(3,.str x0),(6,.sl true TRec x1),(7,.int .i64 x2),(8,.int .i64 x3)] [])
theorem s0 (n0:Nat):V0 k a0 (n0+1)=b0 k (V0 k a0 n0):=by kernel_rfl
theorem e0:V0 k a0=l0 k:=loop_eq rfl (s0 k a0) fun _=>rfl
end
theorem eq (k:Nat) (a0:List (Ty.den TRec)):rn (E k) Tryz.f230 (C k) (a0,())=f k a0:=(show _=t k (V0 k a0 k) a0 by kernel_rfl).trans (by rw [e0];rfl)
theorem ctr (k:Nat):Cp 230 (C k):=rc rfl (D k) (by kernel_rfl) Tryz.func230 (by kernel_rfl) rfl fun ⟨a0,_⟩ r h=>(eq k a0).trans h
end impl_SumOf
namespace impl_fits
def C (k:Nat):Cn:=⟨[.val TRec,.val (.slice TPlace)],[.bool],true,false,fun x=>f k x.1 x.2.1⟩
def D (k:Nat):List Ce:=[q (impl_SumOf.ctr k)]
def E (k:Nat):Env:=en (D k) [(3,[2,5,8,9,10])] 0 [] k
section
variable (k:Nat) (a0:Ty.den TRec) (a1:List (Ty.den TPlace))
def K0:Ex→St→Rs:=runK (E k) (eK (E k) Tryz.f220 (C k) (a0,a1,())) [.blk 0,.code (at_ (bt 3 7) (body Tryz.f220))]
def V0 (n0:Nat):T0:=fun x0 x1 x2 x3 x4 x5 x6 x7 x8 x9=>loopN (exec (E k) (at_ (bt 6 11) (body Tryz.f220))) (canon 0 [2,5,8,9,10]) (K0 k a0 a1) n0 (mk 32 2 [(2,.ptr 0 0 0),(5,.ref 1),(8,.sl true TPlace x0),(9,.int .i64 x1),(10,.int .i64 x2)] [(0,.box [.int .i64 x3,.int .i64 x4,.str x5,.str x6,.int .i64 x7,.int .i64 x8]),(1,.own false TRec x9)])
theorem s0 (n0:Nat):V0 k a0 a1 (n0+1)=b0 k (V0 k a0 a1 n0):=by kernel_rfl
theorem e0:V0 k a0 a1=l0 k:=loop_eq rfl (s0 k a0 a1) fun _=>rfl
end
theorem eq (k:Nat) (a0:Ty.den TRec) (a1:List (Ty.den TPlace)):rn (E k) Tryz.f220 (C k) (a0,a1,())=f k a0 a1:=(show _=t k (V0 k a0 a1 k) a0 a1 by kernel_rfl).trans (by rw [e0];rfl)
theorem ctr (k:Nat):Cp 220 (C k):=rc rfl (D k) (by kernel_rfl) Tryz.func220 (by kernel_rfl) rfl fun ⟨a0,a1,_⟩ r h=>(eq k a0 a1).trans h
end impl_fits
namespace impl_HintOf
def C (k:Nat):Cn:=⟨[.val (.int .i64),.val .str],[THint,.bool],true,false,fun x=>f k x.1 x.2.1⟩
def D (k:Nat):List Ce:=[q (impl_ScanRecs.ctr k),q (impl_in.ctr k),q (impl_placed.ctr k),q (impl_fits.ctr k)]
def E (k:Nat):Env:=en (D k) [(7,[0,4,6,9,67,68,69])] 0 [] k
section
variable (k:Nat) (a0:Int) (a1:ByteArray)
def K0:Ex→St→Rs:=runK (E k) (eK (E k) Tryz.f245 (C k) (a0,a1,())) [.blk 0,.code (at_ (bt 6 63) (body Tryz.f245))]
def V0 (n0:Nat):T0:=fun x0 x1 x2 x3 x4 x5 x6 x7 x8 x9 x10=>loopN (exec (E k) (at_ (bt 9 95) (body Tryz.f245))) (canon 0 [0,4,6,9,67,68,69]) (K0 k a0 a1) n0 (mk 123 4 [(0,.int .i64 x0),(4,.ptr 0 0 0),(6,.sl false TSpot x1),(9,.ptr 2 0 0),(67,.sl false TSpot x2),(68,.int .i64 x3),(69,.int .i64 x4)] [(1,.own false TEntry x5),(0,.box [.int .i64 x6,.int .i64 x7,.ref 1]),(3,.own false TEntry x8),(2,.box [.int .i64 x9,.int .i64 x10,.ref 3])])
theorem s0 (n0:Nat):V0 k a0 a1 (n0+1)=b0 k (V0 k a0 a1 n0):=by kernel_rfl
theorem e0:V0 k a0 a1=l0 k:=loop_eq rfl (s0 k a0 a1) fun _=>rfl
end
theorem eq (k:Nat) (a0:Int) (a1:ByteArray):rn (E k) Tryz.f245 (C k) (a0,a1,())=f k a0 a1:=(show _=t k (V0 k a0 a1 k) a0 a1 by kernel_rfl).trans (by rw [e0];rfl)
theorem ctr (k:Nat):Cp 245 (C k):=rc rfl (D k) (by kernel_rfl) Tryz.func245 (by kernel_rfl) rfl fun ⟨a0,a1,_⟩ r h=>(eq k a0 a1).trans h
end impl_HintOf
namespace impl_SameDir
def C (k:Nat):Cn:=⟨[.val (.slice TEntry),.val (.slice TEntry)],[.bool],true,false,fun x=>f k x.1 x.2.1⟩
def E (k:Nat):Env:=en [] [(4,[0,1,12,13])] 0 [] k
section
variable (k:Nat) (a0:List (Ty.den TEntry)) (a1:List (Ty.den TEntry))
def K0:Ex→St→Rs:=runK (E k) (eK (E k) Tryz.f246 (C k) (a0,a1,())) [.blk 0,.code (at_ (bt 3 7) (body Tryz.f246))]
def V0 (n0:Nat):T0:=fun x0 x1 x2 x3=>loopN (exec (E k) (at_ (bt 6 11) (body Tryz.f246))) (canon 0 [0,1,12,13]) (K0 k a0 a1) n0 (mk 26 0 [(0,.sl true TEntry x0),(1,.sl true TEntry x1),(12,.int .i64 x2),(13,.int .i64 x3)] [])
theorem s0 (n0:Nat):V0 k a0 a1 (n0+1)=b0 k (V0 k a0 a1 n0):=by kernel_rfl
theorem e0:V0 k a0 a1=l0 k:=loop_eq rfl (s0 k a0 a1) fun _=>rfl
end
theorem eq (k:Nat) (a0:List (Ty.den TEntry)) (a1:List (Ty.den TEntry)):rn (E k) Tryz.f246 (C k) (a0,a1,())=f k a0 a1:=(show _=t k (V0 k a0 a1 k) a0 a1 by kernel_rfl).trans (by rw [e0];rfl)
theorem ctr (k:Nat):Cp 246 (C k):=rc rfl [] (by kernel_rfl) Tryz.func246 (by kernel_rfl) rfl fun ⟨a0,a1,_⟩ r h=>(eq k a0 a1).trans h
end impl_SameDir
namespace impl_HintFits
def C (k:Nat):Cn:=⟨[.val (.int .i64),.val .str,.val THint],[.bool],true,false,fun x=>f k x.1 x.2.1 x.2.2.1⟩
def D (k:Nat):List Ce:=[q (impl_HintOf.ctr k),q (impl_SameDir.ctr k)]
def E (k:Nat):Env:=en (D k) [] 0 [] k
theorem eq (k:Nat) (a0:Int) (a1:ByteArray) (a2:Ty.den THint):rn (E k) Tryz.f218 (C k) (a0,a1,a2,())=f k a0 a1 a2:=by kernel_rfl
theorem ctr (k:Nat):Cp 218 (C k):=rc rfl (D k) (by kernel_rfl) Tryz.func218 (by kernel_rfl) rfl fun ⟨a0,a1,a2,_⟩ r h=>(eq k a0 a1 a2).trans h
end impl_HintFits
namespace impl_worker__hinted
def C (k:Nat):Cn:=⟨[.io true Tworker,.val (.int .i64)],[TGroup,.bool],true,false,fun x=>f k x.1 x.2.1⟩
def D (k:Nat):List Ce:=[q (impl_HintName.ctr k),q (impl_FileText.ctr k),q (impl_ReadHint.ctr k),q (impl_SegName.ctr k),q (impl_HintFits.ctr k)]
def E (k:Nat):Env:=en (D k) [] 1 [] k
theorem eq (k:Nat) (a0:Ty.den Tworker) (a1:Int):rn (E k) Tryz.f172 (C k) (a0,a1,())=f k a0 a1:=by kernel_rfl
theorem ctr (k:Nat):Cp 172 (C k):=rc rfl (D k) (by kernel_rfl) Tryz.func172 (by kernel_rfl) rfl fun ⟨a0,a1,_⟩ r h=>(eq k a0 a1).trans h
end impl_worker__hinted
namespace impl_copyDir
def C (k:Nat):Cn:=⟨[.val (.slice TEntry)],[(.slice TEntry)],true,false,fun x=>f k x.1⟩
def E (k:Nat):Env:=en [] [] 0 [] k
theorem eq (k:Nat) (a0:List (Ty.den TEntry)):rn (E k) Tryz.f178 (C k) (a0,())=f k a0:=by kernel_rfl
theorem ctr (k:Nat):Cp 178 (C k):=rc rfl [] (by kernel_rfl) Tryz.func178 (by kernel_rfl) rfl fun ⟨a0,_⟩ r h=>(eq k a0).trans h
end impl_copyDir
namespace impl_ownOf
def C (k:Nat):Cn:=⟨[.val (.slice TPlace),.val TRec],[(.slice TPlace)],true,false,fun x=>f k x.1 x.2.1⟩
def E (k:Nat):Env:=en [] [(3,[3,5,9,10,11])] 0 [] k
section
variable (k:Nat) (a0:List (Ty.den TPlace)) (a1:Ty.den TRec)
def K0:Ex→St→Rs:=runK (E k) (eK (E k) Tryz.f219 (C k) (a0,a1,())) [.blk 0,.code (at_ (bt 3 7) (body Tryz.f219))]
def V0 (n0:Nat):T0:=fun x0 x1 x2 x3 x4 x5 x6 x7 x8 x9=>loopN (exec (E k) (at_ (bt 6 11) (body Tryz.f219))) (canon 0 [3,5,9,10,11]) (K0 k a0 a1) n0 (mk 62 2 [(3,.ptr 0 0 0),(5,.ref 1),(9,.sl true TPlace x0),(10,.int .i64 x1),(11,.int .i64 x2)] [(0,.box [.int .i64 x3,.int .i64 x4,.str x5,.str x6,.int .i64 x7,.int .i64 x8]),(1,.own false TPlace x9)])
theorem s0 (n0:Nat):V0 k a0 a1 (n0+1)=b0 k (V0 k a0 a1 n0):=by kernel_rfl
theorem e0:V0 k a0 a1=l0 k:=loop_eq rfl (s0 k a0 a1) fun _=>rfl
end
theorem eq (k:Nat) (a0:List (Ty.den TPlace)) (a1:Ty.den TRec):rn (E k) Tryz.f219 (C k) (a0,a1,())=f k a0 a1:=(show _=t k (V0 k a0 a1 k) a0 a1 by kernel_rfl).trans (by rw [e0];rfl)
theorem ctr (k:Nat):Cp 219 (C k):=rc rfl [] (by kernel_rfl) Tryz.func219 (by kernel_rfl) rfl fun ⟨a0,a1,_⟩ r h=>(eq k a0 a1).trans h
end impl_ownOf
namespace impl_DirDrop
def C (k:Nat):Cn:=⟨[.val (.slice TEntry),.val .str],[(.slice TEntry)],true,false,fun x=>f k x.1 x.2.1⟩
def E (k:Nat):Env:=en [] [(3,[1,5,8,9,10])] 0 [] k
section
variable (k:Nat) (a0:List (Ty.den TEntry)) (a1:ByteArray)
def K0:Ex→St→Rs:=runK (E k) (eK (E k) Tryz.f228 (C k) (a0,a1,())) [.blk 0,.code (at_ (bt 3 7) (body Tryz.f228))]
def V0 (n0:Nat):T0:=fun x0 x1 x2 x3 x4=>loopN (exec (E k) (at_ (bt 6 11) (body Tryz.f228))) (canon 0 [1,5,8,9,10]) (K0 k a0 a1) n0 (mk 24 1 [(1,.str x0),(5,.ref 0),(8,.sl true TEntry x1),(9,.int .i64 x2),(10,.int .i64 x3)] [(0,.own false TEntry x4)])
theorem s0 (n0:Nat):V0 k a0 a1 (n0+1)=b0 k (V0 k a0 a1 n0):=by kernel_rfl
theorem e0:V0 k a0 a1=l0 k:=loop_eq rfl (s0 k a0 a1) fun _=>rfl
end
theorem eq (k:Nat) (a0:List (Ty.den TEntry)) (a1:ByteArray):rn (E k) Tryz.f228 (C k) (a0,a1,())=f k a0 a1:=(show _=t k (V0 k a0 a1 k) a0 a1 by kernel_rfl).trans (by rw [e0];rfl)
theorem ctr (k:Nat):Cp 228 (C k):=rc rfl [] (by kernel_rfl) Tryz.func228 (by kernel_rfl) rfl fun ⟨a0,a1,_⟩ r h=>(eq k a0 a1).trans h
end impl_DirDrop
namespace impl_DirPut
def C (k:Nat):Cn:=⟨[.val (.slice TEntry),.val TEntry],[(.slice TEntry)],true,false,fun x=>f k x.1 x.2.1⟩
def D (k:Nat):List Ce:=[q (impl_DirDrop.ctr k),q (impl_copyDir.ctr k)]
def E (k:Nat):Env:=en (D k) [(3,[3,5,6])] 0 [] k
section
variable (k:Nat) (a0:List (Ty.den TEntry)) (a1:Ty.den TEntry)
def K0:Ex→St→Rs:=runK (E k) (eK (E k) Tryz.f229 (C k) (a0,a1,())) [.blk 0,.code (at_ (bt 4 15) (body Tryz.f229))]
def V0 (n0:Nat):T0:=fun x0 x1 x2 x3 x4 x5 x6=>loopN (exec (E k) (at_ (bt 6 7) (body Tryz.f229))) (canon 0 [3,5,6]) (K0 k a0 a1) n0 (mk 38 2 [(3,.ptr 0 0 0),(5,.ref 1),(6,.int .i64 x0)] [(0,.box [.str x1,.int .i64 x2,.int .i64 x3,.int .i64 x4,.int .i64 x5]),(1,.own false TEntry x6)])
theorem s0 (n0:Nat):V0 k a0 a1 (n0+1)=b0 k (V0 k a0 a1 n0):=by kernel_rfl
theorem e0:V0 k a0 a1=l0 k:=loop_eq rfl (s0 k a0 a1) fun _=>rfl
end
theorem eq (k:Nat) (a0:List (Ty.den TEntry)) (a1:Ty.den TEntry):rn (E k) Tryz.f229 (C k) (a0,a1,())=f k a0 a1:=(show _=t k (V0 k a0 a1 k) a0 a1 by kernel_rfl).trans (by rw [e0];rfl)
theorem ctr (k:Nat):Cp 229 (C k):=rc rfl (D k) (by kernel_rfl) Tryz.func229 (by kernel_rfl) rfl fun ⟨a0,a1,_⟩ r h=>(eq k a0 a1).trans h
end impl_DirPut
namespace impl_Group__apply
def C (k:Nat):Cn:=⟨[.io true TGroup,.val (.slice TPlace)],[],true,false,fun x=>f k x.1 x.2.1⟩
def D (k:Nat):List Ce:=[q (impl_DirDrop.ctr k),q (impl_DirPut.ctr k)]
def E (k:Nat):Env:=en (D k) [(1,[0,6,7,8])] 1 [] k
section
variable (k:Nat) (a0:Ty.den TGroup) (a1:List (Ty.den TPlace))
def K0:Ex→St→Rs:=runK (E k) (eK (E k) Tryz.f221 (C k) (a0,a1,())) [.blk 0,.code (at_ (bt 1 1) (body Tryz.f221))]
def V0 (n0:Nat):T0:=fun x0 x1 x2 x3 x4 x5=>loopN (exec (E k) (at_ (bt 4 2) (body Tryz.f221))) (canon 1 [0,6,7,8]) (K0 k a0 a1) n0 (mk 58 2 [(0,.ptr 0 0 0),(6,.sl true TPlace x0),(7,.int .i64 x1),(8,.int .i64 x2)] [(1,.own false TEntry x3),(0,.box [.ref 1,.int .i64 x4,.int .i64 x5])])
theorem s0 (n0:Nat):V0 k a0 a1 (n0+1)=b0 k (V0 k a0 a1 n0):=by kernel_rfl
theorem e0:V0 k a0 a1=l0 k:=loop_eq rfl (s0 k a0 a1) fun _=>rfl
end
theorem eq (k:Nat) (a0:Ty.den TGroup) (a1:List (Ty.den TPlace)):rn (E k) Tryz.f221 (C k) (a0,a1,())=f k a0 a1:=(show _=t k (V0 k a0 a1 k) a0 a1 by kernel_rfl).trans (by rw [e0];rfl)
theorem ctr (k:Nat):Cp 221 (C k):=rc rfl (D k) (by kernel_rfl) Tryz.func221 (by kernel_rfl) rfl fun ⟨a0,a1,_⟩ r h=>(eq k a0 a1).trans h
end impl_Group__apply
namespace impl_Regroup
def C (k:Nat):Cn:=⟨[.val TGroup,.val (.slice TPlace)],[TGroup],true,false,fun x=>f k x.1 x.2.1⟩
def D (k:Nat):List Ce:=[q (impl_copyDir.ctr k),q (impl_ownOf.ctr k),q (impl_fits.ctr k),q (impl_Group__apply.ctr k)]
def E (k:Nat):Env:=en (D k) [(3,[1,4,5,17,18,19])] 0 [] k
section
variable (k:Nat) (a0:Ty.den TGroup) (a1:List (Ty.den TPlace))
def K0:Ex→St→Rs:=runK (E k) (eK (E k) Tryz.f173 (C k) (a0,a1,())) [.blk 0,.code (at_ (bt 3 7) (body Tryz.f173))]
def V0 (n0:Nat):T0:=fun x0 x1 x2 x3 x4 x5 x6 x7 x8 x9=>loopN (exec (E k) (at_ (bt 6 11) (body Tryz.f173))) (canon 0 [1,4,5,17,18,19]) (K0 k a0 a1) n0 (mk 77 4 [(1,.sl true TPlace x0),(4,.ptr 0 0 0),(5,.ptr 2 0 0),(17,.sl true TPlace x1),(18,.int .i64 x2),(19,.int .i64 x3)] [(1,.own false TEntry x4),(0,.box [.ref 1,.int .i64 x5,.int .i64 x6]),(3,.own false TEntry x7),(2,.box [.ref 3,.int .i64 x8,.int .i64 x9])])
theorem s0 (n0:Nat):V0 k a0 a1 (n0+1)=b0 k (V0 k a0 a1 n0):=by kernel_rfl
theorem e0:V0 k a0 a1=l0 k:=loop_eq rfl (s0 k a0 a1) fun _=>rfl
end
theorem eq (k:Nat) (a0:Ty.den TGroup) (a1:List (Ty.den TPlace)):rn (E k) Tryz.f173 (C k) (a0,a1,())=f k a0 a1:=(show _=t k (V0 k a0 a1 k) a0 a1 by kernel_rfl).trans (by rw [e0];rfl)
theorem ctr (k:Nat):Cp 173 (C k):=rc rfl (D k) (by kernel_rfl) Tryz.func173 (by kernel_rfl) rfl fun ⟨a0,a1,_⟩ r h=>(eq k a0 a1).trans h
end impl_Regroup
namespace impl_IdOf
def C (k:Nat):Cn:=⟨[.val .str],[(.int .i64),.bool],true,false,fun x=>f k x.1⟩
def D (k:Nat):List Ce:=[q (lib_CutPrefix.ctr k),q (impl_ReadDec.ctr k),q (impl_in.ctr k)]
def E (k:Nat):Env:=en (D k) [] 0 [] k
theorem eq (k:Nat) (a0:ByteArray):rn (E k) Tryz.f247 (C k) (a0,())=f k a0:=by kernel_rfl
theorem ctr (k:Nat):Cp 247 (C k):=rc rfl (D k) (by kernel_rfl) Tryz.func247 (by kernel_rfl) rfl fun ⟨a0,_⟩ r h=>(eq k a0).trans h
end impl_IdOf
namespace impl_hasInt
def C (k:Nat):Cn:=⟨[.val (.slice (.int .i64)),.val (.int .i64)],[.bool],true,false,fun x=>f k x.1 x.2.1⟩
def E (k:Nat):Env:=en [] [(2,[1,7,8,9])] 0 [] k
section
variable (k:Nat) (a0:List Int) (a1:Int)
def K0:Ex→St→Rs:=runK (E k) (eK (E k) Tryz.f248 (C k) (a0,a1,())) [.blk 0,.code (at_ (bt 2 3) (body Tryz.f248))]
def V0 (n0:Nat):T0:=fun x0 x1 x2 x3=>loopN (exec (E k) (at_ (bt 5 5) (body Tryz.f248))) (canon 0 [1,7,8,9]) (K0 k a0 a1) n0 (mk 17 0 [(1,.int .i64 x0),(7,.sl true (.int .i64) x1),(8,.int .i64 x2),(9,.int .i64 x3)] [])
theorem s0 (n0:Nat):V0 k a0 a1 (n0+1)=b0 k (V0 k a0 a1 n0):=by kernel_rfl
theorem e0:V0 k a0 a1=l0 k:=loop_eq rfl (s0 k a0 a1) fun _=>rfl
end
theorem eq (k:Nat) (a0:List Int) (a1:Int):rn (E k) Tryz.f248 (C k) (a0,a1,())=f k a0 a1:=(show _=t k (V0 k a0 a1 k) a0 a1 by kernel_rfl).trans (by rw [e0];rfl)
theorem ctr (k:Nat):Cp 248 (C k):=rc rfl [] (by kernel_rfl) Tryz.func248 (by kernel_rfl) rfl fun ⟨a0,a1,_⟩ r h=>(eq k a0 a1).trans h
end impl_hasInt
namespace impl_Orphans
def C (k:Nat):Cn:=⟨[.val TDisk,.val TLive],[(.slice .str)],true,false,fun x=>f k x.1 x.2.1⟩
def D (k:Nat):List Ce:=[q (impl_DiskOk.ctr k),q (impl_IdOf.ctr k),q (impl_hasInt.ctr k)]
def E (k:Nat):Env:=en (D k) [(5,[3,5,14,15,16])] 0 [] k
section
variable (k:Nat) (a0:Ty.den TDisk) (a1:Ty.den TLive)
def K0:Ex→St→Rs:=runK (E k) (eK (E k) Tryz.f222 (C k) (a0,a1,())) [.blk 0,.code (at_ (bt 4 15) (body Tryz.f222))]
def V0 (n0:Nat):T0:=fun x0 x1 x2 x3 x4 x5=>loopN (exec (E k) (at_ (bt 7 23) (body Tryz.f222))) (canon 0 [3,5,14,15,16]) (K0 k a0 a1) n0 (mk 46 2 [(3,.ptr 0 0 0),(5,.ref 1),(14,.sl true TPair x0),(15,.int .i64 x1),(16,.int .i64 x2)] [(0,.box [.int .i64 x3,.sl true (.int .i64) x4]),(1,.own false .str x5)])
theorem s0 (n0:Nat):V0 k a0 a1 (n0+1)=b0 k (V0 k a0 a1 n0):=by kernel_rfl
theorem e0:V0 k a0 a1=l0 k:=loop_eq rfl (s0 k a0 a1) fun _=>rfl
end
theorem eq (k:Nat) (a0:Ty.den TDisk) (a1:Ty.den TLive):rn (E k) Tryz.f222 (C k) (a0,a1,())=f k a0 a1:=(show _=t k (V0 k a0 a1 k) a0 a1 by kernel_rfl).trans (by rw [e0];rfl)
theorem ctr (k:Nat):Cp 222 (C k):=rc rfl (D k) (by kernel_rfl) Tryz.func222 (by kernel_rfl) rfl fun ⟨a0,a1,_⟩ r h=>(eq k a0 a1).trans h
end impl_Orphans
namespace impl_Disk__drop
def C (k:Nat):Cn:=⟨[.io true TDisk,.val .str],[],true,false,fun x=>f k x.1 x.2.1⟩
def D (k:Nat):List Ce:=[q (impl_fileAt.ctr k)]
def E (k:Nat):Env:=en (D k) [] 1 [] k
theorem eq (k:Nat) (a0:Ty.den TDisk) (a1:ByteArray):rn (E k) Tryz.f262 (C k) (a0,a1,())=f k a0 a1:=by kernel_rfl
theorem ctr (k:Nat):Cp 262 (C k):=rc rfl (D k) (by kernel_rfl) Tryz.func262 (by kernel_rfl) rfl fun ⟨a0,a1,_⟩ r h=>(eq k a0 a1).trans h
end impl_Disk__drop
namespace impl_Remove_1
def C (k:Nat):Cn:=⟨[.io true TDisk,.io true .str],[(.int .i64)],true,false,fun x=>f k x.1 x.2.1⟩
def D (k:Nat):List Ce:=[q (impl_fileAt.ctr k),q (impl_Disk__drop.ctr k)]
def E (k:Nat):Env:=en (D k) [] 2 [] k
theorem eq (k:Nat) (a0:Ty.den TDisk) (a1:ByteArray):rn (E k) Tryz.f261 (C k) (a0,a1,())=f k a0 a1:=by kernel_rfl
theorem ctr (k:Nat):Cp 261 (C k):=rc rfl (D k) (by kernel_rfl) Tryz.func261 (by kernel_rfl) rfl fun ⟨a0,a1,_⟩ r h=>(eq k a0 a1).trans h
end impl_Remove_1
namespace impl_step_Remove_1
def C (k:Nat):Cn:=⟨[.val TDisk,.fn 261 1,.io true .str],[TDisk,(.int .i64)],true,false,fun x=>f k x.1 x.2.1⟩
def D (k:Nat):List Ce:=[q (impl_copyDisk.ctr k),q (impl_DiskOk.ctr k),q (impl_Remove_1.ctr k)]
def E (k:Nat):Env:=en (D k) [] 1 [] k
theorem eq (k:Nat) (a0:Ty.den TDisk) (a1:ByteArray):rn (E k) Tryz.f213 (C k) (a0,a1,())=f k a0 a1:=by kernel_rfl
theorem ctr (k:Nat):Cp 213 (C k):=rc rfl (D k) (by kernel_rfl) Tryz.func213 (by kernel_rfl) rfl fun ⟨a0,a1,_⟩ r h=>(eq k a0 a1).trans h
end impl_step_Remove_1
namespace impl_Remove
def C (k:Nat):Cn:=⟨[.val TDisk,.val .str],[TDisk,(.int .i64)],true,false,fun x=>f k x.1 x.2.1⟩
def D (k:Nat):List Ce:=[q (impl_step_Remove_1.ctr k)]
def E (k:Nat):Env:=en (D k) [] 0 [] k
theorem eq (k:Nat) (a0:Ty.den TDisk) (a1:ByteArray):rn (E k) Tryz.f249 (C k) (a0,a1,())=f k a0 a1:=by kernel_rfl
theorem ctr (k:Nat):Cp 249 (C k):=rc rfl (D k) (by kernel_rfl) Tryz.func249 (by kernel_rfl) rfl fun ⟨a0,a1,_⟩ r h=>(eq k a0 a1).trans h
end impl_Remove
namespace impl_worker__gone
def C (k:Nat):Cn:=⟨[.io true Tworker,.val .str],[],true,false,fun x=>f k x.1 x.2.1⟩
def D (k:Nat):List Ce:=[q (impl_fileAt.ctr k),q (impl_Remove.ctr k),q (impl_worker__took_g1.ctr k)]
def E (k:Nat):Env:=en (D k) [] 1 [] k
theorem eq (k:Nat) (a0:Ty.den Tworker) (a1:ByteArray):rn (E k) Tryz.f223 (C k) (a0,a1,())=f k a0 a1:=by kernel_rfl
theorem ctr (k:Nat):Cp 223 (C k):=rc rfl (D k) (by kernel_rfl) Tryz.func223 (by kernel_rfl) rfl fun ⟨a0,a1,_⟩ r h=>(eq k a0 a1).trans h
end impl_worker__gone
namespace impl_worker__orphans
def C (k:Nat):Cn:=⟨[.io true Tworker,.val TLive],[],true,false,fun x=>f k x.1 x.2.1⟩
def D (k:Nat):List Ce:=[q (impl_Orphans.ctr k),q (impl_worker__gone.ctr k)]
def E (k:Nat):Env:=en (D k) [(2,[0,11,12,13])] 1 [] k
section
variable (k:Nat) (a0:Ty.den Tworker) (a1:Ty.den TLive)
def K0:Ex→St→Rs:=runK (E k) (eK (E k) Tryz.f174 (C k) (a0,a1,())) [.blk 0]
def V0 (n0:Nat):T0:=fun x0 x1 x2 x3 x4 x5 x6 x7=>loopN (exec (E k) (at_ (bt 4 3) (body Tryz.f174))) (canon 1 [0,11,12,13]) (K0 k a0 a1) n0 (mk 21 3 [(0,.ptr 0 0 0),(11,.ref 2),(12,.int .i64 x0),(13,.int .i64 x1)] [(1,.own false TPair x2),(0,.box [.ref 1,.int .i64 x3,.int .i64 x4,.bool x5,.int .i64 x6]),(2,.own false .str x7)])
theorem s0 (n0:Nat):V0 k a0 a1 (n0+1)=b0 k (V0 k a0 a1 n0):=by kernel_rfl
theorem e0:V0 k a0 a1=l0 k:=loop_eq rfl (s0 k a0 a1) fun _=>rfl
end
theorem eq (k:Nat) (a0:Ty.den Tworker) (a1:Ty.den TLive):rn (E k) Tryz.f174 (C k) (a0,a1,())=f k a0 a1:=(show _=t k (V0 k a0 a1 k) a0 a1 by kernel_rfl).trans (by rw [e0];rfl)
theorem ctr (k:Nat):Cp 174 (C k):=rc rfl (D k) (by kernel_rfl) Tryz.func174 (by kernel_rfl) rfl fun ⟨a0,a1,_⟩ r h=>(eq k a0 a1).trans h
end impl_worker__orphans
namespace impl_worker__found
def C (k:Nat):Cn:=⟨[.io true Tworker,.val .str],[TStore],true,false,fun x=>f k x.1 x.2.1⟩
def D (k:Nat):List Ce:=[q (impl_ReadLive.ctr k),q (impl_worker__scanAll.ctr k),q (impl_SegName.ctr k),q (impl_FileText.ctr k),q (impl_Truncate.ctr k),q (impl_worker__took_g1.ctr k),q (impl_worker__sync.ctr k),q (impl_worker__hinted.ctr k),q (impl_Regroup.ctr k),q (impl_worker__orphans.ctr k)]
def E (k:Nat):Env:=en (D k) [(20,[0,4,5,13,14,16,103,104,105])] 1 [] k
section
variable (k:Nat) (a0:Ty.den Tworker) (a1:ByteArray)
def K0:Ex→St→Rs:=runK (E k) (eK (E k) Tryz.f124 (C k) (a0,a1,())) [.blk 0,.code (at_ (bt 13 8191) (body Tryz.f124))]
def V0 (n0:Nat):T0:=fun x0 x1 x2 x3 x4 x5 x6 x7 x8 x9 x10 x11 x12 x13 x14 x15 x16 x17 x18 x19 x20 x21 x22 x23 x24=>loopN (exec (E k) (at_ (bt 16 12287) (body Tryz.f124))) (canon 1 [0,4,5,13,14,16,103,104,105]) (K0 k a0 a1) n0 (mk 134 12 [(0,.ptr 0 0 0),(4,.ptr 2 0 0),(5,.ptr 5 0 0),(13,.ptr 7 0 0),(14,.ptr 9 0 0),(16,.ref 11),(103,.sl false (.slice TPlace) x0),(104,.int .i64 x1),(105,.int .i64 x2)] [(1,.own false TPair x3),(0,.box [.ref 1,.int .i64 x4,.int .i64 x5,.bool x6,.int .i64 x7]),(3,.own false (.int .i64) x8),(4,.own false TEntry x9),(2,.box [.int .i64 x10,.ref 3,.ref 4,.int .i64 x11,.int .i64 x12,.int .i64 x13]),(6,.own false (.int .i64) x14),(5,.box [.int .i64 x15,.ref 6]),(8,.own false TEntry x16),(7,.box [.int .i64 x17,.ref 6,.ref 8,.int .i64 x18,.int .i64 x19,.int .i64 x20]),(10,.own false TEntry x21),(9,.box [.ref 10,.int .i64 x22,.int .i64 x23]),(11,.own false TPlace x24)])
def V1 (n0:Nat):T1:=fun x0 x1 x2 x3 x4 x5 x6 x7 x8 x9 x10 x11 x12 x13 x14 x15 x16 x17 x18 x19 x20 x21 x22 x23 x24=>loopN (exec (E k) (at_ (bt 16 12287) (body Tryz.f124))) (canon 1 [0,4,5,13,14,16,103,104,105]) (K0 k a0 a1) n0 (mk 134 13 [(0,.ptr 0 0 0),(4,.ptr 2 0 0),(5,.ptr 5 0 0),(13,.ptr 7 0 0),(14,.ptr 9 0 0),(16,.ref 11),(103,.ref 12),(104,.int .i64 x0),(105,.int .i64 x1)] [(1,.own false TPair x2),(0,.box [.ref 1,.int .i64 x3,.int .i64 x4,.bool x5,.int .i64 x6]),(3,.own false (.int .i64) x7),(4,.own false TEntry x8),(2,.box [.int .i64 x9,.ref 3,.ref 4,.int .i64 x10,.int .i64 x11,.int .i64 x12]),(6,.own false (.int .i64) x13),(5,.box [.int .i64 x14,.ref 6]),(8,.own false TEntry x15),(7,.box [.int .i64 x16,.ref 6,.ref 8,.int .i64 x17,.int .i64 x18,.int .i64 x19]),(10,.own false TEntry x20),(9,.box [.ref 10,.int .i64 x21,.int .i64 x22]),(11,.own false TPlace x23),(12,.own false (.slice TPlace) x24)])
def V2 (n0:Nat):T2:=fun x0 x1 x2 x3 x4 x5 x6 x7 x8 x9 x10 x11 x12 x13 x14 x15 x16 x17 x18 x19 x20 x21 x22 x23 x24=>loopN (exec (E k) (at_ (bt 16 12287) (body Tryz.f124))) (canon 1 [0,4,5,13,14,16,103,104,105]) (K0 k a0 a1) n0 (mk 134 12 [(0,.ptr 0 0 0),(4,.ptr 2 0 0),(5,.ptr 5 0 0),(13,.ptr 7 0 0),(14,.ptr 9 0 0),(16,.ref 11),(103,.sl false (.slice TPlace) x0),(104,.int .i64 x1),(105,.int .i64 x2)] [(1,.own false TPair x3),(0,.box [.ref 1,.int .i64 x4,.int .i64 x5,.bool x6,.int .i64 x7]),(3,.own false (.int .i64) x8),(4,.own false TEntry x9),(2,.box [.int .i64 x10,.ref 3,.ref 4,.int .i64 x11,.int .i64 x12,.int .i64 x13]),(6,.own false (.int .i64) x14),(5,.box [.int .i64 x15,.ref 6]),(8,.own false TEntry x16),(7,.box [.int .i64 x17,.ref 6,.ref 8,.int .i64 x18,.int .i64 x19,.int .i64 x20]),(10,.own false TEntry x21),(9,.box [.ref 10,.int .i64 x22,.int .i64 x23]),(11,.own false TPlace x24)])
def V3 (n0:Nat):T3:=fun x0 x1 x2 x3 x4 x5 x6 x7 x8 x9 x10 x11 x12 x13 x14 x15 x16 x17 x18 x19 x20 x21 x22 x23 x24=>loopN (exec (E k) (at_ (bt 16 12287) (body Tryz.f124))) (canon 1 [0,4,5,13,14,16,103,104,105]) (K0 k a0 a1) n0 (mk 134 13 [(0,.ptr 0 0 0),(4,.ptr 2 0 0),(5,.ptr 5 0 0),(13,.ptr 7 0 0),(14,.ptr 9 0 0),(16,.ref 11),(103,.ref 12),(104,.int .i64 x0),(105,.int .i64 x1)] [(1,.own false TPair x2),(0,.box [.ref 1,.int .i64 x3,.int .i64 x4,.bool x5,.int .i64 x6]),(3,.own false (.int .i64) x7),(4,.own false TEntry x8),(2,.box [.int .i64 x9,.ref 3,.ref 4,.int .i64 x10,.int .i64 x11,.int .i64 x12]),(6,.own false (.int .i64) x13),(5,.box [.int .i64 x14,.ref 6]),(8,.own false TEntry x15),(7,.box [.int .i64 x16,.ref 6,.ref 8,.int .i64 x17,.int .i64 x18,.int .i64 x19]),(10,.own false TEntry x20),(9,.box [.ref 10,.int .i64 x21,.int .i64 x22]),(11,.own false TPlace x23),(12,.own false (.slice TPlace) x24)])
theorem s0 (n0:Nat):V0 k a0 a1 (n0+1)=b0 k (V0 k a0 a1 n0):=by kernel_rfl
theorem s1 (n0:Nat):V1 k a0 a1 (n0+1)=b1 k (V1 k a0 a1 n0):=by kernel_rfl
theorem s2 (n0:Nat):V2 k a0 a1 (n0+1)=b2 k (V2 k a0 a1 n0):=by kernel_rfl
theorem s3 (n0:Nat):V3 k a0 a1 (n0+1)=b3 k (V3 k a0 a1 n0):=by kernel_rfl
theorem e0:V0 k a0 a1=l0 k:=loop_eq rfl (s0 k a0 a1) fun _=>rfl
theorem e1:V1 k a0 a1=l1 k:=loop_eq rfl (s1 k a0 a1) fun _=>rfl
theorem e2:V2 k a0 a1=l2 k:=loop_eq rfl (s2 k a0 a1) fun _=>rfl
theorem e3:V3 k a0 a1=l3 k:=loop_eq rfl (s3 k a0 a1) fun _=>rfl
end
theorem eq (k:Nat) (a0:Ty.den Tworker) (a1:ByteArray):rn (E k) Tryz.f124 (C k) (a0,a1,())=f k a0 a1:=(show _=t k (V0 k a0 a1 k) (V1 k a0 a1 k) (V2 k a0 a1 k) (V3 k a0 a1 k) a0 a1 by kernel_rfl).trans (by rw [e0,e1,e2,e3];rfl)
theorem ctr (k:Nat):Cp 124 (C k):=rc rfl (D k) (by kernel_rfl) Tryz.func124 (by kernel_rfl) rfl fun ⟨a0,a1,_⟩ r h=>(eq k a0 a1).trans h
end impl_worker__found
namespace impl_Disk__put
def C (k:Nat):Cn:=⟨[.io true TDisk,.val TPair],[],true,false,fun x=>f k x.1 x.2.1⟩
def E (k:Nat):Env:=en [] [(2,[0,3,4])] 1 [] k
section
variable (k:Nat) (a0:Ty.den TDisk) (a1:Ty.den TPair)
def K0:Ex→St→Rs:=runK (E k) (eK (E k) Tryz.f251 (C k) (a0,a1,())) [.blk 0,.code (at_ (bt 3 7) (body Tryz.f251))]
def V0 (n0:Nat):T0:=fun x0 x1 x2 x3 x4 x5 x6 x7=>loopN (exec (E k) (at_ (bt 5 3) (body Tryz.f251))) (canon 1 [0,3,4]) (K0 k a0 a1) n0 (mk 47 3 [(0,.ptr 0 0 0),(3,.ptr 2 0 0),(4,.int .i64 x0)] [(1,.own false TPair x1),(0,.box [.ref 1,.int .i64 x2,.int .i64 x3,.bool x4]),(2,.box [.str x5,.str x6,.int .i64 x7])])
theorem s0 (n0:Nat):V0 k a0 a1 (n0+1)=b0 k (V0 k a0 a1 n0):=by kernel_rfl
theorem e0:V0 k a0 a1=l0 k:=loop_eq rfl (s0 k a0 a1) fun _=>rfl
end
theorem eq (k:Nat) (a0:Ty.den TDisk) (a1:Ty.den TPair):rn (E k) Tryz.f251 (C k) (a0,a1,())=f k a0 a1:=(show _=t k (V0 k a0 a1 k) a0 a1 by kernel_rfl).trans (by rw [e0];rfl)
theorem ctr (k:Nat):Cp 251 (C k):=rc rfl [] (by kernel_rfl) Tryz.func251 (by kernel_rfl) rfl fun ⟨a0,a1,_⟩ r h=>(eq k a0 a1).trans h
end impl_Disk__put
namespace impl_Create_1
def C (k:Nat):Cn:=⟨[.io true TDisk,.io true .str],[(.int .i64)],true,false,fun x=>f k x.1 x.2.1⟩
def D (k:Nat):List Ce:=[q (impl_NameOk.ctr k),q (impl_fileAt.ctr k),q (impl_Disk__put.ctr k)]
def E (k:Nat):Env:=en (D k) [] 2 [] k
theorem eq (k:Nat) (a0:Ty.den TDisk) (a1:ByteArray):rn (E k) Tryz.f250 (C k) (a0,a1,())=f k a0 a1:=by kernel_rfl
theorem ctr (k:Nat):Cp 250 (C k):=rc rfl (D k) (by kernel_rfl) Tryz.func250 (by kernel_rfl) rfl fun ⟨a0,a1,_⟩ r h=>(eq k a0 a1).trans h
end impl_Create_1
namespace impl_step_Create_1
def C (k:Nat):Cn:=⟨[.val TDisk,.fn 250 1,.io true .str],[TDisk,(.int .i64)],true,false,fun x=>f k x.1 x.2.1⟩
def D (k:Nat):List Ce:=[q (impl_copyDisk.ctr k),q (impl_DiskOk.ctr k),q (impl_Create_1.ctr k)]
def E (k:Nat):Env:=en (D k) [] 1 [] k
theorem eq (k:Nat) (a0:Ty.den TDisk) (a1:ByteArray):rn (E k) Tryz.f213 (C k) (a0,a1,())=f k a0 a1:=by kernel_rfl
theorem ctr (k:Nat):Cp 213 (C k):=rc rfl (D k) (by kernel_rfl) Tryz.func213 (by kernel_rfl) rfl fun ⟨a0,a1,_⟩ r h=>(eq k a0 a1).trans h
end impl_step_Create_1
namespace impl_Create
def C (k:Nat):Cn:=⟨[.val TDisk,.val .str],[TDisk,(.int .i64)],true,false,fun x=>f k x.1 x.2.1⟩
def D (k:Nat):List Ce:=[q (impl_step_Create_1.ctr k)]
def E (k:Nat):Env:=en (D k) [] 0 [] k
theorem eq (k:Nat) (a0:Ty.den TDisk) (a1:ByteArray):rn (E k) Tryz.f224 (C k) (a0,a1,())=f k a0 a1:=by kernel_rfl
theorem ctr (k:Nat):Cp 224 (C k):=rc rfl (D k) (by kernel_rfl) Tryz.func224 (by kernel_rfl) rfl fun ⟨a0,a1,_⟩ r h=>(eq k a0 a1).trans h
end impl_Create
namespace impl_worker__create
def C (k:Nat):Cn:=⟨[.io true Tworker,.val .str],[],true,false,fun x=>f k x.1 x.2.1⟩
def D (k:Nat):List Ce:=[q (impl_Create.ctr k),q (impl_worker__took_g1.ctr k)]
def E (k:Nat):Env:=en (D k) [] 1 [] k
theorem eq (k:Nat) (a0:Ty.den Tworker) (a1:ByteArray):rn (E k) Tryz.f175 (C k) (a0,a1,())=f k a0 a1:=by kernel_rfl
theorem ctr (k:Nat):Cp 175 (C k):=rc rfl (D k) (by kernel_rfl) Tryz.func175 (by kernel_rfl) rfl fun ⟨a0,a1,_⟩ r h=>(eq k a0 a1).trans h
end impl_worker__create
namespace impl_ShowLive
def C (k:Nat):Cn:=⟨[.val TLive],[.str],true,false,fun x=>f k x.1⟩
def D (k:Nat):List Ce:=[q (impl_LiveOk.ctr k),q (impl_vars.ctr k),q (impl_Frame.ctr k)]
def E (k:Nat):Env:=en (D k) [] 0 [] k
theorem eq (k:Nat) (a0:Ty.den TLive):rn (E k) Tryz.f226 (C k) (a0,())=f k a0:=by kernel_rfl
theorem ctr (k:Nat):Cp 226 (C k):=rc rfl (D k) (by kernel_rfl) Tryz.func226 (by kernel_rfl) rfl fun ⟨a0,_⟩ r h=>(eq k a0).trans h
end impl_ShowLive
namespace impl_worker__anew
def C (k:Nat):Cn:=⟨[.io true Tworker,.val .str],[],true,false,fun x=>f k x.1 x.2.1⟩
def D (k:Nat):List Ce:=[q (impl_worker__gone.ctr k),q (impl_worker__create.ctr k)]
def E (k:Nat):Env:=en (D k) [] 1 [] k
theorem eq (k:Nat) (a0:Ty.den Tworker) (a1:ByteArray):rn (E k) Tryz.f252 (C k) (a0,a1,())=f k a0 a1:=by kernel_rfl
theorem ctr (k:Nat):Cp 252 (C k):=rc rfl (D k) (by kernel_rfl) Tryz.func252 (by kernel_rfl) rfl fun ⟨a0,a1,_⟩ r h=>(eq k a0 a1).trans h
end impl_worker__anew
namespace impl_used
def C (k:Nat):Cn:=⟨[.val TDisk],[(.int .i64)],true,false,fun x=>f k x.1⟩
def E (k:Nat):Env:=en [] [(3,[3,7,8,9])] 0 [] k
section
variable (k:Nat) (a0:Ty.den TDisk)
def K0:Ex→St→Rs:=runK (E k) (eK (E k) Tryz.f265 (C k) (a0,())) [.blk 0,.code (at_ (bt 3 7) (body Tryz.f265))]
def V0 (n0:Nat):T0:=fun x0 x1 x2 x3=>loopN (exec (E k) (at_ (bt 6 11) (body Tryz.f265))) (canon 0 [3,7,8,9]) (K0 k a0) n0 (mk 20 0 [(3,.int .i64 x0),(7,.sl true TPair x1),(8,.int .i64 x2),(9,.int .i64 x3)] [])
theorem s0 (n0:Nat):V0 k a0 (n0+1)=b0 k (V0 k a0 n0):=by kernel_rfl
theorem e0:V0 k a0=l0 k:=loop_eq rfl (s0 k a0) fun _=>rfl
end
theorem eq (k:Nat) (a0:Ty.den TDisk):rn (E k) Tryz.f265 (C k) (a0,())=f k a0:=(show _=t k (V0 k a0 k) a0 by kernel_rfl).trans (by rw [e0];rfl)
theorem ctr (k:Nat):Cp 265 (C k):=rc rfl [] (by kernel_rfl) Tryz.func265 (by kernel_rfl) rfl fun ⟨a0,_⟩ r h=>(eq k a0).trans h
end impl_used
namespace impl_Append_1
def C (k:Nat):Cn:=⟨[.io true TDisk,.io true .str,.io true .str],[(.int .i64)],true,false,fun x=>f k x.1 x.2.1 x.2.2.1⟩
def D (k:Nat):List Ce:=[q (impl_fileAt.ctr k),q (impl_used.ctr k)]
def E (k:Nat):Env:=en (D k) [] 3 [] k
theorem eq (k:Nat) (a0:Ty.den TDisk) (a1:ByteArray) (a2:ByteArray):rn (E k) Tryz.f264 (C k) (a0,a1,a2,())=f k a0 a1 a2:=by kernel_rfl
theorem ctr (k:Nat):Cp 264 (C k):=rc rfl (D k) (by kernel_rfl) Tryz.func264 (by kernel_rfl) rfl fun ⟨a0,a1,a2,_⟩ r h=>(eq k a0 a1 a2).trans h
end impl_Append_1
namespace impl_step_Append_1
def C (k:Nat):Cn:=⟨[.val TDisk,.fn 264 2,.io true .str,.io true .str],[TDisk,(.int .i64)],true,false,fun x=>f k x.1 x.2.1 x.2.2.1⟩
def D (k:Nat):List Ce:=[q (impl_copyDisk.ctr k),q (impl_DiskOk.ctr k),q (impl_Append_1.ctr k)]
def E (k:Nat):Env:=en (D k) [] 2 [] k
theorem eq (k:Nat) (a0:Ty.den TDisk) (a1:ByteArray) (a2:ByteArray):rn (E k) Tryz.f213 (C k) (a0,a1,a2,())=f k a0 a1 a2:=by kernel_rfl
theorem ctr (k:Nat):Cp 213 (C k):=rc rfl (D k) (by kernel_rfl) Tryz.func213 (by kernel_rfl) rfl fun ⟨a0,a1,a2,_⟩ r h=>(eq k a0 a1 a2).trans h
end impl_step_Append_1
namespace impl_Append
def C (k:Nat):Cn:=⟨[.val TDisk,.val .str,.val .str],[TDisk,(.int .i64)],true,false,fun x=>f k x.1 x.2.1 x.2.2.1⟩
def D (k:Nat):List Ce:=[q (impl_step_Append_1.ctr k)]
def E (k:Nat):Env:=en (D k) [] 0 [] k
theorem eq (k:Nat) (a0:Ty.den TDisk) (a1:ByteArray) (a2:ByteArray):rn (E k) Tryz.f257 (C k) (a0,a1,a2,())=f k a0 a1 a2:=by kernel_rfl
theorem ctr (k:Nat):Cp 257 (C k):=rc rfl (D k) (by kernel_rfl) Tryz.func257 (by kernel_rfl) rfl fun ⟨a0,a1,a2,_⟩ r h=>(eq k a0 a1 a2).trans h
end impl_Append
namespace impl_worker__put
def C (k:Nat):Cn:=⟨[.io true Tworker,.val .str,.val .str],[],true,false,fun x=>f k x.1 x.2.1 x.2.2.1⟩
def D (k:Nat):List Ce:=[q (impl_Append.ctr k),q (impl_worker__took_g1.ctr k)]
def E (k:Nat):Env:=en (D k) [] 1 [] k
theorem eq (k:Nat) (a0:Ty.den Tworker) (a1:ByteArray) (a2:ByteArray):rn (E k) Tryz.f233 (C k) (a0,a1,a2,())=f k a0 a1 a2:=by kernel_rfl
theorem ctr (k:Nat):Cp 233 (C k):=rc rfl (D k) (by kernel_rfl) Tryz.func233 (by kernel_rfl) rfl fun ⟨a0,a1,a2,_⟩ r h=>(eq k a0 a1 a2).trans h
end impl_worker__put
namespace impl_worker__fileOf
def C (k:Nat):Cn:=⟨[.io true Tworker,.val .str,.val .str],[],true,false,fun x=>f k x.1 x.2.1 x.2.2.1⟩
def D (k:Nat):List Ce:=[q (impl_worker__anew.ctr k),q (impl_worker__put.ctr k),q (impl_worker__sync.ctr k)]
def E (k:Nat):Env:=en (D k) [] 1 [] k
theorem eq (k:Nat) (a0:Ty.den Tworker) (a1:ByteArray) (a2:ByteArray):rn (E k) Tryz.f225 (C k) (a0,a1,a2,())=f k a0 a1 a2:=by kernel_rfl
theorem ctr (k:Nat):Cp 225 (C k):=rc rfl (D k) (by kernel_rfl) Tryz.func225 (by kernel_rfl) rfl fun ⟨a0,a1,a2,_⟩ r h=>(eq k a0 a1 a2).trans h
end impl_worker__fileOf
namespace impl_Rename_1
def C (k:Nat):Cn:=⟨[.io true TDisk,.io true .str,.io true .str],[(.int .i64)],true,false,fun x=>f k x.1 x.2.1 x.2.2.1⟩
def D (k:Nat):List Ce:=[q (impl_fileAt.ctr k),q (impl_NameOk.ctr k),q (impl_Disk__drop.ctr k),q (impl_Disk__put.ctr k)]
def E (k:Nat):Env:=en (D k) [] 3 [] k
theorem eq (k:Nat) (a0:Ty.den TDisk) (a1:ByteArray) (a2:ByteArray):rn (E k) Tryz.f263 (C k) (a0,a1,a2,())=f k a0 a1 a2:=by kernel_rfl
theorem ctr (k:Nat):Cp 263 (C k):=rc rfl (D k) (by kernel_rfl) Tryz.func263 (by kernel_rfl) rfl fun ⟨a0,a1,a2,_⟩ r h=>(eq k a0 a1 a2).trans h
end impl_Rename_1
namespace impl_step_Rename_1
def C (k:Nat):Cn:=⟨[.val TDisk,.fn 263 2,.io true .str,.io true .str],[TDisk,(.int .i64)],true,false,fun x=>f k x.1 x.2.1 x.2.2.1⟩
def D (k:Nat):List Ce:=[q (impl_copyDisk.ctr k),q (impl_DiskOk.ctr k),q (impl_Rename_1.ctr k)]
def E (k:Nat):Env:=en (D k) [] 2 [] k
theorem eq (k:Nat) (a0:Ty.den TDisk) (a1:ByteArray) (a2:ByteArray):rn (E k) Tryz.f213 (C k) (a0,a1,a2,())=f k a0 a1 a2:=by kernel_rfl
theorem ctr (k:Nat):Cp 213 (C k):=rc rfl (D k) (by kernel_rfl) Tryz.func213 (by kernel_rfl) rfl fun ⟨a0,a1,a2,_⟩ r h=>(eq k a0 a1 a2).trans h
end impl_step_Rename_1
namespace impl_Rename
def C (k:Nat):Cn:=⟨[.val TDisk,.val .str,.val .str],[TDisk,(.int .i64)],true,false,fun x=>f k x.1 x.2.1 x.2.2.1⟩
def D (k:Nat):List Ce:=[q (impl_step_Rename_1.ctr k)]
def E (k:Nat):Env:=en (D k) [] 0 [] k
theorem eq (k:Nat) (a0:Ty.den TDisk) (a1:ByteArray) (a2:ByteArray):rn (E k) Tryz.f254 (C k) (a0,a1,a2,())=f k a0 a1 a2:=by kernel_rfl
theorem ctr (k:Nat):Cp 254 (C k):=rc rfl (D k) (by kernel_rfl) Tryz.func254 (by kernel_rfl) rfl fun ⟨a0,a1,a2,_⟩ r h=>(eq k a0 a1 a2).trans h
end impl_Rename
namespace impl_worker__rename
def C (k:Nat):Cn:=⟨[.io true Tworker,.val .str,.val .str],[],true,false,fun x=>f k x.1 x.2.1 x.2.2.1⟩
def D (k:Nat):List Ce:=[q (impl_Rename.ctr k),q (impl_worker__took_g1.ctr k)]
def E (k:Nat):Env:=en (D k) [] 1 [] k
theorem eq (k:Nat) (a0:Ty.den Tworker) (a1:ByteArray) (a2:ByteArray):rn (E k) Tryz.f227 (C k) (a0,a1,a2,())=f k a0 a1 a2:=by kernel_rfl
theorem ctr (k:Nat):Cp 227 (C k):=rc rfl (D k) (by kernel_rfl) Tryz.func227 (by kernel_rfl) rfl fun ⟨a0,a1,a2,_⟩ r h=>(eq k a0 a1 a2).trans h
end impl_worker__rename
namespace impl_worker__putLive
def C (k:Nat):Cn:=⟨[.io true Tworker,.val TLive],[],true,false,fun x=>f k x.1 x.2.1⟩
def D (k:Nat):List Ce:=[q (impl_ShowLive.ctr k),q (impl_worker__fileOf.ctr k),q (impl_worker__rename.ctr k)]
def E (k:Nat):Env:=en (D k) [] 1 [] k
theorem eq (k:Nat) (a0:Ty.den Tworker) (a1:Ty.den TLive):rn (E k) Tryz.f176 (C k) (a0,a1,())=f k a0 a1:=by kernel_rfl
theorem ctr (k:Nat):Cp 176 (C k):=rc rfl (D k) (by kernel_rfl) Tryz.func176 (by kernel_rfl) rfl fun ⟨a0,a1,_⟩ r h=>(eq k a0 a1).trans h
end impl_worker__putLive
namespace impl_worker__first
def C (k:Nat):Cn:=⟨[.io true Tworker],[TStore],true,false,fun x=>f k x.1⟩
def D (k:Nat):List Ce:=[q (impl_worker__orphans.ctr k),q (impl_SegName.ctr k),q (impl_worker__create.ctr k),q (impl_worker__putLive.ctr k)]
def E (k:Nat):Env:=en (D k) [] 1 [] k
theorem eq (k:Nat) (a0:Ty.den Tworker):rn (E k) Tryz.f125 (C k) (a0,())=f k a0:=by kernel_rfl
theorem ctr (k:Nat):Cp 125 (C k):=rc rfl (D k) (by kernel_rfl) Tryz.func125 (by kernel_rfl) rfl fun ⟨a0,_⟩ r h=>(eq k a0).trans h
end impl_worker__first
namespace impl_Open
def C (k:Nat):Cn:=⟨[.val TDisk],[TStore,TDisk,(.int .i64)],true,false,fun x=>f k x.1⟩
def D (k:Nat):List Ce:=[q (impl_copyDisk.ctr k),q (impl_DiskOk.ctr k),q (impl_FileText.ctr k),q (impl_worker__found.ctr k),q (impl_worker__first.ctr k)]
def E (k:Nat):Env:=en (D k) [] 0 [] k
theorem eq (k:Nat) (a0:Ty.den TDisk):rn (E k) Tryz.f77 (C k) (a0,())=f k a0:=by kernel_rfl
theorem ctr (k:Nat):Cp 77 (C k):=rc rfl (D k) (by kernel_rfl) Tryz.func77 (by kernel_rfl) rfl fun ⟨a0,_⟩ r h=>(eq k a0).trans h
end impl_Open
namespace impl_copyLive
def C (k:Nat):Cn:=⟨[.val TLive],[TLive],true,false,fun x=>f k x.1⟩
def E (k:Nat):Env:=en [] [] 0 [] k
theorem eq (k:Nat) (a0:Ty.den TLive):rn (E k) Tryz.f177 (C k) (a0,())=f k a0:=by kernel_rfl
theorem ctr (k:Nat):Cp 177 (C k):=rc rfl [] (by kernel_rfl) Tryz.func177 (by kernel_rfl) rfl fun ⟨a0,_⟩ r h=>(eq k a0).trans h
end impl_copyLive
namespace impl_copyStore
def C (k:Nat):Cn:=⟨[.val TStore],[TStore],true,false,fun x=>f k x.1⟩
def D (k:Nat):List Ce:=[q (impl_copyLive.ctr k),q (impl_copyDir.ctr k)]
def E (k:Nat):Env:=en (D k) [] 0 [] k
theorem eq (k:Nat) (a0:Ty.den TStore):rn (E k) Tryz.f126 (C k) (a0,())=f k a0:=by kernel_rfl
theorem ctr (k:Nat):Cp 126 (C k):=rc rfl (D k) (by kernel_rfl) Tryz.func126 (by kernel_rfl) rfl fun ⟨a0,_⟩ r h=>(eq k a0).trans h
end impl_copyStore
namespace impl_RecAt
def C (k:Nat):Cn:=⟨[.val .str,.val (.int .i64),.val (.int .i64)],[TRec,.bool],true,false,fun x=>f k x.1 x.2.1 x.2.2.1⟩
def D (k:Nat):List Ce:=[q (impl_in.ctr k),q (impl_Unframe.ctr k),q (impl_ReadRec.ctr k)]
def E (k:Nat):Env:=en (D k) [] 0 [] k
theorem eq (k:Nat) (a0:ByteArray) (a1:Int) (a2:Int):rn (E k) Tryz.f95 (C k) (a0,a1,a2,())=f k a0 a1 a2:=by kernel_rfl
theorem ctr (k:Nat):Cp 95 (C k):=rc rfl (D k) (by kernel_rfl) Tryz.func95 (by kernel_rfl) rfl fun ⟨a0,a1,a2,_⟩ r h=>(eq k a0 a1 a2).trans h
end impl_RecAt
namespace impl_StoreOk
def C (k:Nat):Cn:=⟨[.val TStore,.val TDisk],[.bool],true,false,fun x=>f k x.1 x.2.1⟩
def D (k:Nat):List Ce:=[q (impl_DiskOk.ctr k),q (impl_LiveOk.ctr k),q (impl_DirOk.ctr k),q (impl_in.ctr k),q (impl_SegName.ctr k),q (impl_FileText.ctr k),q (impl_ScanRecs.ctr k),q (impl_RecAt.ctr k)]
def E (k:Nat):Env:=en (D k) [(4,[2,3,40,41,42]),(12,[2,3,84,85,86])] 0 [] k
section
variable (k:Nat) (a0:Ty.den TStore) (a1:Ty.den TDisk)
def K0:Ex→St→Rs:=runK (E k) (eK (E k) Tryz.f127 (C k) (a0,a1,())) [.blk 0,.code (at_ (bt 3 7) (body Tryz.f127))]
def K1:Ex→St→Rs:=runK (E k) (eK (E k) Tryz.f127 (C k) (a0,a1,())) [.blk 2,.code (at_ (bt 4 15) (body Tryz.f127))]
def V0 (n0:Nat):T0:=fun x0 x1 x2 x3 x4 x5 x6 x7 x8 x9 x10 x11 x12=>loopN (exec (E k) (at_ (bt 6 11) (body Tryz.f127))) (canon 0 [2,3,40,41,42]) (K0 k a0 a1) n0 (mk 141 2 [(2,.ptr 0 0 0),(3,.ptr 1 0 0),(40,.sl true (.int .i64) x0),(41,.int .i64 x1),(42,.int .i64 x2)] [(0,.box [.int .i64 x3,.sl true (.int .i64) x4,.sl true TEntry x5,.int .i64 x6,.int .i64 x7,.int .i64 x8]),(1,.box [.sl true TPair x9,.int .i64 x10,.int .i64 x11,.bool x12])])
def V1 (n1:Nat):T1:=fun x0 x1 x2 x3 x4 x5 x6 x7 x8 x9 x10 x11 x12=>loopN (exec (E k) (at_ (bt 7 23) (body Tryz.f127))) (canon 0 [2,3,84,85,86]) (K1 k a0 a1) n1 (mk 141 2 [(2,.ptr 0 0 0),(3,.ptr 1 0 0),(84,.sl true TEntry x0),(85,.int .i64 x1),(86,.int .i64 x2)] [(0,.box [.int .i64 x3,.sl true (.int .i64) x4,.sl true TEntry x5,.int .i64 x6,.int .i64 x7,.int .i64 x8]),(1,.box [.sl true TPair x9,.int .i64 x10,.int .i64 x11,.bool x12])])
theorem s0 (n0:Nat):V0 k a0 a1 (n0+1)=b0 k (V1 k a0 a1 k) (V0 k a0 a1 n0):=by kernel_rfl
theorem s1 (n1:Nat):V1 k a0 a1 (n1+1)=b1 k (V1 k a0 a1 n1):=by kernel_rfl
theorem e1:V1 k a0 a1=l1 k:=loop_eq rfl (s1 k a0 a1) fun _=>rfl
theorem e0 (n0:Nat):V0 k a0 a1 n0=l0 k n0:=by
 induction n0 with
 | zero=>rfl
 | succ n0 ih =>
  have h:V0 k a0 a1 (n0+1)=b0 k (V1 k a0 a1 k) (V0 k a0 a1 n0):=s0 k a0 a1 n0
  rw [h,e1,ih]
  rfl
end
theorem eq (k:Nat) (a0:Ty.den TStore) (a1:Ty.den TDisk):rn (E k) Tryz.f127 (C k) (a0,a1,())=f k a0 a1:=(show _=t k (V0 k a0 a1 k) a0 a1 by kernel_rfl).trans (by rw [e0];rfl)
theorem ctr (k:Nat):Cp 127 (C k):=rc rfl (D k) (by kernel_rfl) Tryz.func127 (by kernel_rfl) rfl fun ⟨a0,a1,_⟩ r h=>(eq k a0 a1).trans h
end impl_StoreOk
namespace impl_putOk
def C (k:Nat):Cn:=⟨[.val TPut],[.bool],true,false,fun x=>f k x.1⟩
def D (k:Nat):List Ce:=[q (impl_KeyOk.ctr k)]
def E (k:Nat):Env:=en (D k) [] 0 [] k
theorem eq (k:Nat) (a0:Ty.den TPut):rn (E k) Tryz.f182 (C k) (a0,())=f k a0:=by kernel_rfl
theorem ctr (k:Nat):Cp 182 (C k):=rc rfl (D k) (by kernel_rfl) Tryz.func182 (by kernel_rfl) rfl fun ⟨a0,_⟩ r h=>(eq k a0).trans h
end impl_putOk
namespace impl_PutsOk
def C (k:Nat):Cn:=⟨[.val (.slice TPut)],[.bool],true,false,fun x=>f k x.1⟩
def D (k:Nat):List Ce:=[q (impl_putOk.ctr k)]
def E (k:Nat):Env:=en (D k) [(2,[0,5,6,7])] 0 [] k
section
variable (k:Nat) (a0:List (Ty.den TPut))
def K0:Ex→St→Rs:=runK (E k) (eK (E k) Tryz.f128 (C k) (a0,())) [.blk 0,.code (at_ (bt 2 3) (body Tryz.f128))]
def V0 (n0:Nat):T0:=fun x0 x1 x2 x3=>loopN (exec (E k) (at_ (bt 5 5) (body Tryz.f128))) (canon 0 [0,5,6,7]) (K0 k a0) n0 (mk 18 0 [(0,.sl true TPut x0),(5,.sl true TPut x1),(6,.int .i64 x2),(7,.int .i64 x3)] [])
theorem s0 (n0:Nat):V0 k a0 (n0+1)=b0 k (V0 k a0 n0):=by kernel_rfl
theorem e0:V0 k a0=l0 k:=loop_eq rfl (s0 k a0) fun _=>rfl
end
theorem eq (k:Nat) (a0:List (Ty.den TPut)):rn (E k) Tryz.f128 (C k) (a0,())=f k a0:=(show _=t k (V0 k a0 k) a0 by kernel_rfl).trans (by rw [e0];rfl)
theorem ctr (k:Nat):Cp 128 (C k):=rc rfl (D k) (by kernel_rfl) Tryz.func128 (by kernel_rfl) rfl fun ⟨a0,_⟩ r h=>(eq k a0).trans h
end impl_PutsOk
namespace impl_dirWith
def C (k:Nat):Cn:=⟨[.val (.slice TEntry),.val (.slice TPut),.val (.slice TEntry)],[(.slice TEntry)],false,true,fun x=>f k x.1 x.2.1 x.2.2.1⟩
def D (k:Nat):List Ce:=[q (impl_DirDrop.ctr k),q (impl_DirPut.ctr k)]
def E (k:Nat):Env:=en (D k) [(2,[0,2,9,10,11])] 0 [] k
section
variable (k:Nat) (a0:List (Ty.den TEntry)) (a1:List (Ty.den TPut)) (a2:List (Ty.den TEntry))
def K0:Ex→St→Rs:=runK (E k) (eK (E k) Tryz.f183 (C k) (a0,a1,a2,())) [.blk 0,.code (at_ (bt 2 3) (body Tryz.f183))]
def V0 (n0:Nat):T0:=fun x0 x1 x2 x3 x4=>loopN (exec (E k) (at_ (bt 5 5) (body Tryz.f183))) (canon 0 [0,2,9,10,11]) (K0 k a0 a1 a2) n0 (mk 30 0 [(0,.sl true TEntry x0),(2,.sl true TEntry x1),(9,.sl true TPut x2),(10,.int .i64 x3),(11,.int .i64 x4)] [])
def V1 (n0:Nat):T1:=fun x0 x1 x2 x3 x4=>loopN (exec (E k) (at_ (bt 5 5) (body Tryz.f183))) (canon 0 [0,2,9,10,11]) (K0 k a0 a1 a2) n0 (mk 30 1 [(0,.ref 0),(2,.sl true TEntry x0),(9,.sl true TPut x1),(10,.int .i64 x2),(11,.int .i64 x3)] [(0,.own false TEntry x4)])
theorem s0 (n0:Nat):V0 k a0 a1 a2 (n0+1)=b0 k (V1 k a0 a1 a2 n0):=by kernel_rfl
theorem s1 (n0:Nat):V1 k a0 a1 a2 (n0+1)=b1 k (V1 k a0 a1 a2 n0):=by kernel_rfl
theorem e1:V1 k a0 a1 a2=l1 k:=loop_eq rfl (s1 k a0 a1 a2) fun _=>rfl
theorem e0 (n0:Nat):V0 k a0 a1 a2 n0=l0 k n0:=by
 induction n0 with
 | zero=>rfl
 | succ n0 ih =>
  have h:V0 k a0 a1 a2 (n0+1)=b0 k (V1 k a0 a1 a2 n0):=s0 k a0 a1 a2 n0
  rw [h,e1]
  rfl
end
theorem eq (k:Nat) (a0:List (Ty.den TEntry)) (a1:List (Ty.den TPut)) (a2:List (Ty.den TEntry)):rn (E k) Tryz.f183 (C k) (a0,a1,a2,())=f k a0 a1 a2:=(show _=t k (V0 k a0 a1 a2 k) a0 a1 a2 by kernel_rfl).trans (by rw [e0];rfl)
theorem ctr (k:Nat):Cp 183 (C k):=rc rfl (D k) (by kernel_rfl) Tryz.func183 (by kernel_rfl) rfl fun ⟨a0,a1,a2,_⟩ r h=>(eq k a0 a1 a2).trans h
end impl_dirWith
namespace impl_keysWith
def C (k:Nat):Cn:=⟨[.val (.slice TEntry),.val (.slice TPut)],[(.int .i64)],true,false,fun x=>f k x.1 x.2.1⟩
def D (k:Nat):List Ce:=[q (impl_dirWith.ctr k)]
def E (k:Nat):Env:=en (D k) [(3,[0,1,5,8,9,10])] 0 [] k
section
variable (k:Nat) (a0:List (Ty.den TEntry)) (a1:List (Ty.den TPut))
def K0:Ex→St→Rs:=runK (E k) (eK (E k) Tryz.f129 (C k) (a0,a1,())) [.blk 0,.code (at_ (bt 3 7) (body Tryz.f129))]
def V0 (n0:Nat):T0:=fun x0 x1 x2 x3 x4 x5=>loopN (exec (E k) (at_ (bt 6 11) (body Tryz.f129))) (canon 0 [0,1,5,8,9,10]) (K0 k a0 a1) n0 (mk 26 1 [(0,.sl true TEntry x0),(1,.sl true TPut x1),(5,.ref 0),(8,.sl true TPut x2),(9,.int .i64 x3),(10,.int .i64 x4)] [(0,.own false TEntry x5)])
theorem s0 (n0:Nat):V0 k a0 a1 (n0+1)=b0 k (V0 k a0 a1 n0):=by kernel_rfl
theorem e0:V0 k a0 a1=l0 k:=loop_eq rfl (s0 k a0 a1) fun _=>rfl
end
theorem eq (k:Nat) (a0:List (Ty.den TEntry)) (a1:List (Ty.den TPut)):rn (E k) Tryz.f129 (C k) (a0,a1,())=f k a0 a1:=(show _=t k (V0 k a0 a1 k) a0 a1 by kernel_rfl).trans (by rw [e0];rfl)
theorem ctr (k:Nat):Cp 129 (C k):=rc rfl (D k) (by kernel_rfl) Tryz.func129 (by kernel_rfl) rfl fun ⟨a0,a1,_⟩ r h=>(eq k a0 a1).trans h
end impl_keysWith
namespace impl_recordsOf
def C (k:Nat):Cn:=⟨[.val (.slice TPut),.val (.int .i64)],[(.slice TRec)],true,false,fun x=>f k x.1 x.2.1⟩
def D (k:Nat):List Ce:=[q (impl_SumOf.ctr k)]
def E (k:Nat):Env:=en (D k) [(3,[0,1,5,8,9,10])] 0 [] k
section
variable (k:Nat) (a0:List (Ty.den TPut)) (a1:Int)
def K0:Ex→St→Rs:=runK (E k) (eK (E k) Tryz.f184 (C k) (a0,a1,())) [.blk 0,.code (at_ (bt 3 7) (body Tryz.f184))]
def V0 (n0:Nat):T0:=fun x0 x1 x2 x3 x4 x5=>loopN (exec (E k) (at_ (bt 6 11) (body Tryz.f184))) (canon 0 [0,1,5,8,9,10]) (K0 k a0 a1) n0 (mk 42 1 [(0,.sl true TPut x0),(1,.int .i64 x1),(5,.ref 0),(8,.sl true TPut x2),(9,.int .i64 x3),(10,.int .i64 x4)] [(0,.own false TRec x5)])
theorem s0 (n0:Nat):V0 k a0 a1 (n0+1)=b0 k (V0 k a0 a1 n0):=by kernel_rfl
theorem e0:V0 k a0 a1=l0 k:=loop_eq rfl (s0 k a0 a1) fun _=>rfl
end
theorem eq (k:Nat) (a0:List (Ty.den TPut)) (a1:Int):rn (E k) Tryz.f184 (C k) (a0,a1,())=f k a0 a1:=(show _=t k (V0 k a0 a1 k) a0 a1 by kernel_rfl).trans (by rw [e0];rfl)
theorem ctr (k:Nat):Cp 184 (C k):=rc rfl (D k) (by kernel_rfl) Tryz.func184 (by kernel_rfl) rfl fun ⟨a0,a1,_⟩ r h=>(eq k a0 a1).trans h
end impl_recordsOf
namespace impl_Store__active
def C (k:Nat):Cn:=⟨[.io true TStore],[.str],true,false,fun x=>f k x.1⟩
def D (k:Nat):List Ce:=[q (impl_SegName.ctr k)]
def E (k:Nat):Env:=en (D k) [] 1 [] k
theorem eq (k:Nat) (a0:Ty.den TStore):rn (E k) Tryz.f186 (C k) (a0,())=f k a0:=by kernel_rfl
theorem ctr (k:Nat):Cp 186 (C k):=rc rfl (D k) (by kernel_rfl) Tryz.func186 (by kernel_rfl) rfl fun ⟨a0,_⟩ r h=>(eq k a0).trans h
end impl_Store__active
namespace impl_worker__clean
def C (k:Nat):Cn:=⟨[.io true Tworker,.val (.slice .str)],[],true,false,fun x=>f k x.1 x.2.1⟩
def D (k:Nat):List Ce:=[q (impl_worker__gone.ctr k)]
def E (k:Nat):Env:=en (D k) [(3,[0,4,18,19,20])] 1 [] k
section
variable (k:Nat) (a0:Ty.den Tworker) (a1:List ByteArray)
def K0:Ex→St→Rs:=runK (E k) (eK (E k) Tryz.f256 (C k) (a0,a1,())) [.blk 0,.code (at_ (bt 3 7) (body Tryz.f256))]
def V0 (n0:Nat):T0:=fun x0 x1 x2 x3 x4 x5 x6 x7 x8 x9 x10 x11=>loopN (exec (E k) (at_ (bt 6 11) (body Tryz.f256))) (canon 1 [0,4,18,19,20]) (K0 k a0 a1) n0 (mk 47 3 [(0,.ptr 0 0 0),(4,.ptr 2 0 0),(18,.sl true .str x0),(19,.int .i64 x1),(20,.int .i64 x2)] [(1,.own false TPair x3),(0,.box [.ref 1,.int .i64 x4,.int .i64 x5,.bool x6,.int .i64 x7]),(2,.box [.ref 1,.int .i64 x8,.int .i64 x9,.bool x10,.int .i64 x11])])
def V1 (n0:Nat):T1:=fun x0 x1 x2 x3 x4 x5 x6 x7 x8 x9 x10 x11=>loopN (exec (E k) (at_ (bt 6 11) (body Tryz.f256))) (canon 1 [0,4,18,19,20]) (K0 k a0 a1) n0 (mk 47 3 [(0,.ptr 0 0 0),(4,.ptr 1 0 0),(18,.sl true .str x0),(19,.int .i64 x1),(20,.int .i64 x2)] [(0,.box [.junk,.int .i64 x3,.int .i64 x4,.bool x5,.int .i64 x6]),(2,.own false TPair x7),(1,.box [.ref 2,.int .i64 x8,.int .i64 x9,.bool x10,.int .i64 x11])])
theorem s0 (n0:Nat):V0 k a0 a1 (n0+1)=b0 k (V1 k a0 a1 n0):=by kernel_rfl
theorem s1 (n0:Nat):V1 k a0 a1 (n0+1)=b1 k (V1 k a0 a1 n0):=by kernel_rfl
theorem e1:V1 k a0 a1=l1 k:=loop_eq rfl (s1 k a0 a1) fun _=>rfl
theorem e0 (n0:Nat):V0 k a0 a1 n0=l0 k n0:=by
 induction n0 with
 | zero=>rfl
 | succ n0 ih =>
  have h:V0 k a0 a1 (n0+1)=b0 k (V1 k a0 a1 n0):=s0 k a0 a1 n0
  rw [h,e1]
  rfl
end
theorem eq (k:Nat) (a0:Ty.den Tworker) (a1:List ByteArray):rn (E k) Tryz.f256 (C k) (a0,a1,())=f k a0 a1:=(show _=t k (V0 k a0 a1 k) a0 a1 by kernel_rfl).trans (by rw [e0];rfl)
theorem ctr (k:Nat):Cp 256 (C k):=rc rfl (D k) (by kernel_rfl) Tryz.func256 (by kernel_rfl) rfl fun ⟨a0,a1,_⟩ r h=>(eq k a0 a1).trans h
end impl_worker__clean
namespace impl_Store__rotate
def C (k:Nat):Cn:=⟨[.io true TStore,.io true Tworker],[],true,false,fun x=>f k x.1 x.2.1⟩
def D (k:Nat):List Ce:=[q (impl_Store__active.ctr k),q (impl_worker__sync.ctr k),q (impl_SegName.ctr k),q (impl_worker__anew.ctr k),q (impl_copyLive.ctr k),q (impl_worker__putLive.ctr k),q (impl_worker__clean.ctr k)]
def E (k:Nat):Env:=en (D k) [] 2 [] k
theorem eq (k:Nat) (a0:Ty.den TStore) (a1:Ty.den Tworker):rn (E k) Tryz.f232 (C k) (a0,a1,())=f k a0 a1:=by kernel_rfl
theorem ctr (k:Nat):Cp 232 (C k):=rc rfl (D k) (by kernel_rfl) Tryz.func232 (by kernel_rfl) rfl fun ⟨a0,a1,_⟩ r h=>(eq k a0 a1).trans h
end impl_Store__rotate
namespace impl_Store__add
def C (k:Nat):Cn:=⟨[.io true TStore,.io true Tworker,.val TRec],[TEntry],true,false,fun x=>f k x.1 x.2.1 x.2.2.1⟩
def D (k:Nat):List Ce:=[q (impl_ShowRec.ctr k),q (impl_Frame.ctr k),q (impl_Store__rotate.ctr k),q (impl_Store__active.ctr k),q (impl_worker__put.ctr k)]
def E (k:Nat):Env:=en (D k) [] 2 [] k
theorem eq (k:Nat) (a0:Ty.den TStore) (a1:Ty.den Tworker) (a2:Ty.den TRec):rn (E k) Tryz.f185 (C k) (a0,a1,a2,())=f k a0 a1 a2:=by kernel_rfl
theorem ctr (k:Nat):Cp 185 (C k):=rc rfl (D k) (by kernel_rfl) Tryz.func185 (by kernel_rfl) rfl fun ⟨a0,a1,a2,_⟩ r h=>(eq k a0 a1 a2).trans h
end impl_Store__add
namespace impl_dirWith_g
def C (k:Nat):Cn:=⟨[.give (.slice TEntry),.val (.slice TPut),.val (.slice TEntry)],[(.slice TEntry)],true,false,fun x=>f k x.1 x.2.1 x.2.2.1⟩
def D (k:Nat):List Ce:=[q (impl_DirDrop.ctr k),q (impl_DirPut.ctr k)]
def E (k:Nat):Env:=en (D k) [(2,[0,2,9,10,11])] 0 [] k
section
variable (k:Nat) (a0:List (Ty.den TEntry)) (a1:List (Ty.den TPut)) (a2:List (Ty.den TEntry))
def K0:Ex→St→Rs:=runK (E k) (eK (E k) Tryz.f183 (C k) (a0,a1,a2,())) [.blk 0,.code (at_ (bt 2 3) (body Tryz.f183))]
def V0 (n0:Nat):T0:=fun x0 x1 x2 x3 x4=>loopN (exec (E k) (at_ (bt 5 5) (body Tryz.f183))) (canon 0 [0,2,9,10,11]) (K0 k a0 a1 a2) n0 (mk 30 1 [(0,.ref 0),(2,.sl true TEntry x0),(9,.sl true TPut x1),(10,.int .i64 x2),(11,.int .i64 x3)] [(0,.own false TEntry x4)])
theorem s0 (n0:Nat):V0 k a0 a1 a2 (n0+1)=b0 k (V0 k a0 a1 a2 n0):=by kernel_rfl
theorem e0:V0 k a0 a1 a2=l0 k:=loop_eq rfl (s0 k a0 a1 a2) fun _=>rfl
end
theorem eq (k:Nat) (a0:List (Ty.den TEntry)) (a1:List (Ty.den TPut)) (a2:List (Ty.den TEntry)):rn (E k) Tryz.f183 (C k) (a0,a1,a2,())=f k a0 a1 a2:=(show _=t k (V0 k a0 a1 a2 k) a0 a1 a2 by kernel_rfl).trans (by rw [e0];rfl)
theorem ctr (k:Nat):Cp 183 (C k):=rc rfl (D k) (by kernel_rfl) Tryz.func183 (by kernel_rfl) rfl fun ⟨a0,a1,a2,_⟩ r h=>(eq k a0 a1 a2).trans h
end impl_dirWith_g
namespace impl_Store__commit
def C (k:Nat):Cn:=⟨[.io true TStore,.io true Tworker,.val (.slice TPut)],[],true,false,fun x=>f k x.1 x.2.1 x.2.2.1⟩
def D (k:Nat):List Ce:=[q (impl_recordsOf.ctr k),q (impl_Store__add.ctr k),q (impl_Store__active.ctr k),q (impl_worker__sync.ctr k),q (impl_dirWith_g.ctr k)]
def E (k:Nat):Env:=en (D k) [(4,[0,1,2,7,24,25,26])] 2 [] k
section
variable (k:Nat) (a0:Ty.den TStore) (a1:Ty.den Tworker) (a2:List (Ty.den TPut))
def K0:Ex→St→Rs:=runK (E k) (eK (E k) Tryz.f130 (C k) (a0,a1,a2,())) [.blk 0,.code (at_ (bt 4 15) (body Tryz.f130))]
def V0 (n0:Nat):T0:=fun x0 x1 x2 x3 x4 x5 x6 x7 x8 x9 x10 x11 x12 x13 x14 x15=>loopN (exec (E k) (at_ (bt 7 23) (body Tryz.f130))) (canon 2 [0,1,2,7,24,25,26]) (K0 k a0 a1 a2) n0 (mk 63 7 [(0,.ptr 0 0 0),(1,.ptr 1 0 0),(2,.sl true TPut x0),(7,.ref 5),(24,.ref 6),(25,.int .i64 x1),(26,.int .i64 x2)] [(2,.own false (.int .i64) x3),(3,.own false TEntry x4),(0,.box [.int .i64 x5,.ref 2,.ref 3,.int .i64 x6,.int .i64 x7,.int .i64 x8]),(4,.own false TPair x9),(1,.box [.ref 4,.int .i64 x10,.int .i64 x11,.bool x12,.int .i64 x13]),(5,.own false TEntry x14),(6,.own false TRec x15)])
theorem s0 (n0:Nat):V0 k a0 a1 a2 (n0+1)=b0 k (V0 k a0 a1 a2 n0):=by kernel_rfl
theorem e0:V0 k a0 a1 a2=l0 k:=loop_eq rfl (s0 k a0 a1 a2) fun _=>rfl
end
theorem eq (k:Nat) (a0:Ty.den TStore) (a1:Ty.den Tworker) (a2:List (Ty.den TPut)):rn (E k) Tryz.f130 (C k) (a0,a1,a2,())=f k a0 a1 a2:=(show _=t k (V0 k a0 a1 a2 k) a0 a1 a2 by kernel_rfl).trans (by rw [e0];rfl)
theorem ctr (k:Nat):Cp 130 (C k):=rc rfl (D k) (by kernel_rfl) Tryz.func130 (by kernel_rfl) rfl fun ⟨a0,a1,a2,_⟩ r h=>(eq k a0 a1 a2).trans h
end impl_Store__commit
namespace impl_Commit
def C (k:Nat):Cn:=⟨[.val TStore,.val TDisk,.val (.slice TPut)],[TStore,TDisk,(.int .i64)],true,false,fun x=>f k x.1 x.2.1 x.2.2.1⟩
def D (k:Nat):List Ce:=[q (impl_copyStore.ctr k),q (impl_copyDisk.ctr k),q (impl_StoreOk.ctr k),q (impl_PutsOk.ctr k),q (impl_keysWith.ctr k),q (impl_Store__commit.ctr k)]
def E (k:Nat):Env:=en (D k) [] 0 [] k
theorem eq (k:Nat) (a0:Ty.den TStore) (a1:Ty.den TDisk) (a2:List (Ty.den TPut)):rn (E k) Tryz.f79 (C k) (a0,a1,a2,())=f k a0 a1 a2:=by kernel_rfl
theorem ctr (k:Nat):Cp 79 (C k):=rc rfl (D k) (by kernel_rfl) Tryz.func79 (by kernel_rfl) rfl fun ⟨a0,a1,a2,_⟩ r h=>(eq k a0 a1 a2).trans h
end impl_Commit
namespace impl_Restore
def C (k:Nat):Cn:=⟨[.val (.int .i64),.val (.slice TPair)],[TStore,TDisk,(.int .i64)],true,false,fun x=>f k x.1 x.2.1⟩
def D (k:Nat):List Ce:=[q (impl_in.ctr k),q (impl_PairsOk.ctr k),q (impl_DiskNew.ctr k),q (impl_Open.ctr k),q (impl_Commit.ctr k)]
def E (k:Nat):Env:=en (D k) [(5,[1,4,5,7,8,9,10]),(9,[1,4,5,7,8,10,11,48,49,50])] 0 [] k
section
variable (k:Nat) (a0:Int) (a1:List (Ty.den TPair))
def K0:Ex→St→Rs:=runK (E k) (eK (E k) Tryz.f33 (C k) (a0,a1,())) [.blk 0,.code (at_ (bt 4 15) (body Tryz.f33))]
def B0 (n0:Nat):Ex→St→Rs:=lpK (E k) (at_ (bt 7 23) (body Tryz.f33)) 0 [1,4,5,7,8,9,10] (K0 k a0 a1) n0
def K1 (n0:Nat):Ex→St→Rs:=runK (E k) (B0 k a0 a1 n0) [.blk 2,.code (at_ (bt 12 3223) (body Tryz.f33)),.blk 1,.code (at_ (bt 9 407) (body Tryz.f33))]
def V0 (n0:Nat):T0:=fun x0 x1 x2 x3 x4 x5 x6 x7 x8 x9 x10 x11 x12 x13 x14 x15 x16 x17 x18 x19 x20 x21 x22=>loopN (exec (E k) (at_ (bt 7 23) (body Tryz.f33))) (canon 0 [1,4,5,7,8,9,10]) (K0 k a0 a1) n0 (mk 74 10 [(1,.sl true TPair x0),(4,.ptr 0 0 0),(5,.ptr 3 0 0),(7,.ptr 5 0 0),(8,.ptr 8 0 0),(9,.int .i64 x1),(10,.int .i64 x2)] [(1,.own false (.int .i64) x3),(2,.own false TEntry x4),(0,.box [.int .i64 x5,.ref 1,.ref 2,.int .i64 x6,.int .i64 x7,.int .i64 x8]),(4,.own false TPair x9),(3,.box [.ref 4,.int .i64 x10,.int .i64 x11,.bool x12]),(6,.own false (.int .i64) x13),(7,.own false TEntry x14),(5,.box [.int .i64 x15,.ref 6,.ref 7,.int .i64 x16,.int .i64 x17,.int .i64 x18]),(9,.own false TPair x19),(8,.box [.ref 9,.int .i64 x20,.int .i64 x21,.bool x22])])
def V1 (n0 n1:Nat):T1:=fun x0 x1 x2 x3 x4 x5 x6 x7 x8 x9 x10 x11 x12 x13 x14 x15 x16 x17 x18 x19 x20 x21 x22 x23 x24 x25=>loopN (exec (E k) (at_ (bt 15 5271) (body Tryz.f33))) (canon 0 [1,4,5,7,8,10,11,48,49,50]) (K1 k a0 a1 n0) n1 (mk 74 11 [(1,.sl true TPair x0),(4,.ptr 0 0 0),(5,.ptr 3 0 0),(7,.ptr 5 0 0),(8,.ptr 8 0 0),(10,.int .i64 x1),(11,.ref 10),(48,.sl true TPair x2),(49,.int .i64 x3),(50,.int .i64 x4)] [(1,.own false (.int .i64) x5),(2,.own false TEntry x6),(0,.box [.int .i64 x7,.ref 1,.ref 2,.int .i64 x8,.int .i64 x9,.int .i64 x10]),(4,.own false TPair x11),(3,.box [.ref 4,.int .i64 x12,.int .i64 x13,.bool x14]),(6,.own false (.int .i64) x15),(7,.own false TEntry x16),(5,.box [.int .i64 x17,.ref 6,.ref 7,.int .i64 x18,.int .i64 x19,.int .i64 x20]),(9,.own false TPair x21),(8,.box [.ref 9,.int .i64 x22,.int .i64 x23,.bool x24]),(10,.own false TPut x25)])
theorem s0 (n0:Nat):V0 k a0 a1 (n0+1)=b0 k (V1 k a0 a1 n0 k) (V0 k a0 a1 n0):=by kernel_rfl
theorem s1 (n0 n1:Nat):V1 k a0 a1 n0 (n1+1)=b1 k (V0 k a0 a1 n0) (V1 k a0 a1 n0 n1):=by kernel_rfl
theorem e1 (n0:Nat):V1 k a0 a1 n0=l1 k (V0 k a0 a1 n0):=loop_eq rfl (s1 k a0 a1 n0) fun _=>rfl
theorem e0 (n0:Nat):V0 k a0 a1 n0=l0 k n0:=by
 induction n0 with
 | zero=>rfl
 | succ n0 ih =>
  have h:V0 k a0 a1 (n0+1)=b0 k (V1 k a0 a1 n0 k) (V0 k a0 a1 n0):=s0 k a0 a1 n0
  rw [h,e1,ih]
  rfl
end
theorem eq (k:Nat) (a0:Int) (a1:List (Ty.den TPair)):rn (E k) Tryz.f33 (C k) (a0,a1,())=f k a0 a1:=(show _=t k (V0 k a0 a1 k) a0 a1 by kernel_rfl).trans (by rw [e0];rfl)
theorem ctr (k:Nat):Cp 33 (C k):=rc rfl (D k) (by kernel_rfl) Tryz.func33 (by kernel_rfl) rfl fun ⟨a0,a1,_⟩ r h=>(eq k a0 a1).trans h
end impl_Restore
namespace laws_eqIntS
def C (k:Nat):Cn:=⟨[.val (.slice (.int .i64)),.val (.slice (.int .i64))],[.bool],true,false,fun x=>f k x.1 x.2.1⟩
def E (k:Nat):Env:=en [] [(4,[0,1,5])] 0 [] k
section
variable (k:Nat) (a0:List Int) (a1:List Int)
def K0:Ex→St→Rs:=runK (E k) (eK (E k) Tryz.f26 (C k) (a0,a1,())) [.blk 0,.code (at_ (bt 3 7) (body Tryz.f26))]
def V0 (n0:Nat):T0:=fun x0 x1 x2=>loopN (exec (E k) (at_ (bt 6 11) (body Tryz.f26))) (canon 0 [0,1,5]) (K0 k a0 a1) n0 (mk 26 0 [(0,.sl true (.int .i64) x0),(1,.sl true (.int .i64) x1),(5,.int .i64 x2)] [])
theorem s0 (n0:Nat):V0 k a0 a1 (n0+1)=b0 k (V0 k a0 a1 n0):=by kernel_rfl
theorem e0:V0 k a0 a1=l0 k:=loop_eq rfl (s0 k a0 a1) fun _=>rfl
end
theorem eq (k:Nat) (a0:List Int) (a1:List Int):rn (E k) Tryz.f26 (C k) (a0,a1,())=f k a0 a1:=(show _=t k (V0 k a0 a1 k) a0 a1 by kernel_rfl).trans (by rw [e0];rfl)
theorem ctr (k:Nat):Cp 26 (C k):=rc rfl [] (by kernel_rfl) Tryz.func26 (by kernel_rfl) rfl fun ⟨a0,a1,_⟩ r h=>(eq k a0 a1).trans h
end laws_eqIntS
namespace laws_eqLive
def C (k:Nat):Cn:=⟨[.val TLive,.val TLive],[.bool],true,false,fun x=>f k x.1 x.2.1⟩
def D (k:Nat):List Ce:=[q (laws_eqIntS.ctr k)]
def E (k:Nat):Env:=en (D k) [] 0 [] k
theorem eq (k:Nat) (a0:Ty.den TLive) (a1:Ty.den TLive):rn (E k) Tryz.f53 (C k) (a0,a1,())=f k a0 a1:=by kernel_rfl
theorem ctr (k:Nat):Cp 53 (C k):=rc rfl (D k) (by kernel_rfl) Tryz.func53 (by kernel_rfl) rfl fun ⟨a0,a1,_⟩ r h=>(eq k a0 a1).trans h
end laws_eqLive
namespace laws_eqEntry
def C (k:Nat):Cn:=⟨[.val TEntry,.val TEntry],[.bool],true,false,fun x=>f k x.1 x.2.1⟩
def E (k:Nat):Env:=en [] [] 0 [] k
theorem eq (k:Nat) (a0:Ty.den TEntry) (a1:Ty.den TEntry):rn (E k) Tryz.f97 (C k) (a0,a1,())=f k a0 a1:=by kernel_rfl
theorem ctr (k:Nat):Cp 97 (C k):=rc rfl [] (by kernel_rfl) Tryz.func97 (by kernel_rfl) rfl fun ⟨a0,a1,_⟩ r h=>(eq k a0 a1).trans h
end laws_eqEntry
namespace laws_eqEntryS
def C (k:Nat):Cn:=⟨[.val (.slice TEntry),.val (.slice TEntry)],[.bool],true,false,fun x=>f k x.1 x.2.1⟩
def D (k:Nat):List Ce:=[q (laws_eqEntry.ctr k)]
def E (k:Nat):Env:=en (D k) [(4,[0,1,5])] 0 [] k
section
variable (k:Nat) (a0:List (Ty.den TEntry)) (a1:List (Ty.den TEntry))
def K0:Ex→St→Rs:=runK (E k) (eK (E k) Tryz.f54 (C k) (a0,a1,())) [.blk 0,.code (at_ (bt 3 7) (body Tryz.f54))]
def V0 (n0:Nat):T0:=fun x0 x1 x2=>loopN (exec (E k) (at_ (bt 6 11) (body Tryz.f54))) (canon 0 [0,1,5]) (K0 k a0 a1) n0 (mk 27 0 [(0,.sl true TEntry x0),(1,.sl true TEntry x1),(5,.int .i64 x2)] [])
theorem s0 (n0:Nat):V0 k a0 a1 (n0+1)=b0 k (V0 k a0 a1 n0):=by kernel_rfl
theorem e0:V0 k a0 a1=l0 k:=loop_eq rfl (s0 k a0 a1) fun _=>rfl
end
theorem eq (k:Nat) (a0:List (Ty.den TEntry)) (a1:List (Ty.den TEntry)):rn (E k) Tryz.f54 (C k) (a0,a1,())=f k a0 a1:=(show _=t k (V0 k a0 a1 k) a0 a1 by kernel_rfl).trans (by rw [e0];rfl)
theorem ctr (k:Nat):Cp 54 (C k):=rc rfl (D k) (by kernel_rfl) Tryz.func54 (by kernel_rfl) rfl fun ⟨a0,a1,_⟩ r h=>(eq k a0 a1).trans h
end laws_eqEntryS
namespace laws_eqStore
def C (k:Nat):Cn:=⟨[.val TStore,.val TStore],[.bool],true,false,fun x=>f k x.1 x.2.1⟩
def D (k:Nat):List Ce:=[q (laws_eqLive.ctr k),q (laws_eqEntryS.ctr k)]
def E (k:Nat):Env:=en (D k) [] 0 [] k
theorem eq (k:Nat) (a0:Ty.den TStore) (a1:Ty.den TStore):rn (E k) Tryz.f16 (C k) (a0,a1,())=f k a0 a1:=by kernel_rfl
theorem ctr (k:Nat):Cp 16 (C k):=rc rfl (D k) (by kernel_rfl) Tryz.func16 (by kernel_rfl) rfl fun ⟨a0,a1,_⟩ r h=>(eq k a0 a1).trans h
end laws_eqStore
namespace laws_eqFile
def C (k:Nat):Cn:=⟨[.val TPair,.val TPair],[.bool],true,false,fun x=>f k x.1 x.2.1⟩
def E (k:Nat):Env:=en [] [] 0 [] k
theorem eq (k:Nat) (a0:Ty.den TPair) (a1:Ty.den TPair):rn (E k) Tryz.f98 (C k) (a0,a1,())=f k a0 a1:=by kernel_rfl
theorem ctr (k:Nat):Cp 98 (C k):=rc rfl [] (by kernel_rfl) Tryz.func98 (by kernel_rfl) rfl fun ⟨a0,a1,_⟩ r h=>(eq k a0 a1).trans h
end laws_eqFile
namespace laws_eqFileS
def C (k:Nat):Cn:=⟨[.val (.slice TPair),.val (.slice TPair)],[.bool],true,false,fun x=>f k x.1 x.2.1⟩
def D (k:Nat):List Ce:=[q (laws_eqFile.ctr k)]
def E (k:Nat):Env:=en (D k) [(4,[0,1,5])] 0 [] k
section
variable (k:Nat) (a0:List (Ty.den TPair)) (a1:List (Ty.den TPair))
def K0:Ex→St→Rs:=runK (E k) (eK (E k) Tryz.f55 (C k) (a0,a1,())) [.blk 0,.code (at_ (bt 3 7) (body Tryz.f55))]
def V0 (n0:Nat):T0:=fun x0 x1 x2=>loopN (exec (E k) (at_ (bt 6 11) (body Tryz.f55))) (canon 0 [0,1,5]) (K0 k a0 a1) n0 (mk 27 0 [(0,.sl true TPair x0),(1,.sl true TPair x1),(5,.int .i64 x2)] [])
theorem s0 (n0:Nat):V0 k a0 a1 (n0+1)=b0 k (V0 k a0 a1 n0):=by kernel_rfl
theorem e0:V0 k a0 a1=l0 k:=loop_eq rfl (s0 k a0 a1) fun _=>rfl
end
theorem eq (k:Nat) (a0:List (Ty.den TPair)) (a1:List (Ty.den TPair)):rn (E k) Tryz.f55 (C k) (a0,a1,())=f k a0 a1:=(show _=t k (V0 k a0 a1 k) a0 a1 by kernel_rfl).trans (by rw [e0];rfl)
theorem ctr (k:Nat):Cp 55 (C k):=rc rfl (D k) (by kernel_rfl) Tryz.func55 (by kernel_rfl) rfl fun ⟨a0,a1,_⟩ r h=>(eq k a0 a1).trans h
end laws_eqFileS
namespace laws_eqDisk
def C (k:Nat):Cn:=⟨[.val TDisk,.val TDisk],[.bool],true,false,fun x=>f k x.1 x.2.1⟩
def D (k:Nat):List Ce:=[q (laws_eqFileS.ctr k)]
def E (k:Nat):Env:=en (D k) [] 0 [] k
theorem eq (k:Nat) (a0:Ty.den TDisk) (a1:Ty.den TDisk):rn (E k) Tryz.f17 (C k) (a0,a1,())=f k a0 a1:=by kernel_rfl
theorem ctr (k:Nat):Cp 17 (C k):=rc rfl (D k) (by kernel_rfl) Tryz.func17 (by kernel_rfl) rfl fun ⟨a0,a1,_⟩ r h=>(eq k a0 a1).trans h
end laws_eqDisk
namespace laws_eqPair
def C (k:Nat):Cn:=⟨[.val TPair,.val TPair],[.bool],true,false,fun x=>f k x.1 x.2.1⟩
def E (k:Nat):Env:=en [] [] 0 [] k
theorem eq (k:Nat) (a0:Ty.den TPair) (a1:Ty.den TPair):rn (E k) Tryz.f15 (C k) (a0,a1,())=f k a0 a1:=by kernel_rfl
theorem ctr (k:Nat):Cp 15 (C k):=rc rfl [] (by kernel_rfl) Tryz.func15 (by kernel_rfl) rfl fun ⟨a0,a1,_⟩ r h=>(eq k a0 a1).trans h
end laws_eqPair
namespace laws_eqPairS
def C (k:Nat):Cn:=⟨[.val (.slice TPair),.val (.slice TPair)],[.bool],true,false,fun x=>f k x.1 x.2.1⟩
def D (k:Nat):List Ce:=[q (laws_eqPair.ctr k)]
def E (k:Nat):Env:=en (D k) [(4,[0,1,5])] 0 [] k
section
variable (k:Nat) (a0:List (Ty.den TPair)) (a1:List (Ty.den TPair))
def K0:Ex→St→Rs:=runK (E k) (eK (E k) Tryz.f25 (C k) (a0,a1,())) [.blk 0,.code (at_ (bt 3 7) (body Tryz.f25))]
def V0 (n0:Nat):T0:=fun x0 x1 x2=>loopN (exec (E k) (at_ (bt 6 11) (body Tryz.f25))) (canon 0 [0,1,5]) (K0 k a0 a1) n0 (mk 27 0 [(0,.sl true TPair x0),(1,.sl true TPair x1),(5,.int .i64 x2)] [])
theorem s0 (n0:Nat):V0 k a0 a1 (n0+1)=b0 k (V0 k a0 a1 n0):=by kernel_rfl
theorem e0:V0 k a0 a1=l0 k:=loop_eq rfl (s0 k a0 a1) fun _=>rfl
end
theorem eq (k:Nat) (a0:List (Ty.den TPair)) (a1:List (Ty.den TPair)):rn (E k) Tryz.f25 (C k) (a0,a1,())=f k a0 a1:=(show _=t k (V0 k a0 a1 k) a0 a1 by kernel_rfl).trans (by rw [e0];rfl)
theorem ctr (k:Nat):Cp 25 (C k):=rc rfl (D k) (by kernel_rfl) Tryz.func25 (by kernel_rfl) rfl fun ⟨a0,a1,_⟩ r h=>(eq k a0 a1).trans h
end laws_eqPairS
namespace laws_markText
def C (k:Nat):Cn:=⟨[.val (.int .i64)],[.str],true,false,fun x=>f k x.1⟩
def E (k:Nat):Env:=en [] [(4,[0,3])] 0 [] k
section
variable (k:Nat) (a0:Int)
def K0:Ex→St→Rs:=runK (E k) (eK (E k) Tryz.f67 (C k) (a0,())) [.blk 0,.code (at_ (bt 4 15) (body Tryz.f67))]
def V0 (n0:Nat):T0:=fun x0 x1=>loopN (exec (E k) (at_ (bt 6 7) (body Tryz.f67))) (canon 0 [0,3]) (K0 k a0) n0 (mk 20 0 [(0,.int .i64 x0),(3,.str x1)] [])
theorem s0 (n0:Nat):V0 k a0 (n0+1)=b0 k (V0 k a0 n0):=by kernel_rfl
theorem e0:V0 k a0=l0 k:=loop_eq rfl (s0 k a0) fun _=>rfl
end
theorem eq (k:Nat) (a0:Int):rn (E k) Tryz.f67 (C k) (a0,())=f k a0:=(show _=t k (V0 k a0 k) a0 by kernel_rfl).trans (by rw [e0];rfl)
theorem ctr (k:Nat):Cp 67 (C k):=rc rfl [] (by kernel_rfl) Tryz.func67 (by kernel_rfl) rfl fun ⟨a0,_⟩ r h=>(eq k a0).trans h
end laws_markText
namespace laws_markPairS
def C (k:Nat):Cn:=⟨[.lend (.slice TPair),.val (.int .i64)],[(.int .i64)],true,false,fun x=>f k x.1 x.2.1⟩
def D (k:Nat):List Ce:=[q (laws_markText.ctr k)]
def E (k:Nat):Env:=en (D k) [(2,[0,1,5])] 1 [] k
section
variable (k:Nat) (a0:List (Ty.den TPair)) (a1:Int)
def K0:Ex→St→Rs:=runK (E k) (eK (E k) Tryz.f28 (C k) (a0,a1,())) [.blk 0,.code (at_ (bt 2 3) (body Tryz.f28))]
def V0 (n0:Nat):T0:=fun x0 x1 x2=>loopN (exec (E k) (at_ (bt 5 5) (body Tryz.f28))) (canon 1 [0,1,5]) (K0 k a0 a1) n0 (mk 36 1 [(0,.ref 0),(1,.int .i64 x0),(5,.int .i64 x1)] [(0,.own false TPair x2)])
theorem s0 (n0:Nat):V0 k a0 a1 (n0+1)=b0 k a0 a1 (V0 k a0 a1 n0):=by kernel_rfl
theorem e0:V0 k a0 a1=l0 k a0 a1:=loop_eq rfl (s0 k a0 a1) fun _=>rfl
end
theorem eq (k:Nat) (a0:List (Ty.den TPair)) (a1:Int):rn (E k) Tryz.f28 (C k) (a0,a1,())=f k a0 a1:=(show _=t k (V0 k a0 a1 k) a0 a1 by kernel_rfl).trans (by rw [e0];rfl)
theorem ctr (k:Nat):Cp 28 (C k):=rc rfl (D k) (by kernel_rfl) Tryz.func28 (by kernel_rfl) rfl fun ⟨a0,a1,_⟩ r h=>(eq k a0 a1).trans h
end laws_markPairS
namespace laws_markIntS
def C (k:Nat):Cn:=⟨[.lend (.slice (.int .i64)),.val (.int .i64)],[(.int .i64)],true,false,fun x=>f k x.1 x.2.1⟩
def E (k:Nat):Env:=en [] [(2,[0,1,5])] 1 [] k
section
variable (k:Nat) (a0:List Int) (a1:Int)
def K0:Ex→St→Rs:=runK (E k) (eK (E k) Tryz.f27 (C k) (a0,a1,())) [.blk 0,.code (at_ (bt 2 3) (body Tryz.f27))]
def V0 (n0:Nat):T0:=fun x0 x1 x2=>loopN (exec (E k) (at_ (bt 5 5) (body Tryz.f27))) (canon 1 [0,1,5]) (K0 k a0 a1) n0 (mk 19 1 [(0,.ref 0),(1,.int .i64 x0),(5,.int .i64 x1)] [(0,.own false (.int .i64) x2)])
theorem s0 (n0:Nat):V0 k a0 a1 (n0+1)=b0 k a0 a1 (V0 k a0 a1 n0):=by kernel_rfl
theorem e0:V0 k a0 a1=l0 k a0 a1:=loop_eq rfl (s0 k a0 a1) fun _=>rfl
end
theorem eq (k:Nat) (a0:List Int) (a1:Int):rn (E k) Tryz.f27 (C k) (a0,a1,())=f k a0 a1:=(show _=t k (V0 k a0 a1 k) a0 a1 by kernel_rfl).trans (by rw [e0];rfl)
theorem ctr (k:Nat):Cp 27 (C k):=rc rfl [] (by kernel_rfl) Tryz.func27 (by kernel_rfl) rfl fun ⟨a0,a1,_⟩ r h=>(eq k a0 a1).trans h
end laws_markIntS
namespace laws_markLive
def C (k:Nat):Cn:=⟨[.lend TLive,.val (.int .i64)],[(.int .i64)],true,false,fun x=>f k x.1 x.2.1⟩
def D (k:Nat):List Ce:=[q (laws_markIntS.ctr k)]
def E (k:Nat):Env:=en (D k) [] 1 [] k
theorem eq (k:Nat) (a0:Ty.den TLive) (a1:Int):rn (E k) Tryz.f57 (C k) (a0,a1,())=f k a0 a1:=by kernel_rfl
theorem ctr (k:Nat):Cp 57 (C k):=rc rfl (D k) (by kernel_rfl) Tryz.func57 (by kernel_rfl) rfl fun ⟨a0,a1,_⟩ r h=>(eq k a0 a1).trans h
end laws_markLive
namespace laws_markEntryS
def C (k:Nat):Cn:=⟨[.lend (.slice TEntry),.val (.int .i64)],[(.int .i64)],true,false,fun x=>f k x.1 x.2.1⟩
def D (k:Nat):List Ce:=[q (laws_markText.ctr k)]
def E (k:Nat):Env:=en (D k) [(2,[0,1,5])] 1 [] k
section
variable (k:Nat) (a0:List (Ty.den TEntry)) (a1:Int)
def K0:Ex→St→Rs:=runK (E k) (eK (E k) Tryz.f58 (C k) (a0,a1,())) [.blk 0,.code (at_ (bt 2 3) (body Tryz.f58))]
def V0 (n0:Nat):T0:=fun x0 x1 x2=>loopN (exec (E k) (at_ (bt 5 5) (body Tryz.f58))) (canon 1 [0,1,5]) (K0 k a0 a1) n0 (mk 49 1 [(0,.ref 0),(1,.int .i64 x0),(5,.int .i64 x1)] [(0,.own false TEntry x2)])
theorem s0 (n0:Nat):V0 k a0 a1 (n0+1)=b0 k a0 a1 (V0 k a0 a1 n0):=by kernel_rfl
theorem e0:V0 k a0 a1=l0 k a0 a1:=loop_eq rfl (s0 k a0 a1) fun _=>rfl
end
theorem eq (k:Nat) (a0:List (Ty.den TEntry)) (a1:Int):rn (E k) Tryz.f58 (C k) (a0,a1,())=f k a0 a1:=(show _=t k (V0 k a0 a1 k) a0 a1 by kernel_rfl).trans (by rw [e0];rfl)
theorem ctr (k:Nat):Cp 58 (C k):=rc rfl (D k) (by kernel_rfl) Tryz.func58 (by kernel_rfl) rfl fun ⟨a0,a1,_⟩ r h=>(eq k a0 a1).trans h
end laws_markEntryS
namespace laws_markStore
def C (k:Nat):Cn:=⟨[.lend TStore,.val (.int .i64)],[(.int .i64)],true,false,fun x=>f k x.1 x.2.1⟩
def D (k:Nat):List Ce:=[q (laws_markLive.ctr k),q (laws_markEntryS.ctr k)]
def E (k:Nat):Env:=en (D k) [] 2 [] k
theorem eq (k:Nat) (a0:Ty.den TStore) (a1:Int):rn (E k) Tryz.f19 (C k) (a0,a1,())=f k a0 a1:=by kernel_rfl
theorem ctr (k:Nat):Cp 19 (C k):=rc rfl (D k) (by kernel_rfl) Tryz.func19 (by kernel_rfl) rfl fun ⟨a0,a1,_⟩ r h=>(eq k a0 a1).trans h
end laws_markStore
namespace laws_markFileS
def C (k:Nat):Cn:=⟨[.lend (.slice TPair),.val (.int .i64)],[(.int .i64)],true,false,fun x=>f k x.1 x.2.1⟩
def D (k:Nat):List Ce:=[q (laws_markText.ctr k)]
def E (k:Nat):Env:=en (D k) [(2,[0,1,5])] 1 [] k
section
variable (k:Nat) (a0:List (Ty.den TPair)) (a1:Int)
def K0:Ex→St→Rs:=runK (E k) (eK (E k) Tryz.f59 (C k) (a0,a1,())) [.blk 0,.code (at_ (bt 2 3) (body Tryz.f59))]
def V0 (n0:Nat):T0:=fun x0 x1 x2=>loopN (exec (E k) (at_ (bt 5 5) (body Tryz.f59))) (canon 1 [0,1,5]) (K0 k a0 a1) n0 (mk 36 1 [(0,.ref 0),(1,.int .i64 x0),(5,.int .i64 x1)] [(0,.own false TPair x2)])
theorem s0 (n0:Nat):V0 k a0 a1 (n0+1)=b0 k a0 a1 (V0 k a0 a1 n0):=by kernel_rfl
theorem e0:V0 k a0 a1=l0 k a0 a1:=loop_eq rfl (s0 k a0 a1) fun _=>rfl
end
theorem eq (k:Nat) (a0:List (Ty.den TPair)) (a1:Int):rn (E k) Tryz.f59 (C k) (a0,a1,())=f k a0 a1:=(show _=t k (V0 k a0 a1 k) a0 a1 by kernel_rfl).trans (by rw [e0];rfl)
theorem ctr (k:Nat):Cp 59 (C k):=rc rfl (D k) (by kernel_rfl) Tryz.func59 (by kernel_rfl) rfl fun ⟨a0,a1,_⟩ r h=>(eq k a0 a1).trans h
end laws_markFileS
namespace laws_markDisk
def C (k:Nat):Cn:=⟨[.lend TDisk,.val (.int .i64)],[(.int .i64)],true,false,fun x=>f k x.1 x.2.1⟩
def D (k:Nat):List Ce:=[q (laws_markFileS.ctr k)]
def E (k:Nat):Env:=en (D k) [] 1 [] k
theorem eq (k:Nat) (a0:Ty.den TDisk) (a1:Int):rn (E k) Tryz.f20 (C k) (a0,a1,())=f k a0 a1:=by kernel_rfl
theorem ctr (k:Nat):Cp 20 (C k):=rc rfl (D k) (by kernel_rfl) Tryz.func20 (by kernel_rfl) rfl fun ⟨a0,a1,_⟩ r h=>(eq k a0 a1).trans h
end laws_markDisk
namespace laws_heldIntS
def C (k:Nat):Cn:=⟨[.val (.slice (.int .i64)),.val (.int .i64)],[(.int .i64)],true,false,fun x=>f k x.1 x.2.1⟩
def E (k:Nat):Env:=en [] [(2,[0,1,5])] 0 [] k
section
variable (k:Nat) (a0:List Int) (a1:Int)
def K0:Ex→St→Rs:=runK (E k) (eK (E k) Tryz.f131 (C k) (a0,a1,())) [.blk 0,.code (at_ (bt 2 3) (body Tryz.f131))]
def V0 (n0:Nat):T0:=fun x0 x1 x2=>loopN (exec (E k) (at_ (bt 5 5) (body Tryz.f131))) (canon 0 [0,1,5]) (K0 k a0 a1) n0 (mk 21 0 [(0,.sl true (.int .i64) x0),(1,.int .i64 x1),(5,.int .i64 x2)] [])
theorem s0 (n0:Nat):V0 k a0 a1 (n0+1)=b0 k (V0 k a0 a1 n0):=by kernel_rfl
theorem e0:V0 k a0 a1=l0 k:=loop_eq rfl (s0 k a0 a1) fun _=>rfl
end
theorem eq (k:Nat) (a0:List Int) (a1:Int):rn (E k) Tryz.f131 (C k) (a0,a1,())=f k a0 a1:=(show _=t k (V0 k a0 a1 k) a0 a1 by kernel_rfl).trans (by rw [e0];rfl)
theorem ctr (k:Nat):Cp 131 (C k):=rc rfl [] (by kernel_rfl) Tryz.func131 (by kernel_rfl) rfl fun ⟨a0,a1,_⟩ r h=>(eq k a0 a1).trans h
end laws_heldIntS
namespace laws_heldLive
def C (k:Nat):Cn:=⟨[.val TLive,.val (.int .i64)],[(.int .i64)],true,false,fun x=>f k x.1 x.2.1⟩
def D (k:Nat):List Ce:=[q (laws_heldIntS.ctr k)]
def E (k:Nat):Env:=en (D k) [] 0 [] k
theorem eq (k:Nat) (a0:Ty.den TLive) (a1:Int):rn (E k) Tryz.f80 (C k) (a0,a1,())=f k a0 a1:=by kernel_rfl
theorem ctr (k:Nat):Cp 80 (C k):=rc rfl (D k) (by kernel_rfl) Tryz.func80 (by kernel_rfl) rfl fun ⟨a0,a1,_⟩ r h=>(eq k a0 a1).trans h
end laws_heldLive
namespace laws_heldEntryS
def C (k:Nat):Cn:=⟨[.val (.slice TEntry),.val (.int .i64)],[(.int .i64)],true,false,fun x=>f k x.1 x.2.1⟩
def D (k:Nat):List Ce:=[q (laws_markText.ctr k)]
def E (k:Nat):Env:=en (D k) [(2,[0,1,5])] 0 [] k
section
variable (k:Nat) (a0:List (Ty.den TEntry)) (a1:Int)
def K0:Ex→St→Rs:=runK (E k) (eK (E k) Tryz.f81 (C k) (a0,a1,())) [.blk 0,.code (at_ (bt 2 3) (body Tryz.f81))]
def V0 (n0:Nat):T0:=fun x0 x1 x2=>loopN (exec (E k) (at_ (bt 5 5) (body Tryz.f81))) (canon 0 [0,1,5]) (K0 k a0 a1) n0 (mk 59 0 [(0,.sl true TEntry x0),(1,.int .i64 x1),(5,.int .i64 x2)] [])
theorem s0 (n0:Nat):V0 k a0 a1 (n0+1)=b0 k (V0 k a0 a1 n0):=by kernel_rfl
theorem e0:V0 k a0 a1=l0 k:=loop_eq rfl (s0 k a0 a1) fun _=>rfl
end
theorem eq (k:Nat) (a0:List (Ty.den TEntry)) (a1:Int):rn (E k) Tryz.f81 (C k) (a0,a1,())=f k a0 a1:=(show _=t k (V0 k a0 a1 k) a0 a1 by kernel_rfl).trans (by rw [e0];rfl)
theorem ctr (k:Nat):Cp 81 (C k):=rc rfl (D k) (by kernel_rfl) Tryz.func81 (by kernel_rfl) rfl fun ⟨a0,a1,_⟩ r h=>(eq k a0 a1).trans h
end laws_heldEntryS
namespace laws_heldStore
def C (k:Nat):Cn:=⟨[.val TStore,.val (.int .i64)],[(.int .i64)],true,false,fun x=>f k x.1 x.2.1⟩
def D (k:Nat):List Ce:=[q (laws_heldLive.ctr k),q (laws_heldEntryS.ctr k)]
def E (k:Nat):Env:=en (D k) [] 0 [] k
theorem eq (k:Nat) (a0:Ty.den TStore) (a1:Int):rn (E k) Tryz.f34 (C k) (a0,a1,())=f k a0 a1:=by kernel_rfl
theorem ctr (k:Nat):Cp 34 (C k):=rc rfl (D k) (by kernel_rfl) Tryz.func34 (by kernel_rfl) rfl fun ⟨a0,a1,_⟩ r h=>(eq k a0 a1).trans h
end laws_heldStore
namespace laws_heldFileS
def C (k:Nat):Cn:=⟨[.val (.slice TPair),.val (.int .i64)],[(.int .i64)],true,false,fun x=>f k x.1 x.2.1⟩
def D (k:Nat):List Ce:=[q (laws_markText.ctr k)]
def E (k:Nat):Env:=en (D k) [(2,[0,1,5])] 0 [] k
section
variable (k:Nat) (a0:List (Ty.den TPair)) (a1:Int)
def K0:Ex→St→Rs:=runK (E k) (eK (E k) Tryz.f82 (C k) (a0,a1,())) [.blk 0,.code (at_ (bt 2 3) (body Tryz.f82))]
def V0 (n0:Nat):T0:=fun x0 x1 x2=>loopN (exec (E k) (at_ (bt 5 5) (body Tryz.f82))) (canon 0 [0,1,5]) (K0 k a0 a1) n0 (mk 42 0 [(0,.sl true TPair x0),(1,.int .i64 x1),(5,.int .i64 x2)] [])
theorem s0 (n0:Nat):V0 k a0 a1 (n0+1)=b0 k (V0 k a0 a1 n0):=by kernel_rfl
theorem e0:V0 k a0 a1=l0 k:=loop_eq rfl (s0 k a0 a1) fun _=>rfl
end
theorem eq (k:Nat) (a0:List (Ty.den TPair)) (a1:Int):rn (E k) Tryz.f82 (C k) (a0,a1,())=f k a0 a1:=(show _=t k (V0 k a0 a1 k) a0 a1 by kernel_rfl).trans (by rw [e0];rfl)
theorem ctr (k:Nat):Cp 82 (C k):=rc rfl (D k) (by kernel_rfl) Tryz.func82 (by kernel_rfl) rfl fun ⟨a0,a1,_⟩ r h=>(eq k a0 a1).trans h
end laws_heldFileS
namespace laws_heldDisk
def C (k:Nat):Cn:=⟨[.val TDisk,.val (.int .i64)],[(.int .i64)],true,false,fun x=>f k x.1 x.2.1⟩
def D (k:Nat):List Ce:=[q (laws_heldFileS.ctr k)]
def E (k:Nat):Env:=en (D k) [] 0 [] k
theorem eq (k:Nat) (a0:Ty.den TDisk) (a1:Int):rn (E k) Tryz.f35 (C k) (a0,a1,())=f k a0 a1:=by kernel_rfl
theorem ctr (k:Nat):Cp 35 (C k):=rc rfl (D k) (by kernel_rfl) Tryz.func35 (by kernel_rfl) rfl fun ⟨a0,a1,_⟩ r h=>(eq k a0 a1).trans h
end laws_heldDisk
namespace laws_FnExactRestore
def C (k:Nat):Cn:=⟨[.val (.int .i64),.val (.slice TPair)],[.bool],true,false,fun x=>f k x.1 x.2.1⟩
def D (k:Nat):List Ce:=[q (laws_szPairS.ctr k),q (laws_toPairS.ctr k),q (spec_Restore.ctr k),q (impl_Restore.ctr k),q (laws_eqStore.ctr k),q (laws_eqDisk.ctr k),q (laws_eqPairS.ctr k),q (laws_markPairS.ctr k),q (laws_markStore.ctr k),q (laws_markDisk.ctr k),q (laws_heldStore.ctr k),q (laws_heldDisk.ctr k)]
def E (k:Nat):Env:=en (D k) [] 0 [] k
theorem eq (k:Nat) (a0:Int) (a1:List (Ty.den TPair)):rn (E k) Tryz.f5 (C k) (a0,a1,())=f k a0 a1:=by kernel_rfl
theorem ctr (k:Nat):Cp 5 (C k):=rc rfl (D k) (by kernel_rfl) Tryz.func5 (by kernel_rfl) rfl fun ⟨a0,a1,_⟩ r h=>(eq k a0 a1).trans h
end laws_FnExactRestore
end
end Go.Proofs.YtejgkmhpmhfnbaaGreatDoor.G
