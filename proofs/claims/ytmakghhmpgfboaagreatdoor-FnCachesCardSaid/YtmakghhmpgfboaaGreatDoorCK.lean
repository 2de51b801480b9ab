/- Functions keep their contracts. -/
import Derived.Test.YtmakghhmpgfboaaGreatDoorVTab
import Derived.Test.YtmakghhmpgfboaaGreatDoorFK
import Derived.Test.YtmakghhmpgfboaaGreatDoorCLib
set_option linter.unusedVariables false
set_option maxRecDepth 100000
namespace Go.Proofs.YtmakghhmpgfboaaGreatDoor.G
open Go.V
noncomputable section
namespace laws_big
def C (k:Nat):Cn:=⟨[.val (.slice (.int .u8))],[.bool],true,false,fun x=>f k x.1⟩
def E (k:Nat):Env:=en [] [] 0 [] k
theorem eq (k:Nat) (a0:List Int):rn (E k) Tryz.f5 (C k) (a0,())=f k a0:=by kernel_rfl
theorem ctr (k:Nat):Cp 5 (C k):=rc rfl [] (by kernel_rfl) Tryz.func5 (by kernel_rfl) rfl fun ⟨a0,_⟩ r h=>(eq k a0).trans h
end laws_big
namespace spec_l1New
def C (k:Nat):Cn:=⟨[.val (.slice (.int .u8))],[.opq,Tl1Cur],false,true,fun x=>f k x.1⟩
def E (k:Nat):Env:=en [] [(3,[0,3,4])] 0 [] k
section
variable (k:Nat) (a0:List Int)
def K0:Ex→St→Rs:=runK (E k) (eB (E k) Tryz.f24 (C k) (a0,())) [.blk 0,.code (at_ (bt 3 7) (body Tryz.f24))]
def V0 (n0:Nat):T0:=fun x0 x1 x2=>loopN (exec (E k) (at_ (bt 6 11) (body Tryz.f24))) (canon 0 [0,3,4]) (K0 k a0) n0 (mk 32 0 [(0,.sl true (.int .u8) x0),(3,.int .i64 x1),(4,.int .i64 x2)] [])
theorem s0 (n0:Nat):V0 k a0 (n0+1)=b0 k (V0 k a0 n0):=by kernel_rfl
theorem e0:V0 k a0=l0 k:=loop_eq rfl (s0 k a0) fun _=>rfl
end
theorem eq (k:Nat) (a0:List Int):rb (E k) Tryz.f24 (C k) (a0,())=f k a0:=(show _=t k (V0 k a0 k) a0 by kernel_rfl).trans (by rw [e0];rfl)
theorem ctr (k:Nat):Cp 24 (C k):=rcb rfl rfl rfl [] (by kernel_rfl) Tryz.func24 (by kernel_rfl) rfl fun ⟨a0,_⟩ r h=>(eq k a0).trans h
end spec_l1New
namespace spec_l1Byte
def C (k:Nat):Cn:=⟨[.io false Tl1Cur],[(.int .i64)],true,true,fun x=>f k x.1⟩
def E (k:Nat):Env:=en [] [] 1 [] k
theorem eq (k:Nat) (a0:Ty.den Tl1Cur):rn (E k) Tryz.f111 (C k) (a0,())=f k a0:=by kernel_rfl
theorem ctr (k:Nat):Cp 111 (C k):=rc rfl [] (by kernel_rfl) Tryz.func111 (by kernel_rfl) rfl fun ⟨a0,_⟩ r h=>(eq k a0).trans h
end spec_l1Byte
namespace spec_l1Below
def C (k:Nat):Cn:=⟨[.io false Tl1Cur,.val (.int .i64)],[(.int .i64)],true,true,fun x=>f k x.1 x.2.1⟩
def D (k:Nat):List Ce:=[q (spec_l1Byte.ctr k)]
def E (k:Nat):Env:=en (D k) [] 1 [] k
theorem eq (k:Nat) (a0:Ty.den Tl1Cur) (a1:Int):rn (E k) Tryz.f63 (C k) (a0,a1,())=f k a0 a1:=by kernel_rfl
theorem ctr (k:Nat):Cp 63 (C k):=rc rfl (D k) (by kernel_rfl) Tryz.func63 (by kernel_rfl) rfl fun ⟨a0,a1,_⟩ r h=>(eq k a0 a1).trans h
end spec_l1Below
namespace spec_l1PickInt
def C (k:Nat):Cn:=⟨[.io false Tl1Cur,.val (.slice (.int .i64))],[(.int .i64)],true,true,fun x=>f k x.1 x.2.1⟩
def D (k:Nat):List Ce:=[q (spec_l1Below.ctr k)]
def E (k:Nat):Env:=en (D k) [] 1 [] k
theorem eq (k:Nat) (a0:Ty.den Tl1Cur) (a1:List Int):rn (E k) Tryz.f66 (C k) (a0,a1,())=f k a0 a1:=by kernel_rfl
theorem ctr (k:Nat):Cp 66 (C k):=rc rfl (D k) (by kernel_rfl) Tryz.func66 (by kernel_rfl) rfl fun ⟨a0,a1,_⟩ r h=>(eq k a0 a1).trans h
end spec_l1PickInt
namespace spec_l1In
def C (k:Nat):Cn:=⟨[.val (.int .i64),.val (.int .i64),.val (.int .i64)],[.bool],true,false,fun x=>f k x.1 x.2.1 x.2.2.1⟩
def E (k:Nat):Env:=en [] [] 0 [] k
theorem eq (k:Nat) (a0:Int) (a1:Int) (a2:Int):rn (E k) Tryz.f32 (C k) (a0,a1,a2,())=f k a0 a1 a2:=by kernel_rfl
theorem ctr (k:Nat):Cp 32 (C k):=rc rfl [] (by kernel_rfl) Tryz.func32 (by kernel_rfl) rfl fun ⟨a0,a1,a2,_⟩ r h=>(eq k a0 a1 a2).trans h
end spec_l1In
namespace spec_DiskNew
def C (k:Nat):Cn:=⟨[.val (.int .i64)],[TDisk],true,false,fun x=>f k x.1⟩
def D (k:Nat):List Ce:=[q (spec_l1In.ctr k)]
def E (k:Nat):Env:=en (D k) [] 0 [] k
theorem eq (k:Nat) (a0:Int):rn (E k) Tryz.f92 (C k) (a0,())=f k a0:=by kernel_rfl
theorem ctr (k:Nat):Cp 92 (C k):=rc rfl (D k) (by kernel_rfl) Tryz.func92 (by kernel_rfl) rfl fun ⟨a0,_⟩ r h=>(eq k a0).trans h
end spec_DiskNew
namespace spec_l3Used
def C (k:Nat):Cn:=⟨[.val TDisk],[(.int .i64)],true,false,fun x=>f k x.1⟩
def E (k:Nat):Env:=en [] [(3,[1,3,4])] 0 [] k
section
variable (k:Nat) (a0:Ty.den TDisk)
def K0:Ex→St→Rs:=runK (E k) (eK (E k) Tryz.f150 (C k) (a0,())) [.blk 0,.code (at_ (bt 3 7) (body Tryz.f150))]
def V0 (n0:Nat):T0:=fun x0 x1 x2 x3 x4 x5=>loopN (exec (E k) (at_ (bt 6 11) (body Tryz.f150))) (canon 0 [1,3,4]) (K0 k a0) n0 (mk 22 1 [(1,.ptr 0 0 0),(3,.int .i64 x0),(4,.int .i64 x1)] [(0,.box [.sl true TPair x2,.int .i64 x3,.int .i64 x4,.bool x5])])
theorem s0 (n0:Nat):V0 k a0 (n0+1)=b0 k (V0 k a0 n0):=by kernel_rfl
theorem e0:V0 k a0=l0 k:=loop_eq rfl (s0 k a0) fun _=>rfl
end
theorem eq (k:Nat) (a0:Ty.den TDisk):rn (E k) Tryz.f150 (C k) (a0,())=f k a0:=(show _=t k (V0 k a0 k) a0 by kernel_rfl).trans (by rw [e0];rfl)
theorem ctr (k:Nat):Cp 150 (C k):=rc rfl [] (by kernel_rfl) Tryz.func150 (by kernel_rfl) rfl fun ⟨a0,_⟩ r h=>(eq k a0).trans h
end spec_l3Used
namespace spec_NameOk
def C (k:Nat):Cn:=⟨[.val .str],[.bool],true,false,fun x=>f k x.1⟩
def D (k:Nat):List Ce:=[q (spec_l1In.ctr k)]
def E (k:Nat):Env:=en (D k) [(2,[0,3])] 0 [] k
section
variable (k:Nat) (a0:ByteArray)
def K0:Ex→St→Rs:=runK (E k) (eK (E k) Tryz.f151 (C k) (a0,())) [.blk 0,.code (at_ (bt 2 3) (body Tryz.f151))]
def V0 (n0:Nat):T0:=fun x0 x1=>loopN (exec (E k) (at_ (bt 5 5) (body Tryz.f151))) (canon 0 [0,3]) (K0 k a0) n0 (mk 36 0 [(0,.str x0),(3,.int .i64 x1)] [])
theorem s0 (n0:Nat):V0 k a0 (n0+1)=b0 k (V0 k a0 n0):=by kernel_rfl
theorem e0:V0 k a0=l0 k:=loop_eq rfl (s0 k a0) fun _=>rfl
end
theorem eq (k:Nat) (a0:ByteArray):rn (E k) Tryz.f151 (C k) (a0,())=f k a0:=(show _=t k (V0 k a0 k) a0 by kernel_rfl).trans (by rw [e0];rfl)
theorem ctr (k:Nat):Cp 151 (C k):=rc rfl (D k) (by kernel_rfl) Tryz.func151 (by kernel_rfl) rfl fun ⟨a0,_⟩ r h=>(eq k a0).trans h
end spec_NameOk
namespace spec_DiskOk
def C (k:Nat):Cn:=⟨[.val TDisk],[.bool],true,false,fun x=>f k x.1⟩
def D (k:Nat):List Ce:=[q (spec_l1In.ctr k),q (spec_l3Used.ctr k),q (spec_NameOk.ctr k)]
def E (k:Nat):Env:=en (D k) [(4,[1,3])] 0 [] k
section
variable (k:Nat) (a0:Ty.den TDisk)
def K0:Ex→St→Rs:=runK (E k) (eK (E k) Tryz.f96 (C k) (a0,())) [.blk 0,.code (at_ (bt 3 7) (body Tryz.f96))]
def V0 (n0:Nat):T0:=fun x0 x1 x2 x3 x4=>loopN (exec (E k) (at_ (bt 6 11) (body Tryz.f96))) (canon 0 [1,3]) (K0 k a0) n0 (mk 79 1 [(1,.ptr 0 0 0),(3,.int .i64 x0)] [(0,.box [.sl true TPair x1,.int .i64 x2,.int .i64 x3,.bool x4])])
theorem s0 (n0:Nat):V0 k a0 (n0+1)=b0 k (V0 k a0 n0):=by kernel_rfl
theorem e0:V0 k a0=l0 k:=loop_eq rfl (s0 k a0) fun _=>rfl
end
theorem eq (k:Nat) (a0:Ty.den TDisk):rn (E k) Tryz.f96 (C k) (a0,())=f k a0:=(show _=t k (V0 k a0 k) a0 by kernel_rfl).trans (by rw [e0];rfl)
theorem ctr (k:Nat):Cp 96 (C k):=rc rfl (D k) (by kernel_rfl) Tryz.func96 (by kernel_rfl) rfl fun ⟨a0,_⟩ r h=>(eq k a0).trans h
end spec_DiskOk
namespace spec_l3Copy
def C (k:Nat):Cn:=⟨[.val TDisk],[TDisk],true,false,fun x=>f k x.1⟩
def E (k:Nat):Env:=en [] [] 0 [] k
theorem eq (k:Nat) (a0:Ty.den TDisk):rn (E k) Tryz.f50 (C k) (a0,())=f k a0:=by kernel_rfl
theorem ctr (k:Nat):Cp 50 (C k):=rc rfl [] (by kernel_rfl) Tryz.func50 (by kernel_rfl) rfl fun ⟨a0,_⟩ r h=>(eq k a0).trans h
end spec_l3Copy
namespace spec_l3Find
def C (k:Nat):Cn:=⟨[.val TDisk,.val .str],[(.int .i64)],true,false,fun x=>f k x.1 x.2.1⟩
def E (k:Nat):Env:=en [] [(2,[1,2,5])] 0 [] k
section
variable (k:Nat) (a0:Ty.den TDisk) (a1:ByteArray)
def K0:Ex→St→Rs:=runK (E k) (eK (E k) Tryz.f108 (C k) (a0,a1,())) [.blk 0,.code (at_ (bt 2 3) (body Tryz.f108))]
def V0 (n0:Nat):T0:=fun x0 x1 x2 x3 x4 x5=>loopN (exec (E k) (at_ (bt 5 5) (body Tryz.f108))) (canon 0 [1,2,5]) (K0 k a0 a1) n0 (mk 22 1 [(1,.str x0),(2,.ptr 0 0 0),(5,.int .i64 x1)] [(0,.box [.sl true TPair x2,.int .i64 x3,.int .i64 x4,.bool x5])])
theorem s0 (n0:Nat):V0 k a0 a1 (n0+1)=b0 k (V0 k a0 a1 n0):=by kernel_rfl
theorem e0:V0 k a0 a1=l0 k:=loop_eq rfl (s0 k a0 a1) fun _=>rfl
end
theorem eq (k:Nat) (a0:Ty.den TDisk) (a1:ByteArray):rn (E k) Tryz.f108 (C k) (a0,a1,())=f k a0 a1:=(show _=t k (V0 k a0 a1 k) a0 a1 by kernel_rfl).trans (by rw [e0];rfl)
theorem ctr (k:Nat):Cp 108 (C k):=rc rfl [] (by kernel_rfl) Tryz.func108 (by kernel_rfl) rfl fun ⟨a0,a1,_⟩ r h=>(eq k a0 a1).trans h
end spec_l3Find
namespace spec_FileText
def C (k:Nat):Cn:=⟨[.val TDisk,.val .str],[.str,.bool],true,false,fun x=>f k x.1 x.2.1⟩
def D (k:Nat):List Ce:=[q (spec_DiskOk.ctr k),q (spec_l3Find.ctr k)]
def E (k:Nat):Env:=en (D k) [] 0 [] k
theorem eq (k:Nat) (a0:Ty.den TDisk) (a1:ByteArray):rn (E k) Tryz.f60 (C k) (a0,a1,())=f k a0 a1:=by kernel_rfl
theorem ctr (k:Nat):Cp 60 (C k):=rc rfl (D k) (by kernel_rfl) Tryz.func60 (by kernel_rfl) rfl fun ⟨a0,a1,_⟩ r h=>(eq k a0 a1).trans h
end spec_FileText
namespace spec_Dec
def C (k:Nat):Cn:=⟨[.val (.int .i64)],[.str],true,false,fun x=>f k x.1⟩
def E (k:Nat):Env:=en [] [(5,[0,3,4])] 0 [] k
section
variable (k:Nat) (a0:Int)
def K0:Ex→St→Rs:=runK (E k) (eK (E k) Tryz.f65 (C k) (a0,())) [.blk 0,.code (at_ (bt 5 31) (body Tryz.f65))]
def V0 (n0:Nat):T0:=fun x0 x1 x2=>loopN (exec (E k) (at_ (bt 7 15) (body Tryz.f65))) (canon 0 [0,3,4]) (K0 k a0) n0 (mk 31 0 [(0,.int .i64 x0),(3,.str x1),(4,.bool x2)] [])
theorem s0 (n0:Nat):V0 k a0 (n0+1)=b0 k (V0 k a0 n0):=by kernel_rfl
theorem e0:V0 k a0=l0 k:=loop_eq rfl (s0 k a0) fun _=>rfl
end
theorem eq (k:Nat) (a0:Int):rn (E k) Tryz.f65 (C k) (a0,())=f k a0:=(show _=t k (V0 k a0 k) a0 by kernel_rfl).trans (by rw [e0];rfl)
theorem ctr (k:Nat):Cp 65 (C k):=rc rfl [] (by kernel_rfl) Tryz.func65 (by kernel_rfl) rfl fun ⟨a0,_⟩ r h=>(eq k a0).trans h
end spec_Dec
namespace spec_ReadDec
def C (k:Nat):Cn:=⟨[.val .str],[(.int .i64),.bool],true,false,fun x=>f k x.1⟩
def D (k:Nat):List Ce:=[q (spec_Dec.ctr k)]
def E (k:Nat):Env:=en (D k) [(4,[0,4,5,6])] 0 [] k
section
variable (k:Nat) (a0:ByteArray)
def K0:Ex→St→Rs:=runK (E k) (eK (E k) Tryz.f234 (C k) (a0,())) [.blk 0,.code (at_ (bt 4 15) (body Tryz.f234))]
def V0 (n0:Nat):T0:=fun x0 x1 x2 x3=>loopN (exec (E k) (at_ (bt 7 23) (body Tryz.f234))) (canon 0 [0,4,5,6]) (K0 k a0) n0 (mk 61 0 [(0,.str x0),(4,.int .i64 x1),(5,.int .i64 x2),(6,.int .i64 x3)] [])
theorem s0 (n0:Nat):V0 k a0 (n0+1)=b0 k (V0 k a0 n0):=by kernel_rfl
theorem e0:V0 k a0=l0 k:=loop_eq rfl (s0 k a0) fun _=>rfl
end
theorem eq (k:Nat) (a0:ByteArray):rn (E k) Tryz.f234 (C k) (a0,())=f k a0:=(show _=t k (V0 k a0 k) a0 by kernel_rfl).trans (by rw [e0];rfl)
theorem ctr (k:Nat):Cp 234 (C k):=rc rfl (D k) (by kernel_rfl) Tryz.func234 (by kernel_rfl) rfl fun ⟨a0,_⟩ r h=>(eq k a0).trans h
end spec_ReadDec
namespace spec_SegName
def C (k:Nat):Cn:=⟨[.val (.int .i64)],[.str],true,false,fun x=>f k x.1⟩
def D (k:Nat):List Ce:=[q (spec_l1In.ctr k),q (spec_Dec.ctr k)]
def E (k:Nat):Env:=en (D k) [] 0 [] k
theorem eq (k:Nat) (a0:Int):rn (E k) Tryz.f61 (C k) (a0,())=f k a0:=by kernel_rfl
theorem ctr (k:Nat):Cp 61 (C k):=rc rfl (D k) (by kernel_rfl) Tryz.func61 (by kernel_rfl) rfl fun ⟨a0,_⟩ r h=>(eq k a0).trans h
end spec_SegName
namespace spec_HintName
def C (k:Nat):Cn:=⟨[.val (.int .i64)],[.str],true,false,fun x=>f k x.1⟩
def D (k:Nat):List Ce:=[q (spec_l1In.ctr k),q (spec_Dec.ctr k)]
def E (k:Nat):Env:=en (D k) [] 0 [] k
theorem eq (k:Nat) (a0:Int):rn (E k) Tryz.f142 (C k) (a0,())=f k a0:=by kernel_rfl
theorem ctr (k:Nat):Cp 142 (C k):=rc rfl (D k) (by kernel_rfl) Tryz.func142 (by kernel_rfl) rfl fun ⟨a0,_⟩ r h=>(eq k a0).trans h
end spec_HintName
namespace spec_IdOf
def C (k:Nat):Cn:=⟨[.val .str],[(.int .i64),.bool],true,false,fun x=>f k x.1⟩
def D (k:Nat):List Ce:=[q (spec_ReadDec.ctr k),q (spec_SegName.ctr k),q (spec_HintName.ctr k)]
def E (k:Nat):Env:=en (D k) [(2,[0,4])] 0 [] k
section
variable (k:Nat) (a0:ByteArray)
def K0:Ex→St→Rs:=runK (E k) (eK (E k) Tryz.f223 (C k) (a0,())) [.blk 0,.code (at_ (bt 2 3) (body Tryz.f223))]
def V0 (n0:Nat):T0:=fun x0 x1=>loopN (exec (E k) (at_ (bt 5 5) (body Tryz.f223))) (canon 0 [0,4]) (K0 k a0) n0 (mk 40 0 [(0,.str x0),(4,.int .i64 x1)] [])
theorem s0 (n0:Nat):V0 k a0 (n0+1)=b0 k (V0 k a0 n0):=by kernel_rfl
theorem e0:V0 k a0=l0 k:=loop_eq rfl (s0 k a0) fun _=>rfl
end
theorem eq (k:Nat) (a0:ByteArray):rn (E k) Tryz.f223 (C k) (a0,())=f k a0:=(show _=t k (V0 k a0 k) a0 by kernel_rfl).trans (by rw [e0];rfl)
theorem ctr (k:Nat):Cp 223 (C k):=rc rfl (D k) (by kernel_rfl) Tryz.func223 (by kernel_rfl) rfl fun ⟨a0,_⟩ r h=>(eq k a0).trans h
end spec_IdOf
namespace spec_Orphans
def C (k:Nat):Cn:=⟨[.val TDisk,.val TLive],[(.slice .str)],true,false,fun x=>f k x.1 x.2.1⟩
def D (k:Nat):List Ce:=[q (spec_DiskOk.ctr k),q (spec_IdOf.ctr k)]
def E (k:Nat):Env:=en (D k) [(5,[2,3,5,6]),(10,[2,3,5,6,7,8,9,10])] 0 [] k
section
variable (k:Nat) (a0:Ty.den TDisk) (a1:Ty.den TLive)
def K0:Ex→St→Rs:=runK (E k) (eK (E k) Tryz.f193 (C k) (a0,a1,())) [.blk 0,.code (at_ (bt 4 15) (body Tryz.f193))]
def B0 (n0:Nat):Ex→St→Rs:=lpK (E k) (at_ (bt 7 23) (body Tryz.f193)) 0 [2,3,5,6] (K0 k a0 a1) n0
def K1 (n0:Nat):Ex→St→Rs:=runK (E k) (B0 k a0 a1 n0) [.blk 2,.code (at_ (bt 13 7319) (body Tryz.f193)),.blk 1,.code (at_ (bt 9 407) (body Tryz.f193))]
def V0 (n0:Nat):T0:=fun x0 x1 x2 x3 x4 x5 x6 x7=>loopN (exec (E k) (at_ (bt 7 23) (body Tryz.f193))) (canon 0 [2,3,5,6]) (K0 k a0 a1) n0 (mk 74 3 [(2,.ptr 0 0 0),(3,.ptr 1 0 0),(5,.ref 2),(6,.int .i64 x0)] [(0,.box [.sl true TPair x1,.int .i64 x2,.int .i64 x3,.bool x4]),(1,.box [.int .i64 x5,.sl true (.int .i64) x6]),(2,.own false .str x7)])
def V1 (n0 n1:Nat):T1:=fun x0 x1 x2 x3 x4 x5 x6 x7 x8 x9 x10 x11=>loopN (exec (E k) (at_ (bt 16 11415) (body Tryz.f193))) (canon 0 [2,3,5,6,7,8,9,10]) (K1 k a0 a1 n0) n1 (mk 74 3 [(2,.ptr 0 0 0),(3,.ptr 1 0 0),(5,.ref 2),(6,.int .i64 x0),(7,.int .i64 x1),(8,.bool x2),(9,.bool x3),(10,.int .i64 x4)] [(0,.box [.sl true TPair x5,.int .i64 x6,.int .i64 x7,.bool x8]),(1,.box [.int .i64 x9,.sl true (.int .i64) x10]),(2,.own false .str x11)])
theorem s0 (n0:Nat):V0 k a0 a1 (n0+1)=b0 k (V1 k a0 a1 n0 k) (V0 k a0 a1 n0):=by kernel_rfl
theorem s1 (n0 n1:Nat):V1 k a0 a1 n0 (n1+1)=b1 k (V0 k a0 a1 n0) (V1 k a0 a1 n0 n1):=by kernel_rfl
theorem e1 (n0:Nat):V1 k a0 a1 n0=l1 k (V0 k a0 a1 n0):=loop_eq rfl (s1 k a0 a1 n0) fun _=>rfl
theorem e0 (n0:Nat):V0 k a0 a1 n0=l0 k n0:=by
 induction n0 with
 | zero=>rfl
 | succ n0 ih =>
  have h:V0 k a0 a1 (n0+1)=b0 k (V1 k a0 a1 n0 k) (V0 k a0 a1 n0):=s0 k a0 a1 n0
  rw [h,e1,ih]
  rfl
end
theorem eq (k:Nat) (a0:Ty.den TDisk) (a1:Ty.den TLive):rn (E k) Tryz.f193 (C k) (a0,a1,())=f k a0 a1:=(show _=t k (V0 k a0 a1 k) a0 a1 by kernel_rfl).trans (by rw [e0];rfl)
theorem ctr (k:Nat):Cp 193 (C k):=rc rfl (D k) (by kernel_rfl) Tryz.func193 (by kernel_rfl) rfl fun ⟨a0,a1,_⟩ r h=>(eq k a0 a1).trans h
end spec_Orphans
namespace spec_l3Begin
def C (k:Nat):Cn:=⟨[.val TDisk],[TDisk,(.int .i64)],true,false,fun x=>f k x.1⟩
def D (k:Nat):List Ce:=[q (spec_l3Copy.ctr k),q (spec_DiskOk.ctr k)]
def E (k:Nat):Env:=en (D k) [] 0 [] k
theorem eq (k:Nat) (a0:Ty.den TDisk):rn (E k) Tryz.f157 (C k) (a0,())=f k a0:=by kernel_rfl
theorem ctr (k:Nat):Cp 157 (C k):=rc rfl (D k) (by kernel_rfl) Tryz.func157 (by kernel_rfl) rfl fun ⟨a0,_⟩ r h=>(eq k a0).trans h
end spec_l3Begin
namespace spec_l3Without
def C (k:Nat):Cn:=⟨[.val (.slice TPair),.val (.int .i64)],[(.slice TPair)],true,false,fun x=>f k x.1 x.2.1⟩
def E (k:Nat):Env:=en [] [] 0 [] k
theorem eq (k:Nat) (a0:List (Ty.den TPair)) (a1:Int):rn (E k) Tryz.f224 (C k) (a0,a1,())=f k a0 a1:=by kernel_rfl
theorem ctr (k:Nat):Cp 224 (C k):=rc rfl [] (by kernel_rfl) Tryz.func224 (by kernel_rfl) rfl fun ⟨a0,a1,_⟩ r h=>(eq k a0 a1).trans h
end spec_l3Without
namespace spec_Remove
def C (k:Nat):Cn:=⟨[.val TDisk,.val .str],[TDisk,(.int .i64)],true,false,fun x=>f k x.1 x.2.1⟩
def D (k:Nat):List Ce:=[q (spec_l3Begin.ctr k),q (spec_l3Find.ctr k),q (spec_l3Without.ctr k)]
def E (k:Nat):Env:=en (D k) [] 0 [] k
theorem eq (k:Nat) (a0:Ty.den TDisk) (a1:ByteArray):rn (E k) Tryz.f194 (C k) (a0,a1,())=f k a0 a1:=by kernel_rfl
theorem ctr (k:Nat):Cp 194 (C k):=rc rfl (D k) (by kernel_rfl) Tryz.func194 (by kernel_rfl) rfl fun ⟨a0,a1,_⟩ r h=>(eq k a0 a1).trans h
end spec_Remove
namespace spec_l11Code
def C (k:Nat):Cn:=⟨[.val (.int .i64)],[(.int .i64)],true,false,fun x=>f k x.1⟩
def E (k:Nat):Env:=en [] [] 0 [] k
theorem eq (k:Nat) (a0:Int):rn (E k) Tryz.f107 (C k) (a0,())=f k a0:=by kernel_rfl
theorem ctr (k:Nat):Cp 107 (C k):=rc rfl [] (by kernel_rfl) Tryz.func107 (by kernel_rfl) rfl fun ⟨a0,_⟩ r h=>(eq k a0).trans h
end spec_l11Code
namespace spec_l3Insert
def C (k:Nat):Cn:=⟨[.val (.slice TPair),.val TPair],[(.slice TPair)],true,false,fun x=>f k x.1 x.2.1⟩
def E (k:Nat):Env:=en [] [(4,[0,3,5,6,7])] 0 [] k
section
variable (k:Nat) (a0:List (Ty.den TPair)) (a1:Ty.den TPair)
def K0:Ex→St→Rs:=runK (E k) (eK (E k) Tryz.f219 (C k) (a0,a1,())) [.blk 0,.code (at_ (bt 4 15) (body Tryz.f219))]
def V0 (n0:Nat):T0:=fun x0 x1 x2 x3 x4 x5 x6=>loopN (exec (E k) (at_ (bt 7 23) (body Tryz.f219))) (canon 0 [0,3,5,6,7]) (K0 k a0 a1) n0 (mk 45 2 [(0,.sl true TPair x0),(3,.ptr 0 0 0),(5,.ref 1),(6,.bool x1),(7,.int .i64 x2)] [(0,.box [.str x3,.str x4,.int .i64 x5]),(1,.own false TPair x6)])
theorem s0 (n0:Nat):V0 k a0 a1 (n0+1)=b0 k (V0 k a0 a1 n0):=by kernel_rfl
theorem e0:V0 k a0 a1=l0 k:=loop_eq rfl (s0 k a0 a1) fun _=>rfl
end
theorem eq (k:Nat) (a0:List (Ty.den TPair)) (a1:Ty.den TPair):rn (E k) Tryz.f219 (C k) (a0,a1,())=f k a0 a1:=(show _=t k (V0 k a0 a1 k) a0 a1 by kernel_rfl).trans (by rw [e0];rfl)
theorem ctr (k:Nat):Cp 219 (C k):=rc rfl [] (by kernel_rfl) Tryz.func219 (by kernel_rfl) rfl fun ⟨a0,a1,_⟩ r h=>(eq k a0 a1).trans h
end spec_l3Insert
namespace spec_Create
def C (k:Nat):Cn:=⟨[.val TDisk,.val .str],[TDisk,(.int .i64)],true,false,fun x=>f k x.1 x.2.1⟩
def D (k:Nat):List Ce:=[q (spec_l3Begin.ctr k),q (spec_NameOk.ctr k),q (spec_l3Find.ctr k),q (spec_l3Insert.ctr k)]
def E (k:Nat):Env:=en (D k) [] 0 [] k
theorem eq (k:Nat) (a0:Ty.den TDisk) (a1:ByteArray):rn (E k) Tryz.f183 (C k) (a0,a1,())=f k a0 a1:=by kernel_rfl
theorem ctr (k:Nat):Cp 183 (C k):=rc rfl (D k) (by kernel_rfl) Tryz.func183 (by kernel_rfl) rfl fun ⟨a0,a1,_⟩ r h=>(eq k a0 a1).trans h
end spec_Create
namespace spec_LiveOk
def C (k:Nat):Cn:=⟨[.val TLive],[.bool],true,false,fun x=>f k x.1⟩
def D (k:Nat):List Ce:=[q (spec_l1In.ctr k)]
def E (k:Nat):Env:=en (D k) [(4,[1,3])] 0 [] k
section
variable (k:Nat) (a0:Ty.den TLive)
def K0:Ex→St→Rs:=runK (E k) (eK (E k) Tryz.f97 (C k) (a0,())) [.blk 0,.code (at_ (bt 3 7) (body Tryz.f97))]
def V0 (n0:Nat):T0:=fun x0 x1 x2=>loopN (exec (E k) (at_ (bt 6 11) (body Tryz.f97))) (canon 0 [1,3]) (K0 k a0) n0 (mk 50 1 [(1,.ptr 0 0 0),(3,.int .i64 x0)] [(0,.box [.int .i64 x1,.sl true (.int .i64) x2])])
theorem s0 (n0:Nat):V0 k a0 (n0+1)=b0 k (V0 k a0 n0):=by kernel_rfl
theorem e0:V0 k a0=l0 k:=loop_eq rfl (s0 k a0) fun _=>rfl
end
theorem eq (k:Nat) (a0:Ty.den TLive):rn (E k) Tryz.f97 (C k) (a0,())=f k a0:=(show _=t k (V0 k a0 k) a0 by kernel_rfl).trans (by rw [e0];rfl)
theorem ctr (k:Nat):Cp 97 (C k):=rc rfl (D k) (by kernel_rfl) Tryz.func97 (by kernel_rfl) rfl fun ⟨a0,_⟩ r h=>(eq k a0).trans h
end spec_LiveOk
namespace spec_Var
def C (k:Nat):Cn:=⟨[.val (.int .i64)],[.str],true,false,fun x=>f k x.1⟩
def D (k:Nat):List Ce:=[q (spec_l1In.ctr k)]
def E (k:Nat):Env:=en (D k) [(4,[0,3])] 0 [] k
section
variable (k:Nat) (a0:Int)
def K0:Ex→St→Rs:=runK (E k) (eK (E k) Tryz.f200 (C k) (a0,())) [.blk 0,.code (at_ (bt 4 15) (body Tryz.f200))]
def V0 (n0:Nat):T0:=fun x0 x1=>loopN (exec (E k) (at_ (bt 6 7) (body Tryz.f200))) (canon 0 [0,3]) (K0 k a0) n0 (mk 25 1 [(0,.int .i64 x0),(3,.ref 0)] [(0,.own false (.int .u8) x1)])
theorem s0 (n0:Nat):V0 k a0 (n0+1)=b0 k (V0 k a0 n0):=by kernel_rfl
theorem e0:V0 k a0=l0 k:=loop_eq rfl (s0 k a0) fun _=>rfl
end
theorem eq (k:Nat) (a0:Int):rn (E k) Tryz.f200 (C k) (a0,())=f k a0:=(show _=t k (V0 k a0 k) a0 by kernel_rfl).trans (by rw [e0];rfl)
theorem ctr (k:Nat):Cp 200 (C k):=rc rfl (D k) (by kernel_rfl) Tryz.func200 (by kernel_rfl) rfl fun ⟨a0,_⟩ r h=>(eq k a0).trans h
end spec_Var
namespace spec_Crc
def C (k:Nat):Cn:=⟨[.val .str],[(.int .i64)],true,false,fun x=>f k x.1⟩
def E (k:Nat):Env:=en [] [(3,[0,3,4]),(7,[0,3,4,5])] 0 [] k
section
variable (k:Nat) (a0:ByteArray)
def K0:Ex→St→Rs:=runK (E k) (eK (E k) Tryz.f202 (C k) (a0,())) [.blk 0,.code (at_ (bt 3 7) (body Tryz.f202))]
def B0 (n0:Nat):Ex→St→Rs:=lpK (E k) (at_ (bt 6 11) (body Tryz.f202)) 0 [0,3,4] (K0 k a0) n0
def K1 (n0:Nat):Ex→St→Rs:=runK (E k) (B0 k a0 n0) [.blk 2,.blk 1,.code (at_ (bt 8 203) (body Tryz.f202))]
def V0 (n0:Nat):T0:=fun x0 x1 x2=>loopN (exec (E k) (at_ (bt 6 11) (body Tryz.f202))) (canon 0 [0,3,4]) (K0 k a0) n0 (mk 33 0 [(0,.str x0),(3,.int .i64 x1),(4,.int .i64 x2)] [])
def V1 (n0 n1:Nat):T1:=fun x0 x1 x2 x3=>loopN (exec (E k) (at_ (bt 13 1611) (body Tryz.f202))) (canon 0 [0,3,4,5]) (K1 k a0 n0) n1 (mk 33 0 [(0,.str x0),(3,.int .i64 x1),(4,.int .i64 x2),(5,.int .i64 x3)] [])
theorem s0 (n0:Nat):V0 k a0 (n0+1)=b0 k (V1 k a0 n0 k) (V0 k a0 n0):=by kernel_rfl
theorem s1 (n0 n1:Nat):V1 k a0 n0 (n1+1)=b1 k (V0 k a0 n0) (V1 k a0 n0 n1):=by kernel_rfl
theorem e1 (n0:Nat):V1 k a0 n0=l1 k (V0 k a0 n0):=loop_eq rfl (s1 k a0 n0) fun _=>rfl
theorem e0 (n0:Nat):V0 k a0 n0=l0 k n0:=by
 induction n0 with
 | zero=>rfl
 | succ n0 ih =>
  have h:V0 k a0 (n0+1)=b0 k (V1 k a0 n0 k) (V0 k a0 n0):=s0 k a0 n0
  rw [h,e1,ih]
  rfl
end
theorem eq (k:Nat) (a0:ByteArray):rn (E k) Tryz.f202 (C k) (a0,())=f k a0:=(show _=t k (V0 k a0 k) a0 by kernel_rfl).trans (by rw [e0];rfl)
theorem ctr (k:Nat):Cp 202 (C k):=rc rfl [] (by kernel_rfl) Tryz.func202 (by kernel_rfl) rfl fun ⟨a0,_⟩ r h=>(eq k a0).trans h
end spec_Crc
namespace spec_Fixed
def C (k:Nat):Cn:=⟨[.val (.int .i64),.val (.int .i64)],[.str],true,false,fun x=>f k x.1 x.2.1⟩
def D (k:Nat):List Ce:=[q (spec_l1In.ctr k)]
def E (k:Nat):Env:=en (D k) [(5,[0,1,5,6])] 0 [] k
section
variable (k:Nat) (a0:Int) (a1:Int)
def K0:Ex→St→Rs:=runK (E k) (eK (E k) Tryz.f201 (C k) (a0,a1,())) [.blk 0,.code (at_ (bt 4 15) (body Tryz.f201))]
def V0 (n0:Nat):T0:=fun x0 x1 x2 x3=>loopN (exec (E k) (at_ (bt 7 23) (body Tryz.f201))) (canon 0 [0,1,5,6]) (K0 k a0 a1) n0 (mk 31 0 [(0,.int .i64 x0),(1,.int .i64 x1),(5,.str x2),(6,.int .i64 x3)] [])
theorem s0 (n0:Nat):V0 k a0 a1 (n0+1)=b0 k (V0 k a0 a1 n0):=by kernel_rfl
theorem e0:V0 k a0 a1=l0 k:=loop_eq rfl (s0 k a0 a1) fun _=>rfl
end
theorem eq (k:Nat) (a0:Int) (a1:Int):rn (E k) Tryz.f201 (C k) (a0,a1,())=f k a0 a1:=(show _=t k (V0 k a0 a1 k) a0 a1 by kernel_rfl).trans (by rw [e0];rfl)
theorem ctr (k:Nat):Cp 201 (C k):=rc rfl (D k) (by kernel_rfl) Tryz.func201 (by kernel_rfl) rfl fun ⟨a0,a1,_⟩ r h=>(eq k a0 a1).trans h
end spec_Fixed
namespace spec_Frame
def C (k:Nat):Cn:=⟨[.val .str],[.str],true,false,fun x=>f k x.1⟩
def D (k:Nat):List Ce:=[q (spec_Var.ctr k),q (spec_Crc.ctr k),q (spec_Fixed.ctr k)]
def E (k:Nat):Env:=en (D k) [] 0 [] k
theorem eq (k:Nat) (a0:ByteArray):rn (E k) Tryz.f152 (C k) (a0,())=f k a0:=by kernel_rfl
theorem ctr (k:Nat):Cp 152 (C k):=rc rfl (D k) (by kernel_rfl) Tryz.func152 (by kernel_rfl) rfl fun ⟨a0,_⟩ r h=>(eq k a0).trans h
end spec_Frame
namespace spec_ShowLive
def C (k:Nat):Cn:=⟨[.val TLive],[.str],true,false,fun x=>f k x.1⟩
def D (k:Nat):List Ce:=[q (spec_LiveOk.ctr k),q (spec_Var.ctr k),q (spec_Frame.ctr k)]
def E (k:Nat):Env:=en (D k) [(5,[1,3,4])] 0 [] k
section
variable (k:Nat) (a0:Ty.den TLive)
def K0:Ex→St→Rs:=runK (E k) (eK (E k) Tryz.f185 (C k) (a0,())) [.blk 0,.code (at_ (bt 4 15) (body Tryz.f185))]
def V0 (n0:Nat):T0:=fun x0 x1 x2 x3=>loopN (exec (E k) (at_ (bt 7 23) (body Tryz.f185))) (canon 0 [1,3,4]) (K0 k a0) n0 (mk 33 1 [(1,.ptr 0 0 0),(3,.str x0),(4,.int .i64 x1)] [(0,.box [.int .i64 x2,.sl true (.int .i64) x3])])
theorem s0 (n0:Nat):V0 k a0 (n0+1)=b0 k (V0 k a0 n0):=by kernel_rfl
theorem e0:V0 k a0=l0 k:=loop_eq rfl (s0 k a0) fun _=>rfl
end
theorem eq (k:Nat) (a0:Ty.den TLive):rn (E k) Tryz.f185 (C k) (a0,())=f k a0:=(show _=t k (V0 k a0 k) a0 by kernel_rfl).trans (by rw [e0];rfl)
theorem ctr (k:Nat):Cp 185 (C k):=rc rfl (D k) (by kernel_rfl) Tryz.func185 (by kernel_rfl) rfl fun ⟨a0,_⟩ r h=>(eq k a0).trans h
end spec_ShowLive
namespace spec_l11Fresh
def C (k:Nat):Cn:=⟨[.val TDisk,.val .str],[TDisk,(.int .i64)],true,false,fun x=>f k x.1 x.2.1⟩
def D (k:Nat):List Ce:=[q (spec_l3Find.ctr k),q (spec_Remove.ctr k),q (spec_Create.ctr k)]
def E (k:Nat):Env:=en (D k) [] 0 [] k
theorem eq (k:Nat) (a0:Ty.den TDisk) (a1:ByteArray):rn (E k) Tryz.f197 (C k) (a0,a1,())=f k a0 a1:=by kernel_rfl
theorem ctr (k:Nat):Cp 197 (C k):=rc rfl (D k) (by kernel_rfl) Tryz.func197 (by kernel_rfl) rfl fun ⟨a0,a1,_⟩ r h=>(eq k a0 a1).trans h
end spec_l11Fresh
namespace spec_Append
def C (k:Nat):Cn:=⟨[.val TDisk,.val .str,.val .str],[TDisk,(.int .i64)],true,false,fun x=>f k x.1 x.2.1 x.2.2.1⟩
def D (k:Nat):List Ce:=[q (spec_l3Begin.ctr k),q (spec_l3Find.ctr k),q (spec_l3Used.ctr k)]
def E (k:Nat):Env:=en (D k) [] 0 [] k
theorem eq (k:Nat) (a0:Ty.den TDisk) (a1:ByteArray) (a2:ByteArray):rn (E k) Tryz.f155 (C k) (a0,a1,a2,())=f k a0 a1 a2:=by kernel_rfl
theorem ctr (k:Nat):Cp 155 (C k):=rc rfl (D k) (by kernel_rfl) Tryz.func155 (by kernel_rfl) rfl fun ⟨a0,a1,a2,_⟩ r h=>(eq k a0 a1 a2).trans h
end spec_Append
namespace spec_Sync
def C (k:Nat):Cn:=⟨[.val TDisk,.val .str],[TDisk,(.int .i64)],true,false,fun x=>f k x.1 x.2.1⟩
def D (k:Nat):List Ce:=[q (spec_l3Begin.ctr k),q (spec_l3Find.ctr k)]
def E (k:Nat):Env:=en (D k) [] 0 [] k
theorem eq (k:Nat) (a0:Ty.den TDisk) (a1:ByteArray):rn (E k) Tryz.f105 (C k) (a0,a1,())=f k a0 a1:=by kernel_rfl
theorem ctr (k:Nat):Cp 105 (C k):=rc rfl (D k) (by kernel_rfl) Tryz.func105 (by kernel_rfl) rfl fun ⟨a0,a1,_⟩ r h=>(eq k a0 a1).trans h
end spec_Sync
namespace spec_l11File
def C (k:Nat):Cn:=⟨[.val TDisk,.val .str,.val .str],[TDisk,(.int .i64)],true,false,fun x=>f k x.1 x.2.1 x.2.2.1⟩
def D (k:Nat):List Ce:=[q (spec_l11Fresh.ctr k),q (spec_Append.ctr k),q (spec_Sync.ctr k)]
def E (k:Nat):Env:=en (D k) [] 0 [] k
theorem eq (k:Nat) (a0:Ty.den TDisk) (a1:ByteArray) (a2:ByteArray):rn (E k) Tryz.f198 (C k) (a0,a1,a2,())=f k a0 a1 a2:=by kernel_rfl
theorem ctr (k:Nat):Cp 198 (C k):=rc rfl (D k) (by kernel_rfl) Tryz.func198 (by kernel_rfl) rfl fun ⟨a0,a1,a2,_⟩ r h=>(eq k a0 a1 a2).trans h
end spec_l11File
namespace spec_Rename
def C (k:Nat):Cn:=⟨[.val TDisk,.val .str,.val .str],[TDisk,(.int .i64)],true,false,fun x=>f k x.1 x.2.1 x.2.2.1⟩
def D (k:Nat):List Ce:=[q (spec_l3Begin.ctr k),q (spec_NameOk.ctr k),q (spec_l3Find.ctr k),q (spec_l3Without.ctr k),q (spec_l3Insert.ctr k)]
def E (k:Nat):Env:=en (D k) [] 0 [] k
theorem eq (k:Nat) (a0:Ty.den TDisk) (a1:ByteArray) (a2:ByteArray):rn (E k) Tryz.f220 (C k) (a0,a1,a2,())=f k a0 a1 a2:=by kernel_rfl
theorem ctr (k:Nat):Cp 220 (C k):=rc rfl (D k) (by kernel_rfl) Tryz.func220 (by kernel_rfl) rfl fun ⟨a0,a1,a2,_⟩ r h=>(eq k a0 a1 a2).trans h
end spec_Rename
namespace spec_PutLive
def C (k:Nat):Cn:=⟨[.val TDisk,.val TLive],[TDisk,(.int .i64)],true,false,fun x=>f k x.1 x.2.1⟩
def D (k:Nat):List Ce:=[q (spec_DiskOk.ctr k),q (spec_l3Copy.ctr k),q (spec_LiveOk.ctr k),q (spec_ShowLive.ctr k),q (spec_l11File.ctr k),q (spec_Rename.ctr k),q (spec_l11Code.ctr k)]
def E (k:Nat):Env:=en (D k) [] 0 [] k
theorem eq (k:Nat) (a0:Ty.den TDisk) (a1:Ty.den TLive):rn (E k) Tryz.f184 (C k) (a0,a1,())=f k a0 a1:=by kernel_rfl
theorem ctr (k:Nat):Cp 184 (C k):=rc rfl (D k) (by kernel_rfl) Tryz.func184 (by kernel_rfl) rfl fun ⟨a0,a1,_⟩ r h=>(eq k a0 a1).trans h
end spec_PutLive
namespace spec_ReadVar
def C (k:Nat):Cn:=⟨[.val .str],[(.int .i64),(.int .i64)],true,false,fun x=>f k x.1⟩
def D (k:Nat):List Ce:=[q (spec_Var.ctr k)]
def E (k:Nat):Env:=en (D k) [(2,[0,4]),(6,[0,4,5,6])] 0 [] k
section
variable (k:Nat) (a0:ByteArray)
def K0:Ex→St→Rs:=runK (E k) (eK (E k) Tryz.f158 (C k) (a0,())) [.blk 0,.code (at_ (bt 2 3) (body Tryz.f158))]
def B0 (n0:Nat):Ex→St→Rs:=lpK (E k) (at_ (bt 5 5) (body Tryz.f158)) 0 [0,4] (K0 k a0) n0
def K1 (n0:Nat):Ex→St→Rs:=runK (E k) (B0 k a0 n0) [.blk 2,.code (at_ (bt 10 805) (body Tryz.f158)),.blk 1,.code (at_ (bt 7 101) (body Tryz.f158))]
def V0 (n0:Nat):T0:=fun x0 x1=>loopN (exec (E k) (at_ (bt 5 5) (body Tryz.f158))) (canon 0 [0,4]) (K0 k a0) n0 (mk 39 0 [(0,.str x0),(4,.int .i64 x1)] [])
def V1 (n0 n1:Nat):T1:=fun x0 x1 x2 x3=>loopN (exec (E k) (at_ (bt 13 1317) (body Tryz.f158))) (canon 0 [0,4,5,6]) (K1 k a0 n0) n1 (mk 39 0 [(0,.str x0),(4,.int .i64 x1),(5,.int .i64 x2),(6,.int .i64 x3)] [])
theorem s0 (n0:Nat):V0 k a0 (n0+1)=b0 k (V1 k a0 n0 k) (V0 k a0 n0):=by kernel_rfl
theorem s1 (n0 n1:Nat):V1 k a0 n0 (n1+1)=b1 k (V0 k a0 n0) (V1 k a0 n0 n1):=by kernel_rfl
theorem e1 (n0:Nat):V1 k a0 n0=l1 k (V0 k a0 n0):=loop_eq rfl (s1 k a0 n0) fun _=>rfl
theorem e0 (n0:Nat):V0 k a0 n0=l0 k n0:=by
 induction n0 with
 | zero=>rfl
 | succ n0 ih =>
  have h:V0 k a0 (n0+1)=b0 k (V1 k a0 n0 k) (V0 k a0 n0):=s0 k a0 n0
  rw [h,e1,ih]
  rfl
end
theorem eq (k:Nat) (a0:ByteArray):rn (E k) Tryz.f158 (C k) (a0,())=f k a0:=(show _=t k (V0 k a0 k) a0 by kernel_rfl).trans (by rw [e0];rfl)
theorem ctr (k:Nat):Cp 158 (C k):=rc rfl (D k) (by kernel_rfl) Tryz.func158 (by kernel_rfl) rfl fun ⟨a0,_⟩ r h=>(eq k a0).trans h
end spec_ReadVar
namespace spec_Unframe
def C (k:Nat):Cn:=⟨[.val .str],[.str,(.int .i64)],true,false,fun x=>f k x.1⟩
def D (k:Nat):List Ce:=[q (spec_ReadVar.ctr k),q (spec_Frame.ctr k)]
def E (k:Nat):Env:=en (D k) [] 0 [] k
theorem eq (k:Nat) (a0:ByteArray):rn (E k) Tryz.f109 (C k) (a0,())=f k a0:=by kernel_rfl
theorem ctr (k:Nat):Cp 109 (C k):=rc rfl (D k) (by kernel_rfl) Tryz.func109 (by kernel_rfl) rfl fun ⟨a0,_⟩ r h=>(eq k a0).trans h
end spec_Unframe
namespace spec_ReadLive
def C (k:Nat):Cn:=⟨[.val .str],[TLive,.bool],true,false,fun x=>f k x.1⟩
def D (k:Nat):List Ce:=[q (spec_Unframe.ctr k),q (spec_ReadVar.ctr k),q (spec_ShowLive.ctr k)]
def E (k:Nat):Env:=en (D k) [(9,[0,2,4,8,10,11,12])] 0 [] k
section
variable (k:Nat) (a0:ByteArray)
def K0:Ex→St→Rs:=runK (E k) (eK (E k) Tryz.f140 (C k) (a0,())) [.blk 0,.code (at_ (bt 8 255) (body Tryz.f140))]
def V0 (n0:Nat):T0:=fun x0 x1 x2 x3 x4 x5 x6 x7 x8=>loopN (exec (E k) (at_ (bt 11 383) (body Tryz.f140))) (canon 0 [0,2,4,8,10,11,12]) (K0 k a0) n0 (mk 81 4 [(0,.str x0),(2,.ptr 0 0 0),(4,.str x1),(8,.int .i64 x2),(10,.ptr 2 0 0),(11,.int .i64 x3),(12,.int .i64 x4)] [(1,.own false (.int .i64) x5),(0,.box [.int .i64 x6,.ref 1]),(3,.own false (.int .i64) x7),(2,.box [.int .i64 x8,.ref 3])])
theorem s0 (n0:Nat):V0 k a0 (n0+1)=b0 k (V0 k a0 n0):=by kernel_rfl
theorem e0:V0 k a0=l0 k:=loop_eq rfl (s0 k a0) fun _=>rfl
end
theorem eq (k:Nat) (a0:ByteArray):rn (E k) Tryz.f140 (C k) (a0,())=f k a0:=(show _=t k (V0 k a0 k) a0 by kernel_rfl).trans (by rw [e0];rfl)
theorem ctr (k:Nat):Cp 140 (C k):=rc rfl (D k) (by kernel_rfl) Tryz.func140 (by kernel_rfl) rfl fun ⟨a0,_⟩ r h=>(eq k a0).trans h
end spec_ReadLive
namespace spec_l5Text
def C (k:Nat):Cn:=⟨[.val .str],[.str,.str,.bool],true,false,fun x=>f k x.1⟩
def D (k:Nat):List Ce:=[q (spec_ReadVar.ctr k)]
def E (k:Nat):Env:=en (D k) [] 0 [] k
theorem eq (k:Nat) (a0:ByteArray):rn (E k) Tryz.f159 (C k) (a0,())=f k a0:=by kernel_rfl
theorem ctr (k:Nat):Cp 159 (C k):=rc rfl (D k) (by kernel_rfl) Tryz.func159 (by kernel_rfl) rfl fun ⟨a0,_⟩ r h=>(eq k a0).trans h
end spec_l5Text
namespace spec_KeyOk
def C (k:Nat):Cn:=⟨[.val .str],[.bool],true,false,fun x=>f k x.1⟩
def D (k:Nat):List Ce:=[q (spec_l1In.ctr k)]
def E (k:Nat):Env:=en (D k) [] 0 [] k
theorem eq (k:Nat) (a0:ByteArray):rn (E k) Tryz.f31 (C k) (a0,())=f k a0:=by kernel_rfl
theorem ctr (k:Nat):Cp 31 (C k):=rc rfl (D k) (by kernel_rfl) Tryz.func31 (by kernel_rfl) rfl fun ⟨a0,_⟩ r h=>(eq k a0).trans h
end spec_KeyOk
namespace spec_RecOk
def C (k:Nat):Cn:=⟨[.val TRec],[.bool],true,false,fun x=>f k x.1⟩
def D (k:Nat):List Ce:=[q (spec_l1In.ctr k),q (spec_KeyOk.ctr k)]
def E (k:Nat):Env:=en (D k) [] 0 [] k
theorem eq (k:Nat) (a0:Ty.den TRec):rn (E k) Tryz.f203 (C k) (a0,())=f k a0:=by kernel_rfl
theorem ctr (k:Nat):Cp 203 (C k):=rc rfl (D k) (by kernel_rfl) Tryz.func203 (by kernel_rfl) rfl fun ⟨a0,_⟩ r h=>(eq k a0).trans h
end spec_RecOk
namespace spec_ShowRec
def C (k:Nat):Cn:=⟨[.val TRec],[.str],true,false,fun x=>f k x.1⟩
def D (k:Nat):List Ce:=[q (spec_RecOk.ctr k),q (spec_Var.ctr k),q (spec_Fixed.ctr k)]
def E (k:Nat):Env:=en (D k) [] 0 [] k
theorem eq (k:Nat) (a0:Ty.den TRec):rn (E k) Tryz.f153 (C k) (a0,())=f k a0:=by kernel_rfl
theorem ctr (k:Nat):Cp 153 (C k):=rc rfl (D k) (by kernel_rfl) Tryz.func153 (by kernel_rfl) rfl fun ⟨a0,_⟩ r h=>(eq k a0).trans h
end spec_ShowRec
namespace spec_ReadFixed
def C (k:Nat):Cn:=⟨[.val .str,.val (.int .i64)],[(.int .i64),.bool],true,false,fun x=>f k x.1 x.2.1⟩
def D (k:Nat):List Ce:=[q (spec_l1In.ctr k)]
def E (k:Nat):Env:=en (D k) [(5,[0,1,6,7])] 0 [] k
section
variable (k:Nat) (a0:ByteArray) (a1:Int)
def K0:Ex→St→Rs:=runK (E k) (eK (E k) Tryz.f160 (C k) (a0,a1,())) [.blk 0,.code (at_ (bt 4 15) (body Tryz.f160))]
def V0 (n0:Nat):T0:=fun x0 x1 x2 x3=>loopN (exec (E k) (at_ (bt 7 23) (body Tryz.f160))) (canon 0 [0,1,6,7]) (K0 k a0 a1) n0 (mk 30 0 [(0,.str x0),(1,.int .i64 x1),(6,.int .i64 x2),(7,.int .i64 x3)] [])
theorem s0 (n0:Nat):V0 k a0 a1 (n0+1)=b0 k (V0 k a0 a1 n0):=by kernel_rfl
theorem e0:V0 k a0 a1=l0 k:=loop_eq rfl (s0 k a0 a1) fun _=>rfl
end
theorem eq (k:Nat) (a0:ByteArray) (a1:Int):rn (E k) Tryz.f160 (C k) (a0,a1,())=f k a0 a1:=(show _=t k (V0 k a0 a1 k) a0 a1 by kernel_rfl).trans (by rw [e0];rfl)
theorem ctr (k:Nat):Cp 160 (C k):=rc rfl (D k) (by kernel_rfl) Tryz.func160 (by kernel_rfl) rfl fun ⟨a0,a1,_⟩ r h=>(eq k a0 a1).trans h
end spec_ReadFixed
namespace spec_ReadRec
def C (k:Nat):Cn:=⟨[.val .str],[TRec,.bool],true,false,fun x=>f k x.1⟩
def D (k:Nat):List Ce:=[q (spec_ReadVar.ctr k),q (spec_l5Text.ctr k),q (spec_ShowRec.ctr k),q (spec_ReadFixed.ctr k)]
def E (k:Nat):Env:=en (D k) [] 0 [] k
theorem eq (k:Nat) (a0:ByteArray):rn (E k) Tryz.f110 (C k) (a0,())=f k a0:=by kernel_rfl
theorem ctr (k:Nat):Cp 110 (C k):=rc rfl (D k) (by kernel_rfl) Tryz.func110 (by kernel_rfl) rfl fun ⟨a0,_⟩ r h=>(eq k a0).trans h
end spec_ReadRec
namespace spec_ScanRecs
def C (k:Nat):Cn:=⟨[.val .str],[(.slice TSpot),(.int .i64)],true,false,fun x=>f k x.1⟩
def D (k:Nat):List Ce:=[q (spec_Unframe.ctr k),q (spec_ReadRec.ctr k)]
def E (k:Nat):Env:=en (D k) [(3,[0,4,5])] 0 [] k
section
variable (k:Nat) (a0:ByteArray)
def K0:Ex→St→Rs:=runK (E k) (eK (E k) Tryz.f99 (C k) (a0,())) [.blk 0,.code (at_ (bt 4 15) (body Tryz.f99))]
def V0 (n0:Nat):T0:=fun x0 x1 x2=>loopN (exec (E k) (at_ (bt 6 7) (body Tryz.f99))) (canon 0 [0,4,5]) (K0 k a0) n0 (mk 47 1 [(0,.str x0),(4,.ref 0),(5,.int .i64 x1)] [(0,.own false TSpot x2)])
theorem s0 (n0:Nat):V0 k a0 (n0+1)=b0 k (V0 k a0 n0):=by kernel_rfl
theorem e0:V0 k a0=l0 k:=loop_eq rfl (s0 k a0) fun _=>rfl
end
theorem eq (k:Nat) (a0:ByteArray):rn (E k) Tryz.f99 (C k) (a0,())=f k a0:=(show _=t k (V0 k a0 k) a0 by kernel_rfl).trans (by rw [e0];rfl)
theorem ctr (k:Nat):Cp 99 (C k):=rc rfl (D k) (by kernel_rfl) Tryz.func99 (by kernel_rfl) rfl fun ⟨a0,_⟩ r h=>(eq k a0).trans h
end spec_ScanRecs
namespace spec_Truncate
def C (k:Nat):Cn:=⟨[.val TDisk,.val .str,.val (.int .i64)],[TDisk,(.int .i64)],true,false,fun x=>f k x.1 x.2.1 x.2.2.1⟩
def D (k:Nat):List Ce:=[q (spec_l3Begin.ctr k),q (spec_l3Find.ctr k),q (spec_l1In.ctr k)]
def E (k:Nat):Env:=en (D k) [] 0 [] k
theorem eq (k:Nat) (a0:Ty.den TDisk) (a1:ByteArray) (a2:Int):rn (E k) Tryz.f141 (C k) (a0,a1,a2,())=f k a0 a1 a2:=by kernel_rfl
theorem ctr (k:Nat):Cp 141 (C k):=rc rfl (D k) (by kernel_rfl) Tryz.func141 (by kernel_rfl) rfl fun ⟨a0,a1,a2,_⟩ r h=>(eq k a0 a1 a2).trans h
end spec_Truncate
namespace spec_l10Vars
def C (k:Nat):Cn:=⟨[.val .str,.val (.int .i64),.val (.int .i64)],[(.slice (.int .i64)),(.int .i64)],true,false,fun x=>f k x.1 x.2.1 x.2.2.1⟩
def D (k:Nat):List Ce:=[q (spec_ReadVar.ctr k)]
def E (k:Nat):Env:=en (D k) [(3,[0,1,2,8,9])] 0 [] k
section
variable (k:Nat) (a0:ByteArray) (a1:Int) (a2:Int)
def K0:Ex→St→Rs:=runK (E k) (eK (E k) Tryz.f186 (C k) (a0,a1,a2,())) [.blk 0,.code (at_ (bt 3 7) (body Tryz.f186))]
def V0 (n0:Nat):T0:=fun x0 x1 x2 x3 x4=>loopN (exec (E k) (at_ (bt 6 11) (body Tryz.f186))) (canon 0 [0,1,2,8,9]) (K0 k a0 a1 a2) n0 (mk 38 1 [(0,.str x0),(1,.int .i64 x1),(2,.int .i64 x2),(8,.ref 0),(9,.int .i64 x3)] [(0,.own false (.int .i64) x4)])
theorem s0 (n0:Nat):V0 k a0 a1 a2 (n0+1)=b0 k (V0 k a0 a1 a2 n0):=by kernel_rfl
theorem e0:V0 k a0 a1 a2=l0 k:=loop_eq rfl (s0 k a0 a1 a2) fun _=>rfl
end
theorem eq (k:Nat) (a0:ByteArray) (a1:Int) (a2:Int):rn (E k) Tryz.f186 (C k) (a0,a1,a2,())=f k a0 a1 a2:=(show _=t k (V0 k a0 a1 a2 k) a0 a1 a2 by kernel_rfl).trans (by rw [e0];rfl)
theorem ctr (k:Nat):Cp 186 (C k):=rc rfl (D k) (by kernel_rfl) Tryz.func186 (by kernel_rfl) rfl fun ⟨a0,a1,a2,_⟩ r h=>(eq k a0 a1 a2).trans h
end spec_l10Vars
namespace spec_DirOk
def C (k:Nat):Cn:=⟨[.val (.slice TEntry)],[.bool],true,false,fun x=>f k x.1⟩
def D (k:Nat):List Ce:=[q (spec_KeyOk.ctr k),q (spec_l1In.ctr k)]
def E (k:Nat):Env:=en (D k) [(4,[0,3])] 0 [] k
section
variable (k:Nat) (a0:List (Ty.den TEntry))
def K0:Ex→St→Rs:=runK (E k) (eK (E k) Tryz.f98 (C k) (a0,())) [.blk 0,.code (at_ (bt 3 7) (body Tryz.f98))]
def V0 (n0:Nat):T0:=fun x0 x1=>loopN (exec (E k) (at_ (bt 6 11) (body Tryz.f98))) (canon 0 [0,3]) (K0 k a0) n0 (mk 60 0 [(0,.sl true TEntry x0),(3,.int .i64 x1)] [])
theorem s0 (n0:Nat):V0 k a0 (n0+1)=b0 k (V0 k a0 n0):=by kernel_rfl
theorem e0:V0 k a0=l0 k:=loop_eq rfl (s0 k a0) fun _=>rfl
end
theorem eq (k:Nat) (a0:List (Ty.den TEntry)):rn (E k) Tryz.f98 (C k) (a0,())=f k a0:=(show _=t k (V0 k a0 k) a0 by kernel_rfl).trans (by rw [e0];rfl)
theorem ctr (k:Nat):Cp 98 (C k):=rc rfl (D k) (by kernel_rfl) Tryz.func98 (by kernel_rfl) rfl fun ⟨a0,_⟩ r h=>(eq k a0).trans h
end spec_DirOk
namespace spec_l10Ok
def C (k:Nat):Cn:=⟨[.val THint],[.bool],true,false,fun x=>f k x.1⟩
def D (k:Nat):List Ce:=[q (spec_l1In.ctr k),q (spec_DirOk.ctr k)]
def E (k:Nat):Env:=en (D k) [(4,[1,3])] 0 [] k
section
variable (k:Nat) (a0:Ty.den THint)
def K0:Ex→St→Rs:=runK (E k) (eK (E k) Tryz.f221 (C k) (a0,())) [.blk 0,.code (at_ (bt 3 7) (body Tryz.f221))]
def V0 (n0:Nat):T0:=fun x0 x1 x2 x3=>loopN (exec (E k) (at_ (bt 6 11) (body Tryz.f221))) (canon 0 [1,3]) (K0 k a0) n0 (mk 48 1 [(1,.ptr 0 0 0),(3,.int .i64 x0)] [(0,.box [.int .i64 x1,.int .i64 x2,.sl true TEntry x3])])
theorem s0 (n0:Nat):V0 k a0 (n0+1)=b0 k (V0 k a0 n0):=by kernel_rfl
theorem e0:V0 k a0=l0 k:=loop_eq rfl (s0 k a0) fun _=>rfl
end
theorem eq (k:Nat) (a0:Ty.den THint):rn (E k) Tryz.f221 (C k) (a0,())=f k a0:=(show _=t k (V0 k a0 k) a0 by kernel_rfl).trans (by rw [e0];rfl)
theorem ctr (k:Nat):Cp 221 (C k):=rc rfl (D k) (by kernel_rfl) Tryz.func221 (by kernel_rfl) rfl fun ⟨a0,_⟩ r h=>(eq k a0).trans h
end spec_l10Ok
namespace spec_ShowHint
def C (k:Nat):Cn:=⟨[.val THint],[.str],true,false,fun x=>f k x.1⟩
def D (k:Nat):List Ce:=[q (spec_l10Ok.ctr k),q (spec_Var.ctr k),q (spec_Crc.ctr k),q (spec_Fixed.ctr k)]
def E (k:Nat):Env:=en (D k) [(5,[1,3,4])] 0 [] k
section
variable (k:Nat) (a0:Ty.den THint)
def K0:Ex→St→Rs:=runK (E k) (eK (E k) Tryz.f187 (C k) (a0,())) [.blk 0,.code (at_ (bt 4 15) (body Tryz.f187))]
def V0 (n0:Nat):T0:=fun x0 x1 x2 x3 x4=>loopN (exec (E k) (at_ (bt 7 23) (body Tryz.f187))) (canon 0 [1,3,4]) (K0 k a0) n0 (mk 63 1 [(1,.ptr 0 0 0),(3,.str x0),(4,.int .i64 x1)] [(0,.box [.int .i64 x2,.int .i64 x3,.sl true TEntry x4])])
theorem s0 (n0:Nat):V0 k a0 (n0+1)=b0 k (V0 k a0 n0):=by kernel_rfl
theorem e0:V0 k a0=l0 k:=loop_eq rfl (s0 k a0) fun _=>rfl
end
theorem eq (k:Nat) (a0:Ty.den THint):rn (E k) Tryz.f187 (C k) (a0,())=f k a0:=(show _=t k (V0 k a0 k) a0 by kernel_rfl).trans (by rw [e0];rfl)
theorem ctr (k:Nat):Cp 187 (C k):=rc rfl (D k) (by kernel_rfl) Tryz.func187 (by kernel_rfl) rfl fun ⟨a0,_⟩ r h=>(eq k a0).trans h
end spec_ShowHint
namespace spec_ReadHint
def C (k:Nat):Cn:=⟨[.val .str],[THint,.bool],true,false,fun x=>f k x.1⟩
def D (k:Nat):List Ce:=[q (spec_l10Vars.ctr k),q (spec_l5Text.ctr k),q (spec_ShowHint.ctr k)]
def E (k:Nat):Env:=en (D k) [(8,[0,2,4,5,6,7])] 0 [] k
section
variable (k:Nat) (a0:ByteArray)
def K0:Ex→St→Rs:=runK (E k) (eK (E k) Tryz.f143 (C k) (a0,())) [.blk 0,.code (at_ (bt 6 63) (body Tryz.f143))]
def V0 (n0:Nat):T0:=fun x0 x1 x2 x3 x4 x5 x6 x7 x8 x9=>loopN (exec (E k) (at_ (bt 9 95) (body Tryz.f143))) (canon 0 [0,2,4,5,6,7]) (K0 k a0) n0 (mk 97 5 [(0,.str x0),(2,.ptr 0 0 0),(4,.ref 2),(5,.int .i64 x1),(6,.ptr 3 0 0),(7,.int .i64 x2)] [(1,.own false TEntry x3),(0,.box [.int .i64 x4,.int .i64 x5,.ref 1]),(2,.own false (.int .i64) x6),(4,.own false TEntry x7),(3,.box [.int .i64 x8,.int .i64 x9,.ref 4])])
theorem s0 (n0:Nat):V0 k a0 (n0+1)=b0 k (V0 k a0 n0):=by kernel_rfl
theorem e0:V0 k a0=l0 k:=loop_eq rfl (s0 k a0) fun _=>rfl
end
theorem eq (k:Nat) (a0:ByteArray):rn (E k) Tryz.f143 (C k) (a0,())=f k a0:=(show _=t k (V0 k a0 k) a0 by kernel_rfl).trans (by rw [e0];rfl)
theorem ctr (k:Nat):Cp 143 (C k):=rc rfl (D k) (by kernel_rfl) Tryz.func143 (by kernel_rfl) rfl fun ⟨a0,_⟩ r h=>(eq k a0).trans h
end spec_ReadHint
namespace spec_SumOf
def C (k:Nat):Cn:=⟨[.val (.slice TRec)],[(.int .i64)],true,false,fun x=>f k x.1⟩
def D (k:Nat):List Ce:=[q (spec_ShowRec.ctr k),q (spec_Crc.ctr k)]
def E (k:Nat):Env:=en (D k) [(3,[0,3,4])] 0 [] k
section
variable (k:Nat) (a0:List (Ty.den TRec))
def K0:Ex→St→Rs:=runK (E k) (eK (E k) Tryz.f156 (C k) (a0,())) [.blk 0,.code (at_ (bt 3 7) (body Tryz.f156))]
def V0 (n0:Nat):T0:=fun x0 x1 x2=>loopN (exec (E k) (at_ (bt 6 11) (body Tryz.f156))) (canon 0 [0,3,4]) (K0 k a0) n0 (mk 20 0 [(0,.sl true TRec x0),(3,.str x1),(4,.int .i64 x2)] [])
theorem s0 (n0:Nat):V0 k a0 (n0+1)=b0 k (V0 k a0 n0):=by kernel_rfl
theorem e0:V0 k a0=l0 k:=loop_eq rfl (s0 k a0) fun _=>rfl
end
theorem eq (k:Nat) (a0:List (Ty.den TRec)):rn (E k) Tryz.f156 (C k) (a0,())=f k a0:=(show _=t k (V0 k a0 k) a0 by kernel_rfl).trans (by rw [e0];rfl)
theorem ctr (k:Nat):Cp 156 (C k):=rc rfl (D k) (by kernel_rfl) Tryz.func156 (by kernel_rfl) rfl fun ⟨a0,_⟩ r h=>(eq k a0).trans h
end spec_SumOf
namespace spec_HintOf
def C (k:Nat):Cn:=⟨[.val (.int .i64),.val .str],[THint,.bool],true,false,fun x=>f k x.1 x.2.1⟩
def D (k:Nat):List Ce:=[q (spec_ScanRecs.ctr k),q (spec_SegName.ctr k),q (spec_SumOf.ctr k)]
def E (k:Nat):Env:=en (D k) [(7,[0,4,6,8,9,10])] 0 [] k
section
variable (k:Nat) (a0:Int) (a1:ByteArray)
def K0:Ex→St→Rs:=runK (E k) (eK (E k) Tryz.f188 (C k) (a0,a1,())) [.blk 0,.code (at_ (bt 6 63) (body Tryz.f188))]
def V0 (n0:Nat):T0:=fun x0 x1 x2 x3 x4 x5 x6 x7 x8 x9=>loopN (exec (E k) (at_ (bt 9 95) (body Tryz.f188))) (canon 0 [0,4,6,8,9,10]) (K0 k a0 a1) n0 (mk 141 6 [(0,.int .i64 x0),(4,.ptr 0 0 0),(6,.ref 2),(8,.ptr 3 0 0),(9,.ref 5),(10,.int .i64 x1)] [(1,.own false TEntry x2),(0,.box [.int .i64 x3,.int .i64 x4,.ref 1]),(2,.own false TSpot x5),(4,.own false TEntry x6),(3,.box [.int .i64 x7,.int .i64 x8,.ref 4]),(5,.own false TRec x9)])
theorem s0 (n0:Nat):V0 k a0 a1 (n0+1)=b0 k (V0 k a0 a1 n0):=by kernel_rfl
theorem e0:V0 k a0 a1=l0 k:=loop_eq rfl (s0 k a0 a1) fun _=>rfl
end
theorem eq (k:Nat) (a0:Int) (a1:ByteArray):rn (E k) Tryz.f188 (C k) (a0,a1,())=f k a0 a1:=(show _=t k (V0 k a0 a1 k) a0 a1 by kernel_rfl).trans (by rw [e0];rfl)
theorem ctr (k:Nat):Cp 188 (C k):=rc rfl (D k) (by kernel_rfl) Tryz.func188 (by kernel_rfl) rfl fun ⟨a0,a1,_⟩ r h=>(eq k a0 a1).trans h
end spec_HintOf
namespace spec_SameDir
def C (k:Nat):Cn:=⟨[.val (.slice TEntry),.val (.slice TEntry)],[.bool],true,false,fun x=>f k x.1 x.2.1⟩
def E (k:Nat):Env:=en [] [(4,[0,1,5])] 0 [] k
section
variable (k:Nat) (a0:List (Ty.den TEntry)) (a1:List (Ty.den TEntry))
def K0:Ex→St→Rs:=runK (E k) (eK (E k) Tryz.f189 (C k) (a0,a1,())) [.blk 0,.code (at_ (bt 3 7) (body Tryz.f189))]
def V0 (n0:Nat):T0:=fun x0 x1 x2=>loopN (exec (E k) (at_ (bt 6 11) (body Tryz.f189))) (canon 0 [0,1,5]) (K0 k a0 a1) n0 (mk 26 0 [(0,.sl true TEntry x0),(1,.sl true TEntry x1),(5,.int .i64 x2)] [])
theorem s0 (n0:Nat):V0 k a0 a1 (n0+1)=b0 k (V0 k a0 a1 n0):=by kernel_rfl
theorem e0:V0 k a0 a1=l0 k:=loop_eq rfl (s0 k a0 a1) fun _=>rfl
end
theorem eq (k:Nat) (a0:List (Ty.den TEntry)) (a1:List (Ty.den TEntry)):rn (E k) Tryz.f189 (C k) (a0,a1,())=f k a0 a1:=(show _=t k (V0 k a0 a1 k) a0 a1 by kernel_rfl).trans (by rw [e0];rfl)
theorem ctr (k:Nat):Cp 189 (C k):=rc rfl [] (by kernel_rfl) Tryz.func189 (by kernel_rfl) rfl fun ⟨a0,a1,_⟩ r h=>(eq k a0 a1).trans h
end spec_SameDir
namespace spec_HintFits
def C (k:Nat):Cn:=⟨[.val (.int .i64),.val .str,.val THint],[.bool],true,false,fun x=>f k x.1 x.2.1 x.2.2.1⟩
def D (k:Nat):List Ce:=[q (spec_HintOf.ctr k),q (spec_SameDir.ctr k)]
def E (k:Nat):Env:=en (D k) [] 0 [] k
theorem eq (k:Nat) (a0:Int) (a1:ByteArray) (a2:Ty.den THint):rn (E k) Tryz.f144 (C k) (a0,a1,a2,())=f k a0 a1 a2:=by kernel_rfl
theorem ctr (k:Nat):Cp 144 (C k):=rc rfl (D k) (by kernel_rfl) Tryz.func144 (by kernel_rfl) rfl fun ⟨a0,a1,a2,_⟩ r h=>(eq k a0 a1 a2).trans h
end spec_HintFits
namespace spec_l11Places
def C (k:Nat):Cn:=⟨[.val (.int .i64),.val .str],[(.slice TPlace)],true,false,fun x=>f k x.1 x.2.1⟩
def D (k:Nat):List Ce:=[q (spec_ScanRecs.ctr k)]
def E (k:Nat):Env:=en (D k) [(4,[0,5,6,8])] 0 [] k
section
variable (k:Nat) (a0:Int) (a1:ByteArray)
def K0:Ex→St→Rs:=runK (E k) (eK (E k) Tryz.f145 (C k) (a0,a1,())) [.blk 0,.code (at_ (bt 4 15) (body Tryz.f145))]
def V0 (n0:Nat):T0:=fun x0 x1 x2 x3=>loopN (exec (E k) (at_ (bt 7 23) (body Tryz.f145))) (canon 0 [0,5,6,8]) (K0 k a0 a1) n0 (mk 42 2 [(0,.int .i64 x0),(5,.ref 0),(6,.ref 1),(8,.int .i64 x1)] [(0,.own false TPlace x2),(1,.own false TSpot x3)])
theorem s0 (n0:Nat):V0 k a0 a1 (n0+1)=b0 k (V0 k a0 a1 n0):=by kernel_rfl
theorem e0:V0 k a0 a1=l0 k:=loop_eq rfl (s0 k a0 a1) fun _=>rfl
end
theorem eq (k:Nat) (a0:Int) (a1:ByteArray):rn (E k) Tryz.f145 (C k) (a0,a1,())=f k a0 a1:=(show _=t k (V0 k a0 a1 k) a0 a1 by kernel_rfl).trans (by rw [e0];rfl)
theorem ctr (k:Nat):Cp 145 (C k):=rc rfl (D k) (by kernel_rfl) Tryz.func145 (by kernel_rfl) rfl fun ⟨a0,a1,_⟩ r h=>(eq k a0 a1).trans h
end spec_l11Places
namespace spec_l9Of
def C (k:Nat):Cn:=⟨[.val (.slice TPlace),.val (.int .i64),.val (.int .i64)],[(.slice TPlace)],true,false,fun x=>f k x.1 x.2.1 x.2.2.1⟩
def E (k:Nat):Env:=en [] [(3,[0,1,2,7,8])] 0 [] k
section
variable (k:Nat) (a0:List (Ty.den TPlace)) (a1:Int) (a2:Int)
def K0:Ex→St→Rs:=runK (E k) (eK (E k) Tryz.f190 (C k) (a0,a1,a2,())) [.blk 0,.code (at_ (bt 3 7) (body Tryz.f190))]
def V0 (n0:Nat):T0:=fun x0 x1 x2 x3 x4=>loopN (exec (E k) (at_ (bt 6 11) (body Tryz.f190))) (canon 0 [0,1,2,7,8]) (K0 k a0 a1 a2) n0 (mk 53 1 [(0,.sl true TPlace x0),(1,.int .i64 x1),(2,.int .i64 x2),(7,.ref 0),(8,.int .i64 x3)] [(0,.own false TPlace x4)])
theorem s0 (n0:Nat):V0 k a0 a1 a2 (n0+1)=b0 k (V0 k a0 a1 a2 n0):=by kernel_rfl
theorem e0:V0 k a0 a1 a2=l0 k:=loop_eq rfl (s0 k a0 a1 a2) fun _=>rfl
end
theorem eq (k:Nat) (a0:List (Ty.den TPlace)) (a1:Int) (a2:Int):rn (E k) Tryz.f190 (C k) (a0,a1,a2,())=f k a0 a1 a2:=(show _=t k (V0 k a0 a1 a2 k) a0 a1 a2 by kernel_rfl).trans (by rw [e0];rfl)
theorem ctr (k:Nat):Cp 190 (C k):=rc rfl [] (by kernel_rfl) Tryz.func190 (by kernel_rfl) rfl fun ⟨a0,a1,a2,_⟩ r h=>(eq k a0 a1 a2).trans h
end spec_l9Of
namespace spec_l9Recs
def C (k:Nat):Cn:=⟨[.val (.slice TPlace)],[(.slice TRec)],true,false,fun x=>f k x.1⟩
def E (k:Nat):Env:=en [] [(3,[0,3,4])] 0 [] k
section
variable (k:Nat) (a0:List (Ty.den TPlace))
def K0:Ex→St→Rs:=runK (E k) (eK (E k) Tryz.f222 (C k) (a0,())) [.blk 0,.code (at_ (bt 3 7) (body Tryz.f222))]
def V0 (n0:Nat):T0:=fun x0 x1 x2=>loopN (exec (E k) (at_ (bt 6 11) (body Tryz.f222))) (canon 0 [0,3,4]) (K0 k a0) n0 (mk 21 1 [(0,.sl true TPlace x0),(3,.ref 0),(4,.int .i64 x1)] [(0,.own false TRec x2)])
theorem s0 (n0:Nat):V0 k a0 (n0+1)=b0 k (V0 k a0 n0):=by kernel_rfl
theorem e0:V0 k a0=l0 k:=loop_eq rfl (s0 k a0) fun _=>rfl
end
theorem eq (k:Nat) (a0:List (Ty.den TPlace)):rn (E k) Tryz.f222 (C k) (a0,())=f k a0:=(show _=t k (V0 k a0 k) a0 by kernel_rfl).trans (by rw [e0];rfl)
theorem ctr (k:Nat):Cp 222 (C k):=rc rfl [] (by kernel_rfl) Tryz.func222 (by kernel_rfl) rfl fun ⟨a0,_⟩ r h=>(eq k a0).trans h
end spec_l9Recs
namespace spec_l9Fits
def C (k:Nat):Cn:=⟨[.val TRec,.val (.slice TPlace)],[.bool],true,false,fun x=>f k x.1 x.2.1⟩
def D (k:Nat):List Ce:=[q (spec_l9Recs.ctr k),q (spec_SumOf.ctr k)]
def E (k:Nat):Env:=en (D k) [] 0 [] k
theorem eq (k:Nat) (a0:Ty.den TRec) (a1:List (Ty.den TPlace)):rn (E k) Tryz.f191 (C k) (a0,a1,())=f k a0 a1:=by kernel_rfl
theorem ctr (k:Nat):Cp 191 (C k):=rc rfl (D k) (by kernel_rfl) Tryz.func191 (by kernel_rfl) rfl fun ⟨a0,a1,_⟩ r h=>(eq k a0 a1).trans h
end spec_l9Fits
namespace spec_DirDrop
def C (k:Nat):Cn:=⟨[.val (.slice TEntry),.val .str],[(.slice TEntry)],true,false,fun x=>f k x.1 x.2.1⟩
def E (k:Nat):Env:=en [] [(3,[0,1,5,6])] 0 [] k
section
variable (k:Nat) (a0:List (Ty.den TEntry)) (a1:ByteArray)
def K0:Ex→St→Rs:=runK (E k) (eK (E k) Tryz.f100 (C k) (a0,a1,())) [.blk 0,.code (at_ (bt 3 7) (body Tryz.f100))]
def V0 (n0:Nat):T0:=fun x0 x1 x2 x3=>loopN (exec (E k) (at_ (bt 6 11) (body Tryz.f100))) (canon 0 [0,1,5,6]) (K0 k a0 a1) n0 (mk 29 1 [(0,.sl true TEntry x0),(1,.str x1),(5,.ref 0),(6,.int .i64 x2)] [(0,.own false TEntry x3)])
theorem s0 (n0:Nat):V0 k a0 a1 (n0+1)=b0 k (V0 k a0 a1 n0):=by kernel_rfl
theorem e0:V0 k a0 a1=l0 k:=loop_eq rfl (s0 k a0 a1) fun _=>rfl
end
theorem eq (k:Nat) (a0:List (Ty.den TEntry)) (a1:ByteArray):rn (E k) Tryz.f100 (C k) (a0,a1,())=f k a0 a1:=(show _=t k (V0 k a0 a1 k) a0 a1 by kernel_rfl).trans (by rw [e0];rfl)
theorem ctr (k:Nat):Cp 100 (C k):=rc rfl [] (by kernel_rfl) Tryz.func100 (by kernel_rfl) rfl fun ⟨a0,a1,_⟩ r h=>(eq k a0 a1).trans h
end spec_DirDrop
namespace spec_DirPut
def C (k:Nat):Cn:=⟨[.val (.slice TEntry),.val TEntry],[(.slice TEntry)],true,false,fun x=>f k x.1 x.2.1⟩
def E (k:Nat):Env:=en [] [(4,[0,3,5,6,7])] 0 [] k
section
variable (k:Nat) (a0:List (Ty.den TEntry)) (a1:Ty.den TEntry)
def K0:Ex→St→Rs:=runK (E k) (eK (E k) Tryz.f101 (C k) (a0,a1,())) [.blk 0,.code (at_ (bt 4 15) (body Tryz.f101))]
def V0 (n0:Nat):T0:=fun x0 x1 x2 x3 x4 x5 x6 x7 x8=>loopN (exec (E k) (at_ (bt 7 23) (body Tryz.f101))) (canon 0 [0,3,5,6,7]) (K0 k a0 a1) n0 (mk 53 2 [(0,.sl true TEntry x0),(3,.ptr 0 0 0),(5,.ref 1),(6,.bool x1),(7,.int .i64 x2)] [(0,.box [.str x3,.int .i64 x4,.int .i64 x5,.int .i64 x6,.int .i64 x7]),(1,.own false TEntry x8)])
theorem s0 (n0:Nat):V0 k a0 a1 (n0+1)=b0 k (V0 k a0 a1 n0):=by kernel_rfl
theorem e0:V0 k a0 a1=l0 k:=loop_eq rfl (s0 k a0 a1) fun _=>rfl
end
theorem eq (k:Nat) (a0:List (Ty.den TEntry)) (a1:Ty.den TEntry):rn (E k) Tryz.f101 (C k) (a0,a1,())=f k a0 a1:=(show _=t k (V0 k a0 a1 k) a0 a1 by kernel_rfl).trans (by rw [e0];rfl)
theorem ctr (k:Nat):Cp 101 (C k):=rc rfl [] (by kernel_rfl) Tryz.func101 (by kernel_rfl) rfl fun ⟨a0,a1,_⟩ r h=>(eq k a0 a1).trans h
end spec_DirPut
namespace spec_l9Put
def C (k:Nat):Cn:=⟨[.val (.slice TEntry),.val TPlace],[(.slice TEntry)],true,false,fun x=>f k x.1 x.2.1⟩
def D (k:Nat):List Ce:=[q (spec_DirDrop.ctr k),q (spec_DirPut.ctr k)]
def E (k:Nat):Env:=en (D k) [] 0 [] k
theorem eq (k:Nat) (a0:List (Ty.den TEntry)) (a1:Ty.den TPlace):rn (E k) Tryz.f103 (C k) (a0,a1,())=f k a0 a1:=by kernel_rfl
theorem ctr (k:Nat):Cp 103 (C k):=rc rfl (D k) (by kernel_rfl) Tryz.func103 (by kernel_rfl) rfl fun ⟨a0,a1,_⟩ r h=>(eq k a0 a1).trans h
end spec_l9Put
namespace spec_l9Kept
def C (k:Nat):Cn:=⟨[.val (.slice TPlace),.val (.int .i64)],[(.slice TPlace)],true,false,fun x=>f k x.1 x.2.1⟩
def E (k:Nat):Env:=en [] [(3,[0,1,5,6])] 0 [] k
section
variable (k:Nat) (a0:List (Ty.den TPlace)) (a1:Int)
def K0:Ex→St→Rs:=runK (E k) (eK (E k) Tryz.f192 (C k) (a0,a1,())) [.blk 0,.code (at_ (bt 3 7) (body Tryz.f192))]
def V0 (n0:Nat):T0:=fun x0 x1 x2 x3=>loopN (exec (E k) (at_ (bt 6 11) (body Tryz.f192))) (canon 0 [0,1,5,6]) (K0 k a0 a1) n0 (mk 36 1 [(0,.sl true TPlace x0),(1,.int .i64 x1),(5,.ref 0),(6,.int .i64 x2)] [(0,.own false TPlace x3)])
theorem s0 (n0:Nat):V0 k a0 a1 (n0+1)=b0 k (V0 k a0 a1 n0):=by kernel_rfl
theorem e0:V0 k a0 a1=l0 k:=loop_eq rfl (s0 k a0 a1) fun _=>rfl
end
theorem eq (k:Nat) (a0:List (Ty.den TPlace)) (a1:Int):rn (E k) Tryz.f192 (C k) (a0,a1,())=f k a0 a1:=(show _=t k (V0 k a0 a1 k) a0 a1 by kernel_rfl).trans (by rw [e0];rfl)
theorem ctr (k:Nat):Cp 192 (C k):=rc rfl [] (by kernel_rfl) Tryz.func192 (by kernel_rfl) rfl fun ⟨a0,a1,_⟩ r h=>(eq k a0 a1).trans h
end spec_l9Kept
namespace spec_Regroup
def C (k:Nat):Cn:=⟨[.val TGroup,.val (.slice TPlace)],[TGroup],true,false,fun x=>f k x.1 x.2.1⟩
def D (k:Nat):List Ce:=[q (spec_l9Of.ctr k),q (spec_l9Fits.ctr k),q (spec_l9Put.ctr k),q (spec_l9Kept.ctr k)]
def E (k:Nat):Env:=en (D k) [(3,[1,4,5,6]),(17,[1,4,5,6,8,9])] 0 [] k
section
variable (k:Nat) (a0:Ty.den TGroup) (a1:List (Ty.den TPlace))
def K0:Ex→St→Rs:=runK (E k) (eK (E k) Tryz.f146 (C k) (a0,a1,())) [.blk 0,.code (at_ (bt 3 7) (body Tryz.f146))]
def B0 (n0:Nat):Ex→St→Rs:=lpK (E k) (at_ (bt 6 11) (body Tryz.f146)) 0 [1,4,5,6] (K0 k a0 a1) n0
def K1 (n0:Nat):Ex→St→Rs:=runK (E k) (B0 k a0 a1 n0) [.blk 3,.code (at_ (bt 14 15947) (body Tryz.f146)),.blk 1,.code (at_ (bt 8 203) (body Tryz.f146))]
def V0 (n0:Nat):T0:=fun x0 x1 x2 x3 x4 x5 x6 x7=>loopN (exec (E k) (at_ (bt 6 11) (body Tryz.f146))) (canon 0 [1,4,5,6]) (K0 k a0 a1) n0 (mk 97 4 [(1,.sl true TPlace x0),(4,.ptr 0 0 0),(5,.ptr 2 0 0),(6,.int .i64 x1)] [(1,.own false TEntry x2),(0,.box [.ref 1,.int .i64 x3,.int .i64 x4]),(3,.own false TEntry x5),(2,.box [.ref 3,.int .i64 x6,.int .i64 x7])])
def V1 (n0 n1:Nat):T1:=fun x0 x1 x2 x3 x4 x5 x6 x7 x8 x9=>loopN (exec (E k) (at_ (bt 17 24139) (body Tryz.f146))) (canon 0 [1,4,5,6,8,9]) (K1 k a0 a1 n0) n1 (mk 97 5 [(1,.sl true TPlace x0),(4,.ptr 0 0 0),(5,.ptr 2 0 0),(6,.int .i64 x1),(8,.ref 4),(9,.int .i64 x2)] [(1,.own false TEntry x3),(0,.box [.ref 1,.int .i64 x4,.int .i64 x5]),(3,.own false TEntry x6),(2,.box [.ref 3,.int .i64 x7,.int .i64 x8]),(4,.own false TPlace x9)])
theorem s0 (n0:Nat):V0 k a0 a1 (n0+1)=b0 k (V1 k a0 a1 n0 k) (V0 k a0 a1 n0):=by kernel_rfl
theorem s1 (n0 n1:Nat):V1 k a0 a1 n0 (n1+1)=b1 k (V0 k a0 a1 n0) (V1 k a0 a1 n0 n1):=by kernel_rfl
theorem e1 (n0:Nat):V1 k a0 a1 n0=l1 k (V0 k a0 a1 n0):=loop_eq rfl (s1 k a0 a1 n0) fun _=>rfl
theorem e0 (n0:Nat):V0 k a0 a1 n0=l0 k n0:=by
 induction n0 with
 | zero=>rfl
 | succ n0 ih =>
  have h:V0 k a0 a1 (n0+1)=b0 k (V1 k a0 a1 n0 k) (V0 k a0 a1 n0):=s0 k a0 a1 n0
  rw [h,e1,ih]
  rfl
end
theorem eq (k:Nat) (a0:Ty.den TGroup) (a1:List (Ty.den TPlace)):rn (E k) Tryz.f146 (C k) (a0,a1,())=f k a0 a1:=(show _=t k (V0 k a0 a1 k) a0 a1 by kernel_rfl).trans (by rw [e0];rfl)
theorem ctr (k:Nat):Cp 146 (C k):=rc rfl (D k) (by kernel_rfl) Tryz.func146 (by kernel_rfl) rfl fun ⟨a0,a1,_⟩ r h=>(eq k a0 a1).trans h
end spec_Regroup
namespace spec_l11Sweep_g
def C (k:Nat):Cn:=⟨[.give TDisk,.val TLive],[TDisk,(.int .i64)],true,false,fun x=>f k x.1 x.2.1⟩
def D (k:Nat):List Ce:=[q (spec_Orphans.ctr k),q (spec_Remove.ctr k),q (spec_l11Code.ctr k)]
def E (k:Nat):Env:=en (D k) [(3,[2,4,6,7])] 0 [] k
section
variable (k:Nat) (a0:Ty.den TDisk) (a1:Ty.den TLive)
def K0:Ex→St→Rs:=runK (E k) (eK (E k) Tryz.f147 (C k) (a0,a1,())) [.blk 0,.code (at_ (bt 3 7) (body Tryz.f147))]
def V0 (n0:Nat):T0:=fun x0 x1 x2 x3 x4 x5 x6 x7 x8 x9=>loopN (exec (E k) (at_ (bt 6 11) (body Tryz.f147))) (canon 0 [2,4,6,7]) (K0 k a0 a1) n0 (mk 35 5 [(2,.ptr 0 0 0),(4,.ptr 2 0 0),(6,.ref 4),(7,.int .i64 x0)] [(1,.own false TPair x1),(0,.box [.ref 1,.int .i64 x2,.int .i64 x3,.bool x4]),(3,.own false TPair x5),(2,.box [.ref 3,.int .i64 x6,.int .i64 x7,.bool x8]),(4,.own false .str x9)])
theorem s0 (n0:Nat):V0 k a0 a1 (n0+1)=b0 k (V0 k a0 a1 n0):=by kernel_rfl
theorem e0:V0 k a0 a1=l0 k:=loop_eq rfl (s0 k a0 a1) fun _=>rfl
end
theorem eq (k:Nat) (a0:Ty.den TDisk) (a1:Ty.den TLive):rn (E k) Tryz.f147 (C k) (a0,a1,())=f k a0 a1:=(show _=t k (V0 k a0 a1 k) a0 a1 by kernel_rfl).trans (by rw [e0];rfl)
theorem ctr (k:Nat):Cp 147 (C k):=rc rfl (D k) (by kernel_rfl) Tryz.func147 (by kernel_rfl) rfl fun ⟨a0,a1,_⟩ r h=>(eq k a0 a1).trans h
end spec_l11Sweep_g
namespace spec_l11First_g
def C (k:Nat):Cn:=⟨[.give TDisk],[TStore,TDisk,(.int .i64)],true,false,fun x=>f k x.1⟩
def D (k:Nat):List Ce:=[q (spec_l11Sweep_g.ctr k),q (spec_SegName.ctr k),q (spec_Create.ctr k),q (spec_l11Code.ctr k),q (spec_PutLive.ctr k)]
def E (k:Nat):Env:=en (D k) [] 0 [] k
theorem eq (k:Nat) (a0:Ty.den TDisk):rn (E k) Tryz.f139 (C k) (a0,())=f k a0:=by kernel_rfl
theorem ctr (k:Nat):Cp 139 (C k):=rc rfl (D k) (by kernel_rfl) Tryz.func139 (by kernel_rfl) rfl fun ⟨a0,_⟩ r h=>(eq k a0).trans h
end spec_l11First_g
namespace spec_Open_g
def C (k:Nat):Cn:=⟨[.give TDisk],[TStore,TDisk,(.int .i64)],true,false,fun x=>f k x.1⟩
def D (k:Nat):List Ce:=[q (spec_DiskOk.ctr k),q (spec_l3Copy.ctr k),q (spec_FileText.ctr k),q (spec_l11First_g.ctr k),q (spec_ReadLive.ctr k),q (spec_SegName.ctr k),q (spec_ScanRecs.ctr k),q (spec_Truncate.ctr k),q (spec_l11Code.ctr k),q (spec_Sync.ctr k),q (spec_HintName.ctr k),q (spec_ReadHint.ctr k),q (spec_HintFits.ctr k),q (spec_l11Places.ctr k),q (spec_Regroup.ctr k),q (spec_l11Sweep_g.ctr k)]
def E (k:Nat):Env:=en (D k) [(14,[1,2,3,5,8,9,10]),(35,[2,3,5,8,19,23,24,25,26])] 0 [] k
section
variable (k:Nat) (a0:Ty.den TDisk)
def K0:Ex→St→Rs:=runK (E k) (eK (E k) Tryz.f91 (C k) (a0,())) [.blk 0,.code (at_ (bt 10 1023) (body Tryz.f91))]
def K1:Ex→St→Rs:=runK (E k) (eK (E k) Tryz.f91 (C k) (a0,())) [.blk 2,.code (at_ (bt 20 1048575) (body Tryz.f91))]
def V0 (n0:Nat):T0:=fun x0 x1 x2 x3 x4 x5 x6 x7 x8 x9 x10 x11 x12 x13 x14 x15 x16 x17 x18 x19 x20 x21 x22 x23=>loopN (exec (E k) (at_ (bt 13 1535) (body Tryz.f91))) (canon 0 [1,2,3,5,8,9,10]) (K0 k a0) n0 (mk 268 12 [(1,.ptr 0 0 0),(2,.ptr 2 0 0),(3,.ptr 5 0 0),(5,.ptr 7 0 0),(8,.ptr 10 0 0),(9,.int .i64 x0),(10,.int .i64 x1)] [(1,.own false TPair x2),(0,.box [.ref 1,.int .i64 x3,.int .i64 x4,.bool x5]),(3,.own false (.int .i64) x6),(4,.own false TEntry x7),(2,.box [.int .i64 x8,.ref 3,.ref 4,.int .i64 x9,.int .i64 x10,.int .i64 x11]),(6,.own false TPair x12),(5,.box [.ref 6,.int .i64 x13,.int .i64 x14,.bool x15]),(8,.own false (.int .i64) x16),(9,.own false TEntry x17),(7,.box [.int .i64 x18,.ref 8,.ref 9,.int .i64 x19,.int .i64 x20,.int .i64 x21]),(11,.own false (.int .i64) x22),(10,.box [.int .i64 x23,.ref 11])])
def V1 (n1:Nat):T1:=fun x0 x1 x2 x3 x4 x5 x6 x7 x8 x9 x10 x11 x12 x13 x14 x15 x16 x17 x18 x19 x20 x21 x22 x23 x24 x25 x26 x27 x28 x29 x30 x31=>loopN (exec (E k) (at_ (bt 23 1572863) (body Tryz.f91))) (canon 0 [2,3,5,8,19,23,24,25,26]) (K1 k a0) n1 (mk 268 17 [(2,.ptr 0 0 0),(3,.ptr 3 0 0),(5,.ptr 5 0 0),(8,.ptr 8 0 0),(19,.ptr 10 0 0),(23,.ptr 12 0 0),(24,.ptr 14 0 0),(25,.ref 16),(26,.int .i64 x0)] [(1,.own false (.int .i64) x1),(2,.own false TEntry x2),(0,.box [.int .i64 x3,.ref 1,.ref 2,.int .i64 x4,.int .i64 x5,.int .i64 x6]),(4,.own false TPair x7),(3,.box [.ref 4,.int .i64 x8,.int .i64 x9,.bool x10]),(6,.own false (.int .i64) x11),(7,.own false TEntry x12),(5,.box [.int .i64 x13,.ref 6,.ref 7,.int .i64 x14,.int .i64 x15,.int .i64 x16]),(9,.own false (.int .i64) x17),(8,.box [.int .i64 x18,.ref 9]),(11,.own false TPair x19),(10,.box [.ref 11,.int .i64 x20,.int .i64 x21,.bool x22]),(13,.own false TEntry x23),(12,.box [.int .i64 x24,.ref 9,.ref 13,.int .i64 x25,.int .i64 x26,.int .i64 x27]),(15,.own false TEntry x28),(14,.box [.ref 15,.int .i64 x29,.int .i64 x30]),(16,.own false TPlace x31)])
def V2 (n1:Nat):T2:=fun x0 x1 x2 x3 x4 x5 x6 x7 x8 x9 x10 x11 x12 x13 x14 x15 x16 x17 x18 x19 x20 x21 x22 x23 x24 x25 x26 x27 x28 x29 x30 x31=>loopN (exec (E k) (at_ (bt 23 1572863) (body Tryz.f91))) (canon 0 [2,3,5,8,19,23,24,25,26]) (K1 k a0) n1 (mk 268 17 [(2,.ptr 0 0 0),(3,.ptr 3 0 0),(5,.ptr 5 0 0),(8,.ptr 8 0 0),(19,.ptr 10 0 0),(23,.ptr 12 0 0),(24,.ptr 14 0 0),(25,.ref 16),(26,.int .i64 x0)] [(1,.own false (.int .i64) x1),(2,.own false TEntry x2),(0,.box [.int .i64 x3,.ref 1,.ref 2,.int .i64 x4,.int .i64 x5,.int .i64 x6]),(4,.own false TPair x7),(3,.box [.ref 4,.int .i64 x8,.int .i64 x9,.bool x10]),(6,.own false (.int .i64) x11),(7,.own false TEntry x12),(5,.box [.int .i64 x13,.ref 6,.ref 7,.int .i64 x14,.int .i64 x15,.int .i64 x16]),(9,.own false (.int .i64) x17),(8,.box [.int .i64 x18,.ref 9]),(11,.own false TPair x19),(10,.box [.ref 11,.int .i64 x20,.int .i64 x21,.bool x22]),(13,.own false TEntry x23),(12,.box [.int .i64 x24,.ref 9,.ref 13,.int .i64 x25,.int .i64 x26,.int .i64 x27]),(15,.own false TEntry x28),(14,.box [.ref 15,.int .i64 x29,.int .i64 x30]),(16,.own false TPlace x31)])
theorem s0 (n0:Nat):V0 k a0 (n0+1)=b0 k (V1 k a0 k) (V2 k a0 k) (V0 k a0 n0):=by kernel_rfl
theorem s1 (n1:Nat):V1 k a0 (n1+1)=b1 k (V1 k a0 n1):=by kernel_rfl
theorem s2 (n1:Nat):V2 k a0 (n1+1)=b2 k (V2 k a0 n1):=by kernel_rfl
theorem e1:V1 k a0=l1 k:=loop_eq rfl (s1 k a0) fun _=>rfl
theorem e2:V2 k a0=l2 k:=loop_eq rfl (s2 k a0) fun _=>rfl
theorem e0 (n0:Nat):V0 k a0 n0=l0 k n0:=by
 induction n0 with
 | zero=>rfl
 | succ n0 ih =>
  have h:V0 k a0 (n0+1)=b0 k (V1 k a0 k) (V2 k a0 k) (V0 k a0 n0):=s0 k a0 n0
  rw [h,e1,e2,ih]
  rfl
end
theorem eq (k:Nat) (a0:Ty.den TDisk):rn (E k) Tryz.f91 (C k) (a0,())=f k a0:=(show _=t k (V0 k a0 k) a0 by kernel_rfl).trans (by rw [e0];rfl)
theorem ctr (k:Nat):Cp 91 (C k):=rc rfl (D k) (by kernel_rfl) Tryz.func91 (by kernel_rfl) rfl fun ⟨a0,_⟩ r h=>(eq k a0).trans h
end spec_Open_g
namespace spec_l1Once
def C (k:Nat):Cn:=⟨[.io false Tl1Cur,.val (.int .i64)],[.bool],true,true,fun x=>f k x.1 x.2.1⟩
def D (k:Nat):List Ce:=[q (spec_l1Below.ctr k)]
def E (k:Nat):Env:=en (D k) [] 1 [] k
theorem eq (k:Nat) (a0:Ty.den Tl1Cur) (a1:Int):rn (E k) Tryz.f40 (C k) (a0,a1,())=f k a0 a1:=by kernel_rfl
theorem ctr (k:Nat):Cp 40 (C k):=rc rfl (D k) (by kernel_rfl) Tryz.func40 (by kernel_rfl) rfl fun ⟨a0,a1,_⟩ r h=>(eq k a0 a1).trans h
end spec_l1Once
namespace spec_l12Copy
def C (k:Nat):Cn:=⟨[.val TStore],[TStore],true,false,fun x=>f k x.1⟩
def E (k:Nat):Env:=en [] [] 0 [] k
theorem eq (k:Nat) (a0:Ty.den TStore):rn (E k) Tryz.f49 (C k) (a0,())=f k a0:=by kernel_rfl
theorem ctr (k:Nat):Cp 49 (C k):=rc rfl [] (by kernel_rfl) Tryz.func49 (by kernel_rfl) rfl fun ⟨a0,_⟩ r h=>(eq k a0).trans h
end spec_l12Copy
namespace spec_RecAt
def C (k:Nat):Cn:=⟨[.val .str,.val (.int .i64),.val (.int .i64)],[TRec,.bool],true,false,fun x=>f k x.1 x.2.1 x.2.2.1⟩
def D (k:Nat):List Ce:=[q (spec_l1In.ctr k),q (spec_Unframe.ctr k),q (spec_ReadRec.ctr k)]
def E (k:Nat):Env:=en (D k) [] 0 [] k
theorem eq (k:Nat) (a0:ByteArray) (a1:Int) (a2:Int):rn (E k) Tryz.f62 (C k) (a0,a1,a2,())=f k a0 a1 a2:=by kernel_rfl
theorem ctr (k:Nat):Cp 62 (C k):=rc rfl (D k) (by kernel_rfl) Tryz.func62 (by kernel_rfl) rfl fun ⟨a0,a1,a2,_⟩ r h=>(eq k a0 a1 a2).trans h
end spec_RecAt
namespace spec_StoreOk
def C (k:Nat):Cn:=⟨[.val TStore,.val TDisk],[.bool],true,false,fun x=>f k x.1 x.2.1⟩
def D (k:Nat):List Ce:=[q (spec_DiskOk.ctr k),q (spec_LiveOk.ctr k),q (spec_DirOk.ctr k),q (spec_l1In.ctr k),q (spec_SegName.ctr k),q (spec_FileText.ctr k),q (spec_ScanRecs.ctr k),q (spec_RecAt.ctr k)]
def E (k:Nat):Env:=en (D k) [(4,[2,3,5]),(11,[2,3,10])] 0 [] k
section
variable (k:Nat) (a0:Ty.den TStore) (a1:Ty.den TDisk)
def K0:Ex→St→Rs:=runK (E k) (eK (E k) Tryz.f51 (C k) (a0,a1,())) [.blk 0,.code (at_ (bt 3 7) (body Tryz.f51))]
def K1:Ex→St→Rs:=runK (E k) (eK (E k) Tryz.f51 (C k) (a0,a1,())) [.blk 2,.code (at_ (bt 4 15) (body Tryz.f51))]
def V0 (n0:Nat):T0:=fun x0 x1 x2 x3 x4 x5 x6 x7 x8 x9 x10=>loopN (exec (E k) (at_ (bt 6 11) (body Tryz.f51))) (canon 0 [2,3,5]) (K0 k a0 a1) n0 (mk 148 2 [(2,.ptr 0 0 0),(3,.ptr 1 0 0),(5,.int .i64 x0)] [(0,.box [.int .i64 x1,.sl true (.int .i64) x2,.sl true TEntry x3,.int .i64 x4,.int .i64 x5,.int .i64 x6]),(1,.box [.sl true TPair x7,.int .i64 x8,.int .i64 x9,.bool x10])])
def V1 (n1:Nat):T1:=fun x0 x1 x2 x3 x4 x5 x6 x7 x8 x9 x10=>loopN (exec (E k) (at_ (bt 7 23) (body Tryz.f51))) (canon 0 [2,3,10]) (K1 k a0 a1) n1 (mk 148 2 [(2,.ptr 0 0 0),(3,.ptr 1 0 0),(10,.int .i64 x0)] [(0,.box [.int .i64 x1,.sl true (.int .i64) x2,.sl true TEntry x3,.int .i64 x4,.int .i64 x5,.int .i64 x6]),(1,.box [.sl true TPair x7,.int .i64 x8,.int .i64 x9,.bool x10])])
theorem s0 (n0:Nat):V0 k a0 a1 (n0+1)=b0 k (V1 k a0 a1 k) (V0 k a0 a1 n0):=by kernel_rfl
theorem s1 (n1:Nat):V1 k a0 a1 (n1+1)=b1 k (V1 k a0 a1 n1):=by kernel_rfl
theorem e1:V1 k a0 a1=l1 k:=loop_eq rfl (s1 k a0 a1) fun _=>rfl
theorem e0 (n0:Nat):V0 k a0 a1 n0=l0 k n0:=by
 induction n0 with
 | zero=>rfl
 | succ n0 ih =>
  have h:V0 k a0 a1 (n0+1)=b0 k (V1 k a0 a1 k) (V0 k a0 a1 n0):=s0 k a0 a1 n0
  rw [h,e1,ih]
  rfl
end
theorem eq (k:Nat) (a0:Ty.den TStore) (a1:Ty.den TDisk):rn (E k) Tryz.f51 (C k) (a0,a1,())=f k a0 a1:=(show _=t k (V0 k a0 a1 k) a0 a1 by kernel_rfl).trans (by rw [e0];rfl)
theorem ctr (k:Nat):Cp 51 (C k):=rc rfl (D k) (by kernel_rfl) Tryz.func51 (by kernel_rfl) rfl fun ⟨a0,a1,_⟩ r h=>(eq k a0 a1).trans h
end spec_StoreOk
namespace spec_DirGet
def C (k:Nat):Cn:=⟨[.val (.slice TEntry),.val .str],[TEntry,.bool],true,false,fun x=>f k x.1 x.2.1⟩
def E (k:Nat):Env:=en [] [(2,[0,1,4,6])] 0 [] k
section
variable (k:Nat) (a0:List (Ty.den TEntry)) (a1:ByteArray)
def K0:Ex→St→Rs:=runK (E k) (eK (E k) Tryz.f59 (C k) (a0,a1,())) [.blk 0,.code (at_ (bt 2 3) (body Tryz.f59))]
def V0 (n0:Nat):T0:=fun x0 x1 x2 x3 x4 x5 x6 x7=>loopN (exec (E k) (at_ (bt 5 5) (body Tryz.f59))) (canon 0 [0,1,4,6]) (K0 k a0 a1) n0 (mk 25 1 [(0,.sl true TEntry x0),(1,.str x1),(4,.ptr 0 0 0),(6,.int .i64 x2)] [(0,.box [.str x3,.int .i64 x4,.int .i64 x5,.int .i64 x6,.int .i64 x7])])
theorem s0 (n0:Nat):V0 k a0 a1 (n0+1)=b0 k (V0 k a0 a1 n0):=by kernel_rfl
theorem e0:V0 k a0 a1=l0 k:=loop_eq rfl (s0 k a0 a1) fun _=>rfl
end
theorem eq (k:Nat) (a0:List (Ty.den TEntry)) (a1:ByteArray):rn (E k) Tryz.f59 (C k) (a0,a1,())=f k a0 a1:=(show _=t k (V0 k a0 a1 k) a0 a1 by kernel_rfl).trans (by rw [e0];rfl)
theorem ctr (k:Nat):Cp 59 (C k):=rc rfl [] (by kernel_rfl) Tryz.func59 (by kernel_rfl) rfl fun ⟨a0,a1,_⟩ r h=>(eq k a0 a1).trans h
end spec_DirGet
namespace spec_Get
def C (k:Nat):Cn:=⟨[.val TStore,.val TDisk,.val .str],[TPair,(.int .i64)],true,false,fun x=>f k x.1 x.2.1 x.2.2.1⟩
def D (k:Nat):List Ce:=[q (spec_DirGet.ctr k),q (spec_SegName.ctr k),q (spec_FileText.ctr k),q (spec_RecAt.ctr k)]
def E (k:Nat):Env:=en (D k) [] 0 [] k
theorem eq (k:Nat) (a0:Ty.den TStore) (a1:Ty.den TDisk) (a2:ByteArray):rn (E k) Tryz.f22 (C k) (a0,a1,a2,())=f k a0 a1 a2:=by kernel_rfl
theorem ctr (k:Nat):Cp 22 (C k):=rc rfl (D k) (by kernel_rfl) Tryz.func22 (by kernel_rfl) rfl fun ⟨a0,a1,a2,_⟩ r h=>(eq k a0 a1 a2).trans h
end spec_Get
namespace spec_Dump
def C (k:Nat):Cn:=⟨[.val TStore,.val TDisk],[(.slice TPair),(.int .i64)],true,false,fun x=>f k x.1 x.2.1⟩
def D (k:Nat):List Ce:=[q (spec_Get.ctr k)]
def E (k:Nat):Env:=en (D k) [(3,[2,3,6,7])] 0 [] k
section
variable (k:Nat) (a0:Ty.den TStore) (a1:Ty.den TDisk)
def K0:Ex→St→Rs:=runK (E k) (eK (E k) Tryz.f148 (C k) (a0,a1,())) [.blk 0,.code (at_ (bt 3 7) (body Tryz.f148))]
def V0 (n0:Nat):T0:=fun x0 x1 x2 x3 x4 x5 x6 x7 x8 x9 x10 x11=>loopN (exec (E k) (at_ (bt 6 11) (body Tryz.f148))) (canon 0 [2,3,6,7]) (K0 k a0 a1) n0 (mk 39 3 [(2,.ptr 0 0 0),(3,.ptr 1 0 0),(6,.ref 2),(7,.int .i64 x0)] [(0,.box [.int .i64 x1,.sl true (.int .i64) x2,.sl true TEntry x3,.int .i64 x4,.int .i64 x5,.int .i64 x6]),(1,.box [.sl true TPair x7,.int .i64 x8,.int .i64 x9,.bool x10]),(2,.own false TPair x11)])
theorem s0 (n0:Nat):V0 k a0 a1 (n0+1)=b0 k (V0 k a0 a1 n0):=by kernel_rfl
theorem e0:V0 k a0 a1=l0 k:=loop_eq rfl (s0 k a0 a1) fun _=>rfl
end
theorem eq (k:Nat) (a0:Ty.den TStore) (a1:Ty.den TDisk):rn (E k) Tryz.f148 (C k) (a0,a1,())=f k a0 a1:=(show _=t k (V0 k a0 a1 k) a0 a1 by kernel_rfl).trans (by rw [e0];rfl)
theorem ctr (k:Nat):Cp 148 (C k):=rc rfl (D k) (by kernel_rfl) Tryz.func148 (by kernel_rfl) rfl fun ⟨a0,a1,_⟩ r h=>(eq k a0 a1).trans h
end spec_Dump
namespace spec_l14Keep
def C (k:Nat):Cn:=⟨[.val TPair],[TRec],true,false,fun x=>f k x.1⟩
def E (k:Nat):Env:=en [] [] 0 [] k
theorem eq (k:Nat) (a0:Ty.den TPair):rn (E k) Tryz.f225 (C k) (a0,())=f k a0:=by kernel_rfl
theorem ctr (k:Nat):Cp 225 (C k):=rc rfl [] (by kernel_rfl) Tryz.func225 (by kernel_rfl) rfl fun ⟨a0,_⟩ r h=>(eq k a0).trans h
end spec_l14Keep
namespace spec_l9Seal
def C (k:Nat):Cn:=⟨[.val (.slice TRec),.val (.int .i64),.val (.int .i64)],[TRec],true,false,fun x=>f k x.1 x.2.1 x.2.2.1⟩
def D (k:Nat):List Ce:=[q (spec_SumOf.ctr k)]
def E (k:Nat):Env:=en (D k) [] 0 [] k
theorem eq (k:Nat) (a0:List (Ty.den TRec)) (a1:Int) (a2:Int):rn (E k) Tryz.f104 (C k) (a0,a1,a2,())=f k a0 a1 a2:=by kernel_rfl
theorem ctr (k:Nat):Cp 104 (C k):=rc rfl (D k) (by kernel_rfl) Tryz.func104 (by kernel_rfl) rfl fun ⟨a0,a1,a2,_⟩ r h=>(eq k a0 a1 a2).trans h
end spec_l9Seal
namespace spec_l14Write
def C (k:Nat):Cn:=⟨[.val TDisk,.val (.int .i64),.val (.slice TPair),.val (.int .i64)],[TDisk,(.slice TEntry),(.int .i64)],true,false,fun x=>f k x.1 x.2.1 x.2.2.1 x.2.2.2.1⟩
def D (k:Nat):List Ce:=[q (spec_SegName.ctr k),q (spec_l11Fresh.ctr k),q (spec_l14Keep.ctr k),q (spec_ShowRec.ctr k),q (spec_Frame.ctr k),q (spec_Append.ctr k),q (spec_l9Seal.ctr k),q (spec_Sync.ctr k),q (spec_l11Code.ctr k)]
def E (k:Nat):Env:=en (D k) [(6,[1,2,3,8,11,12,13,14,15,16])] 0 [] k
section
variable (k:Nat) (a0:Ty.den TDisk) (a1:Int) (a2:List (Ty.den TPair)) (a3:Int)
def K0:Ex→St→Rs:=runK (E k) (eK (E k) Tryz.f195 (C k) (a0,a1,a2,a3,())) [.blk 0,.code (at_ (bt 6 63) (body Tryz.f195))]
def V0 (n0:Nat):T0:=fun x0 x1 x2 x3 x4 x5 x6 x7 x8 x9 x10 x11 x12 x13 x14 x15=>loopN (exec (E k) (at_ (bt 9 95) (body Tryz.f195))) (canon 0 [1,2,3,8,11,12,13,14,15,16]) (K0 k a0 a1 a2 a3) n0 (mk 101 6 [(1,.int .i64 x0),(2,.sl true TPair x1),(3,.int .i64 x2),(8,.ptr 0 0 0),(11,.ref 2),(12,.ptr 3 0 0),(13,.int .i64 x3),(14,.ref 5),(15,.int .i64 x4),(16,.int .i64 x5)] [(1,.own false TPair x6),(0,.box [.ref 1,.int .i64 x7,.int .i64 x8,.bool x9]),(2,.own false TEntry x10),(4,.own false TPair x11),(3,.box [.ref 4,.int .i64 x12,.int .i64 x13,.bool x14]),(5,.own false TRec x15)])
theorem s0 (n0:Nat):V0 k a0 a1 a2 a3 (n0+1)=b0 k (V0 k a0 a1 a2 a3 n0):=by kernel_rfl
theorem e0:V0 k a0 a1 a2 a3=l0 k:=loop_eq rfl (s0 k a0 a1 a2 a3) fun _=>rfl
end
theorem eq (k:Nat) (a0:Ty.den TDisk) (a1:Int) (a2:List (Ty.den TPair)) (a3:Int):rn (E k) Tryz.f195 (C k) (a0,a1,a2,a3,())=f k a0 a1 a2 a3:=(show _=t k (V0 k a0 a1 a2 a3 k) a0 a1 a2 a3 by kernel_rfl).trans (by rw [e0];rfl)
theorem ctr (k:Nat):Cp 195 (C k):=rc rfl (D k) (by kernel_rfl) Tryz.func195 (by kernel_rfl) rfl fun ⟨a0,a1,a2,a3,_⟩ r h=>(eq k a0 a1 a2 a3).trans h
end spec_l14Write
namespace spec_l14Drop_g
def C (k:Nat):Cn:=⟨[.give TDisk,.val (.slice .str)],[TDisk,(.int .i64)],true,false,fun x=>f k x.1 x.2.1⟩
def D (k:Nat):List Ce:=[q (spec_l3Find.ctr k),q (spec_Remove.ctr k)]
def E (k:Nat):Env:=en (D k) [(2,[1,2,4,6])] 0 [] k
section
variable (k:Nat) (a0:Ty.den TDisk) (a1:List ByteArray)
def K0:Ex→St→Rs:=runK (E k) (eK (E k) Tryz.f199 (C k) (a0,a1,())) [.blk 0,.code (at_ (bt 2 3) (body Tryz.f199))]
def V0 (n0:Nat):T0:=fun x0 x1 x2 x3 x4 x5 x6 x7 x8 x9=>loopN (exec (E k) (at_ (bt 5 5) (body Tryz.f199))) (canon 0 [1,2,4,6]) (K0 k a0 a1) n0 (mk 37 4 [(1,.sl true .str x0),(2,.ptr 0 0 0),(4,.ptr 2 0 0),(6,.int .i64 x1)] [(1,.own false TPair x2),(0,.box [.ref 1,.int .i64 x3,.int .i64 x4,.bool x5]),(3,.own false TPair x6),(2,.box [.ref 3,.int .i64 x7,.int .i64 x8,.bool x9])])
theorem s0 (n0:Nat):V0 k a0 a1 (n0+1)=b0 k (V0 k a0 a1 n0):=by kernel_rfl
theorem e0:V0 k a0 a1=l0 k:=loop_eq rfl (s0 k a0 a1) fun _=>rfl
end
theorem eq (k:Nat) (a0:Ty.den TDisk) (a1:List ByteArray):rn (E k) Tryz.f199 (C k) (a0,a1,())=f k a0 a1:=(show _=t k (V0 k a0 a1 k) a0 a1 by kernel_rfl).trans (by rw [e0];rfl)
theorem ctr (k:Nat):Cp 199 (C k):=rc rfl (D k) (by kernel_rfl) Tryz.func199 (by kernel_rfl) rfl fun ⟨a0,a1,_⟩ r h=>(eq k a0 a1).trans h
end spec_l14Drop_g
namespace spec_l14Fail_ga
def C (k:Nat):Cn:=⟨[.give TStore,.give TDisk,.val (.int .i64),.val (.int .i64)],[TStore,TDisk,(.int .i64)],true,false,fun x=>f k x.1 x.2.1 x.2.2.1 x.2.2.2.1⟩
def D (k:Nat):List Ce:=[q (spec_SegName.ctr k),q (spec_HintName.ctr k),q (spec_l14Drop_g.ctr k),q (spec_l11Code.ctr k)]
def E (k:Nat):Env:=en (D k) [] 0 [] k
theorem eq (k:Nat) (a0:Ty.den TStore) (a1:Ty.den TDisk) (a2:Int) (a3:Int):rn (E k) Tryz.f196 (C k) (a0,a1,a2,a3,())=f k a0 a1 a2 a3:=by kernel_rfl
theorem ctr (k:Nat):Cp 196 (C k):=rc rfl (D k) (by kernel_rfl) Tryz.func196 (by kernel_rfl) rfl fun ⟨a0,a1,a2,a3,_⟩ r h=>(eq k a0 a1 a2 a3).trans h
end spec_l14Fail_ga
namespace spec_l14Merge_g
def C (k:Nat):Cn:=⟨[.give TStore,.val TDisk,.val (.slice TPair)],[TStore,TDisk,(.int .i64)],true,false,fun x=>f k x.1 x.2.1 x.2.2.1⟩
def D (k:Nat):List Ce:=[q (spec_l14Write.ctr k),q (spec_l14Fail_ga.ctr k),q (spec_SegName.ctr k),q (spec_l11Fresh.ctr k),q (spec_l11Code.ctr k),q (spec_FileText.ctr k),q (spec_HintOf.ctr k),q (spec_HintName.ctr k),q (spec_ShowHint.ctr k),q (spec_l11File.ctr k),q (spec_l14Drop_g.ctr k),q (spec_PutLive.ctr k)]
def E (k:Nat):Env:=en (D k) [(26,[3,6,7,10,18,20])] 0 [] k
section
variable (k:Nat) (a0:Ty.den TStore) (a1:Ty.den TDisk) (a2:List (Ty.den TPair))
def K0:Ex→St→Rs:=runK (E k) (eK (E k) Tryz.f149 (C k) (a0,a1,a2,())) [.blk 0,.code (at_ (bt 21 2097151) (body Tryz.f149))]
def V0 (n0:Nat):T0:=fun x0 x1 x2 x3 x4 x5 x6 x7 x8 x9 x10 x11 x12 x13 x14 x15 x16 x17 x18 x19 x20 x21=>loopN (exec (E k) (at_ (bt 24 3145727) (body Tryz.f149))) (canon 0 [3,6,7,10,18,20]) (K0 k a0 a1 a2) n0 (mk 170 11 [(3,.ptr 0 0 0),(6,.ptr 3 0 0),(7,.ptr 6 0 0),(10,.ptr 8 0 0),(18,.ref 10),(20,.int .i64 x0)] [(1,.own false (.int .i64) x1),(2,.own false TEntry x2),(0,.box [.int .i64 x3,.ref 1,.ref 2,.int .i64 x4,.int .i64 x5,.int .i64 x6]),(4,.own false (.int .i64) x7),(5,.own false TEntry x8),(3,.box [.int .i64 x9,.ref 4,.ref 5,.int .i64 x10,.int .i64 x11,.int .i64 x12]),(7,.own false TPair x13),(6,.box [.ref 7,.int .i64 x14,.int .i64 x15,.bool x16]),(9,.own false TPair x17),(8,.box [.ref 9,.int .i64 x18,.int .i64 x19,.bool x20]),(10,.own false (.int .i64) x21)])
theorem s0 (n0:Nat):V0 k a0 a1 a2 (n0+1)=b0 k (V0 k a0 a1 a2 n0):=by kernel_rfl
theorem e0:V0 k a0 a1 a2=l0 k:=loop_eq rfl (s0 k a0 a1 a2) fun _=>rfl
end
theorem eq (k:Nat) (a0:Ty.den TStore) (a1:Ty.den TDisk) (a2:List (Ty.den TPair)):rn (E k) Tryz.f149 (C k) (a0,a1,a2,())=f k a0 a1 a2:=(show _=t k (V0 k a0 a1 a2 k) a0 a1 a2 by kernel_rfl).trans (by rw [e0];rfl)
theorem ctr (k:Nat):Cp 149 (C k):=rc rfl (D k) (by kernel_rfl) Tryz.func149 (by kernel_rfl) rfl fun ⟨a0,a1,a2,_⟩ r h=>(eq k a0 a1 a2).trans h
end spec_l14Merge_g
namespace spec_Merge
def C (k:Nat):Cn:=⟨[.val TStore,.val TDisk],[TStore,TDisk,(.int .i64)],true,false,fun x=>f k x.1 x.2.1⟩
def D (k:Nat):List Ce:=[q (spec_l12Copy.ctr k),q (spec_l3Copy.ctr k),q (spec_StoreOk.ctr k),q (spec_Dump.ctr k),q (spec_l14Merge_g.ctr k)]
def E (k:Nat):Env:=en (D k) [] 0 [] k
theorem eq (k:Nat) (a0:Ty.den TStore) (a1:Ty.den TDisk):rn (E k) Tryz.f93 (C k) (a0,a1,())=f k a0 a1:=by kernel_rfl
theorem ctr (k:Nat):Cp 93 (C k):=rc rfl (D k) (by kernel_rfl) Tryz.func93 (by kernel_rfl) rfl fun ⟨a0,a1,_⟩ r h=>(eq k a0 a1).trans h
end spec_Merge
namespace spec_l1Pick
def C (k:Nat):Cn:=⟨[.io false Tl1Cur,.val (.slice .str)],[.str],true,true,fun x=>f k x.1 x.2.1⟩
def D (k:Nat):List Ce:=[q (spec_l1Below.ctr k)]
def E (k:Nat):Env:=en (D k) [] 1 [] k
theorem eq (k:Nat) (a0:Ty.den Tl1Cur) (a1:List ByteArray):rn (E k) Tryz.f64 (C k) (a0,a1,())=f k a0 a1:=by kernel_rfl
theorem ctr (k:Nat):Cp 64 (C k):=rc rfl (D k) (by kernel_rfl) Tryz.func64 (by kernel_rfl) rfl fun ⟨a0,a1,_⟩ r h=>(eq k a0 a1).trans h
end spec_l1Pick
namespace spec_l5Key
def C (k:Nat):Cn:=⟨[.io false Tl1Cur],[.str],true,true,fun x=>f k x.1⟩
def D (k:Nat):List Ce:=[q (spec_l1Pick.ctr k)]
def E (k:Nat):Env:=en (D k) [] 1 [] k
theorem eq (k:Nat) (a0:Ty.den Tl1Cur):rn (E k) Tryz.f48 (C k) (a0,())=f k a0:=by kernel_rfl
theorem ctr (k:Nat):Cp 48 (C k):=rc rfl (D k) (by kernel_rfl) Tryz.func48 (by kernel_rfl) rfl fun ⟨a0,_⟩ r h=>(eq k a0).trans h
end spec_l5Key
namespace spec_l1Text
def C (k:Nat):Cn:=⟨[.io false Tl1Cur,.val (.int .i64)],[.str],true,true,fun x=>f k x.1 x.2.1⟩
def D (k:Nat):List Ce:=[q (spec_l1Below.ctr k),q (spec_l1Byte.ctr k)]
def E (k:Nat):Env:=en (D k) [(4,[0,5,6,7])] 1 [] k
section
variable (k:Nat) (a0:Ty.den Tl1Cur) (a1:Int)
def K0:Ex→St→Rs:=runK (E k) (eK (E k) Tryz.f90 (C k) (a0,a1,())) [.blk 0,.code (at_ (bt 4 15) (body Tryz.f90))]
def V0 (n0:Nat):T0:=fun x0 x1 x2 x3 x4 x5=>loopN (exec (E k) (at_ (bt 7 23) (body Tryz.f90))) (canon 1 [0,5,6,7]) (K0 k a0 a1) n0 (mk 38 2 [(0,.ptr 0 0 0),(5,.ref 1),(6,.int .i64 x0),(7,.int .i64 x1)] [(0,.box [.sl true (.int .u8) x2,.int .i64 x3,.int .i64 x4]),(1,.own false (.int .u8) x5)])
theorem s0 (n0:Nat):V0 k a0 a1 (n0+1)=b0 k (V0 k a0 a1 n0):=by kernel_rfl
theorem e0:V0 k a0 a1=l0 k:=loop_eq rfl (s0 k a0 a1) fun _=>rfl
end
theorem eq (k:Nat) (a0:Ty.den Tl1Cur) (a1:Int):rn (E k) Tryz.f90 (C k) (a0,a1,())=f k a0 a1:=(show _=t k (V0 k a0 a1 k) a0 a1 by kernel_rfl).trans (by rw [e0];rfl)
theorem ctr (k:Nat):Cp 90 (C k):=rc rfl (D k) (by kernel_rfl) Tryz.func90 (by kernel_rfl) rfl fun ⟨a0,a1,_⟩ r h=>(eq k a0 a1).trans h
end spec_l1Text
namespace spec_l12Puts
def C (k:Nat):Cn:=⟨[.io false Tl1Cur],[(.slice TPut)],true,true,fun x=>f k x.1⟩
def D (k:Nat):List Ce:=[q (spec_l1Below.ctr k),q (spec_l5Key.ctr k),q (spec_l1Text.ctr k),q (spec_l1Once.ctr k)]
def E (k:Nat):Env:=en (D k) [(3,[0,3,4])] 1 [] k
section
variable (k:Nat) (a0:Ty.den Tl1Cur)
def K0:Ex→St→Rs:=runK (E k) (eK (E k) Tryz.f42 (C k) (a0,())) [.blk 0,.code (at_ (bt 3 7) (body Tryz.f42))]
def V0 (n0:Nat):T0:=fun x0 x1 x2 x3 x4=>loopN (exec (E k) (at_ (bt 6 11) (body Tryz.f42))) (canon 1 [0,3,4]) (K0 k a0) n0 (mk 28 2 [(0,.ptr 0 0 0),(3,.ref 1),(4,.int .i64 x0)] [(0,.box [.sl true (.int .u8) x1,.int .i64 x2,.int .i64 x3]),(1,.own false TPut x4)])
theorem s0 (n0:Nat):V0 k a0 (n0+1)=b0 k (V0 k a0 n0):=by kernel_rfl
theorem e0:V0 k a0=l0 k:=loop_eq rfl (s0 k a0) fun _=>rfl
end
theorem eq (k:Nat) (a0:Ty.den Tl1Cur):rn (E k) Tryz.f42 (C k) (a0,())=f k a0:=(show _=t k (V0 k a0 k) a0 by kernel_rfl).trans (by rw [e0];rfl)
theorem ctr (k:Nat):Cp 42 (C k):=rc rfl (D k) (by kernel_rfl) Tryz.func42 (by kernel_rfl) rfl fun ⟨a0,_⟩ r h=>(eq k a0).trans h
end spec_l12Puts
namespace spec_PutsOk
def C (k:Nat):Cn:=⟨[.val (.slice TPut)],[.bool],true,false,fun x=>f k x.1⟩
def D (k:Nat):List Ce:=[q (spec_KeyOk.ctr k)]
def E (k:Nat):Env:=en (D k) [(4,[0,3])] 0 [] k
section
variable (k:Nat) (a0:List (Ty.den TPut))
def K0:Ex→St→Rs:=runK (E k) (eK (E k) Tryz.f52 (C k) (a0,())) [.blk 0,.code (at_ (bt 3 7) (body Tryz.f52))]
def V0 (n0:Nat):T0:=fun x0 x1=>loopN (exec (E k) (at_ (bt 6 11) (body Tryz.f52))) (canon 0 [0,3]) (K0 k a0) n0 (mk 44 0 [(0,.sl true TPut x0),(3,.int .i64 x1)] [])
theorem s0 (n0:Nat):V0 k a0 (n0+1)=b0 k (V0 k a0 n0):=by kernel_rfl
theorem e0:V0 k a0=l0 k:=loop_eq rfl (s0 k a0) fun _=>rfl
end
theorem eq (k:Nat) (a0:List (Ty.den TPut)):rn (E k) Tryz.f52 (C k) (a0,())=f k a0:=(show _=t k (V0 k a0 k) a0 by kernel_rfl).trans (by rw [e0];rfl)
theorem ctr (k:Nat):Cp 52 (C k):=rc rfl (D k) (by kernel_rfl) Tryz.func52 (by kernel_rfl) rfl fun ⟨a0,_⟩ r h=>(eq k a0).trans h
end spec_PutsOk
namespace spec_l12After
def C (k:Nat):Cn:=⟨[.val (.slice TEntry),.val (.slice TPut)],[(.int .i64)],true,false,fun x=>f k x.1 x.2.1⟩
def D (k:Nat):List Ce:=[q (spec_DirDrop.ctr k),q (spec_DirPut.ctr k)]
def E (k:Nat):Env:=en (D k) [(2,[0,1,5])] 0 [] k
section
variable (k:Nat) (a0:List (Ty.den TEntry)) (a1:List (Ty.den TPut))
def K0:Ex→St→Rs:=runK (E k) (eK (E k) Tryz.f53 (C k) (a0,a1,())) [.blk 0,.code (at_ (bt 2 3) (body Tryz.f53))]
def V0 (n0:Nat):T0:=fun x0 x1 x2=>loopN (exec (E k) (at_ (bt 5 5) (body Tryz.f53))) (canon 0 [0,1,5]) (K0 k a0 a1) n0 (mk 34 0 [(0,.sl true TEntry x0),(1,.sl true TPut x1),(5,.int .i64 x2)] [])
def V1 (n0:Nat):T1:=fun x0 x1 x2=>loopN (exec (E k) (at_ (bt 5 5) (body Tryz.f53))) (canon 0 [0,1,5]) (K0 k a0 a1) n0 (mk 34 1 [(0,.ref 0),(1,.sl true TPut x0),(5,.int .i64 x1)] [(0,.own false TEntry x2)])
theorem s0 (n0:Nat):V0 k a0 a1 (n0+1)=b0 k (V1 k a0 a1 n0):=by kernel_rfl
theorem s1 (n0:Nat):V1 k a0 a1 (n0+1)=b1 k (V1 k a0 a1 n0):=by kernel_rfl
theorem e1:V1 k a0 a1=l1 k:=loop_eq rfl (s1 k a0 a1) fun _=>rfl
theorem e0 (n0:Nat):V0 k a0 a1 n0=l0 k n0:=by
 induction n0 with
 | zero=>rfl
 | succ n0 ih =>
  have h:V0 k a0 a1 (n0+1)=b0 k (V1 k a0 a1 n0):=s0 k a0 a1 n0
  rw [h,e1]
  rfl
end
theorem eq (k:Nat) (a0:List (Ty.den TEntry)) (a1:List (Ty.den TPut)):rn (E k) Tryz.f53 (C k) (a0,a1,())=f k a0 a1:=(show _=t k (V0 k a0 a1 k) a0 a1 by kernel_rfl).trans (by rw [e0];rfl)
theorem ctr (k:Nat):Cp 53 (C k):=rc rfl (D k) (by kernel_rfl) Tryz.func53 (by kernel_rfl) rfl fun ⟨a0,a1,_⟩ r h=>(eq k a0 a1).trans h
end spec_l12After
namespace spec_l12Active
def C (k:Nat):Cn:=⟨[.val TStore],[.str],true,false,fun x=>f k x.1⟩
def D (k:Nat):List Ce:=[q (spec_SegName.ctr k)]
def E (k:Nat):Env:=en (D k) [] 0 [] k
theorem eq (k:Nat) (a0:Ty.den TStore):rn (E k) Tryz.f106 (C k) (a0,())=f k a0:=by kernel_rfl
theorem ctr (k:Nat):Cp 106 (C k):=rc rfl (D k) (by kernel_rfl) Tryz.func106 (by kernel_rfl) rfl fun ⟨a0,_⟩ r h=>(eq k a0).trans h
end spec_l12Active
namespace spec_l12Rotate_ga
def C (k:Nat):Cn:=⟨[.give TStore,.give TDisk],[TStore,TDisk,(.int .i64)],true,false,fun x=>f k x.1 x.2.1⟩
def D (k:Nat):List Ce:=[q (spec_l12Active.ctr k),q (spec_Sync.ctr k),q (spec_l11Code.ctr k),q (spec_SegName.ctr k),q (spec_l11Fresh.ctr k),q (spec_PutLive.ctr k),q (spec_l14Drop_g.ctr k)]
def E (k:Nat):Env:=en (D k) [] 0 [] k
theorem eq (k:Nat) (a0:Ty.den TStore) (a1:Ty.den TDisk):rn (E k) Tryz.f154 (C k) (a0,a1,())=f k a0 a1:=by kernel_rfl
theorem ctr (k:Nat):Cp 154 (C k):=rc rfl (D k) (by kernel_rfl) Tryz.func154 (by kernel_rfl) rfl fun ⟨a0,a1,_⟩ r h=>(eq k a0 a1).trans h
end spec_l12Rotate_ga
namespace spec_l12Add_ga
def C (k:Nat):Cn:=⟨[.give TStore,.give TDisk,.val TRec],[TStore,TDisk,TPlace,(.int .i64)],true,false,fun x=>f k x.1 x.2.1 x.2.2.1⟩
def D (k:Nat):List Ce:=[q (spec_ShowRec.ctr k),q (spec_Frame.ctr k),q (spec_l12Rotate_ga.ctr k),q (spec_l12Active.ctr k),q (spec_Append.ctr k),q (spec_l11Code.ctr k)]
def E (k:Nat):Env:=en (D k) [] 0 [] k
theorem eq (k:Nat) (a0:Ty.den TStore) (a1:Ty.den TDisk) (a2:Ty.den TRec):rn (E k) Tryz.f102 (C k) (a0,a1,a2,())=f k a0 a1 a2:=by kernel_rfl
theorem ctr (k:Nat):Cp 102 (C k):=rc rfl (D k) (by kernel_rfl) Tryz.func102 (by kernel_rfl) rfl fun ⟨a0,a1,a2,_⟩ r h=>(eq k a0 a1 a2).trans h
end spec_l12Add_ga
namespace spec_l12Commit_ga
def C (k:Nat):Cn:=⟨[.give TStore,.give TDisk,.give (.slice TPut)],[TStore,TDisk,(.int .i64)],true,false,fun x=>f k x.1 x.2.1 x.2.2.1⟩
def D (k:Nat):List Ce:=[q (spec_l12Add_ga.ctr k),q (spec_l9Put.ctr k),q (spec_l9Seal.ctr k),q (spec_l12Active.ctr k),q (spec_Sync.ctr k),q (spec_l11Code.ctr k)]
def E (k:Nat):Env:=en (D k) [(6,[2,3,4,6,7,9,10,11,12])] 0 [] k
section
variable (k:Nat) (a0:Ty.den TStore) (a1:Ty.den TDisk) (a2:List (Ty.den TPut))
def K0:Ex→St→Rs:=runK (E k) (eK (E k) Tryz.f54 (C k) (a0,a1,a2,())) [.blk 0,.code (at_ (bt 6 63) (body Tryz.f54))]
def V0 (n0:Nat):T0:=fun x0 x1 x2 x3 x4 x5 x6 x7 x8 x9 x10 x11 x12 x13 x14 x15 x16 x17 x18 x19 x20 x21 x22 x23 x24=>loopN (exec (E k) (at_ (bt 9 95) (body Tryz.f54))) (canon 0 [2,3,4,6,7,9,10,11,12]) (K0 k a0 a1 a2) n0 (mk 111 13 [(2,.ref 0),(3,.ptr 1 0 0),(4,.ptr 4 0 0),(6,.ptr 6 0 0),(7,.ptr 9 0 0),(9,.int .i64 x0),(10,.ref 11),(11,.ref 12),(12,.int .i64 x1)] [(0,.own false TPut x2),(2,.own false (.int .i64) x3),(3,.own false TEntry x4),(1,.box [.int .i64 x5,.ref 2,.ref 3,.int .i64 x6,.int .i64 x7,.int .i64 x8]),(5,.own false TPair x9),(4,.box [.ref 5,.int .i64 x10,.int .i64 x11,.bool x12]),(7,.own false (.int .i64) x13),(8,.own false TEntry x14),(6,.box [.int .i64 x15,.ref 7,.ref 8,.int .i64 x16,.int .i64 x17,.int .i64 x18]),(10,.own false TPair x19),(9,.box [.ref 10,.int .i64 x20,.int .i64 x21,.bool x22]),(11,.own false TRec x23),(12,.own false TEntry x24)])
theorem s0 (n0:Nat):V0 k a0 a1 a2 (n0+1)=b0 k (V0 k a0 a1 a2 n0):=by kernel_rfl
theorem e0:V0 k a0 a1 a2=l0 k:=loop_eq rfl (s0 k a0 a1 a2) fun _=>rfl
end
theorem eq (k:Nat) (a0:Ty.den TStore) (a1:Ty.den TDisk) (a2:List (Ty.den TPut)):rn (E k) Tryz.f54 (C k) (a0,a1,a2,())=f k a0 a1 a2:=(show _=t k (V0 k a0 a1 a2 k) a0 a1 a2 by kernel_rfl).trans (by rw [e0];rfl)
theorem ctr (k:Nat):Cp 54 (C k):=rc rfl (D k) (by kernel_rfl) Tryz.func54 (by kernel_rfl) rfl fun ⟨a0,a1,a2,_⟩ r h=>(eq k a0 a1 a2).trans h
end spec_l12Commit_ga
namespace spec_Commit_g2
def C (k:Nat):Cn:=⟨[.val TStore,.val TDisk,.give (.slice TPut)],[TStore,TDisk,(.int .i64)],true,false,fun x=>f k x.1 x.2.1 x.2.2.1⟩
def D (k:Nat):List Ce:=[q (spec_l12Copy.ctr k),q (spec_l3Copy.ctr k),q (spec_StoreOk.ctr k),q (spec_PutsOk.ctr k),q (spec_l12After.ctr k),q (spec_l12Commit_ga.ctr k)]
def E (k:Nat):Env:=en (D k) [] 0 [] k
theorem eq (k:Nat) (a0:Ty.den TStore) (a1:Ty.den TDisk) (a2:List (Ty.den TPut)):rn (E k) Tryz.f20 (C k) (a0,a1,a2,())=f k a0 a1 a2:=by kernel_rfl
theorem ctr (k:Nat):Cp 20 (C k):=rc rfl (D k) (by kernel_rfl) Tryz.func20 (by kernel_rfl) rfl fun ⟨a0,a1,a2,_⟩ r h=>(eq k a0 a1 a2).trans h
end spec_Commit_g2
namespace spec_l12Store
def C (k:Nat):Cn:=⟨[.io false Tl1Cur],[TStore,TDisk],true,true,fun x=>f k x.1⟩
def D (k:Nat):List Ce:=[q (spec_l1PickInt.ctr k),q (spec_DiskNew.ctr k),q (spec_Open_g.ctr k),q (spec_l1Below.ctr k),q (spec_l1Once.ctr k),q (spec_Merge.ctr k),q (spec_l12Puts.ctr k),q (spec_Commit_g2.ctr k)]
def E (k:Nat):Env:=en (D k) [(3,[0,2,3,4,5,7])] 1 [] k
section
variable (k:Nat) (a0:Ty.den Tl1Cur)
def K0:Ex→St→Rs:=runK (E k) (eK (E k) Tryz.f46 (C k) (a0,())) [.blk 0,.code (at_ (bt 3 7) (body Tryz.f46))]
def V0 (n0:Nat):T0:=fun x0 x1 x2 x3 x4 x5 x6 x7 x8 x9 x10 x11 x12 x13 x14 x15 x16 x17 x18 x19 x20 x21 x22 x23=>loopN (exec (E k) (at_ (bt 6 11) (body Tryz.f46))) (canon 1 [0,2,3,4,5,7]) (K0 k a0) n0 (mk 60 11 [(0,.ptr 0 0 0),(2,.ptr 1 0 0),(3,.ptr 4 0 0),(4,.ptr 6 0 0),(5,.ptr 9 0 0),(7,.int .i64 x0)] [(0,.box [.sl true (.int .u8) x1,.int .i64 x2,.int .i64 x3]),(2,.own false (.int .i64) x4),(3,.own false TEntry x5),(1,.box [.int .i64 x6,.ref 2,.ref 3,.int .i64 x7,.int .i64 x8,.int .i64 x9]),(5,.own false TPair x10),(4,.box [.ref 5,.int .i64 x11,.int .i64 x12,.bool x13]),(7,.own false (.int .i64) x14),(8,.own false TEntry x15),(6,.box [.int .i64 x16,.ref 7,.ref 8,.int .i64 x17,.int .i64 x18,.int .i64 x19]),(10,.own false TPair x20),(9,.box [.ref 10,.int .i64 x21,.int .i64 x22,.bool x23])])
theorem s0 (n0:Nat):V0 k a0 (n0+1)=b0 k (V0 k a0 n0):=by kernel_rfl
theorem e0:V0 k a0=l0 k:=loop_eq rfl (s0 k a0) fun _=>rfl
end
theorem eq (k:Nat) (a0:Ty.den Tl1Cur):rn (E k) Tryz.f46 (C k) (a0,())=f k a0:=(show _=t k (V0 k a0 k) a0 by kernel_rfl).trans (by rw [e0];rfl)
theorem ctr (k:Nat):Cp 46 (C k):=rc rfl (D k) (by kernel_rfl) Tryz.func46 (by kernel_rfl) rfl fun ⟨a0,_⟩ r h=>(eq k a0).trans h
end spec_l12Store
namespace spec_CacheNew
def C (k:Nat):Cn:=⟨[.val (.int .i64)],[TCache],true,false,fun x=>f k x.1⟩
def D (k:Nat):List Ce:=[q (spec_l1In.ctr k)]
def E (k:Nat):Env:=en (D k) [] 0 [] k
theorem eq (k:Nat) (a0:Int):rn (E k) Tryz.f94 (C k) (a0,())=f k a0:=by kernel_rfl
theorem ctr (k:Nat):Cp 94 (C k):=rc rfl (D k) (by kernel_rfl) Tryz.func94 (by kernel_rfl) rfl fun ⟨a0,_⟩ r h=>(eq k a0).trans h
end spec_CacheNew
namespace spec_CacheOk
def C (k:Nat):Cn:=⟨[.val TCache],[.bool],true,false,fun x=>f k x.1⟩
def D (k:Nat):List Ce:=[q (spec_l1In.ctr k)]
def E (k:Nat):Env:=en (D k) [(4,[1,3]),(7,[1,3,4])] 0 [] k
section
variable (k:Nat) (a0:Ty.den TCache)
def K0:Ex→St→Rs:=runK (E k) (eK (E k) Tryz.f23 (C k) (a0,())) [.blk 0,.code (at_ (bt 3 7) (body Tryz.f23))]
def B0 (n0:Nat):Ex→St→Rs:=lpK (E k) (at_ (bt 6 11) (body Tryz.f23)) 0 [1,3] (K0 k a0) n0
def K1 (n0:Nat):Ex→St→Rs:=runK (E k) (B0 k a0 n0) [.blk 2,.blk 1,.code (at_ (bt 8 203) (body Tryz.f23))]
def V0 (n0:Nat):T0:=fun x0 x1 x2 x3=>loopN (exec (E k) (at_ (bt 6 11) (body Tryz.f23))) (canon 0 [1,3]) (K0 k a0) n0 (mk 47 1 [(1,.ptr 0 0 0),(3,.int .i64 x0)] [(0,.box [.int .i64 x1,.sl true TSlot x2,.int .i64 x3])])
def V1 (n0 n1:Nat):T1:=fun x0 x1 x2 x3 x4=>loopN (exec (E k) (at_ (bt 12 587) (body Tryz.f23))) (canon 0 [1,3,4]) (K1 k a0 n0) n1 (mk 47 1 [(1,.ptr 0 0 0),(3,.int .i64 x0),(4,.int .i64 x1)] [(0,.box [.int .i64 x2,.sl true TSlot x3,.int .i64 x4])])
theorem s0 (n0:Nat):V0 k a0 (n0+1)=b0 k (V1 k a0 n0 k) (V0 k a0 n0):=by kernel_rfl
theorem s1 (n0 n1:Nat):V1 k a0 n0 (n1+1)=b1 k (V0 k a0 n0) (V1 k a0 n0 n1):=by kernel_rfl
theorem e1 (n0:Nat):V1 k a0 n0=l1 k (V0 k a0 n0):=loop_eq rfl (s1 k a0 n0) fun _=>rfl
theorem e0 (n0:Nat):V0 k a0 n0=l0 k n0:=by
 induction n0 with
 | zero=>rfl
 | succ n0 ih =>
  have h:V0 k a0 (n0+1)=b0 k (V1 k a0 n0 k) (V0 k a0 n0):=s0 k a0 n0
  rw [h,e1,ih]
  rfl
end
theorem eq (k:Nat) (a0:Ty.den TCache):rn (E k) Tryz.f23 (C k) (a0,())=f k a0:=(show _=t k (V0 k a0 k) a0 by kernel_rfl).trans (by rw [e0];rfl)
theorem ctr (k:Nat):Cp 23 (C k):=rc rfl (D k) (by kernel_rfl) Tryz.func23 (by kernel_rfl) rfl fun ⟨a0,_⟩ r h=>(eq k a0).trans h
end spec_CacheOk
namespace spec_CacheGet
def C (k:Nat):Cn:=⟨[.val TCache,.val TStore,.val TDisk,.val .str],[TCache,TPair,(.int .i64)],true,false,fun x=>f k x.1 x.2.1 x.2.2.1 x.2.2.2.1⟩
def D (k:Nat):List Ce:=[q (spec_CacheOk.ctr k),q (spec_Get.ctr k),q (spec_DirGet.ctr k)]
def E (k:Nat):Env:=en (D k) [(9,[3,4,5,6,8,9,11,14,15,16,17])] 0 [] k
section
variable (k:Nat) (a0:Ty.den TCache) (a1:Ty.den TStore) (a2:Ty.den TDisk) (a3:ByteArray)
def K0:Ex→St→Rs:=runK (E k) (eK (E k) Tryz.f95 (C k) (a0,a1,a2,a3,())) [.blk 0,.code (at_ (bt 7 127) (body Tryz.f95))]
def V0 (n0:Nat):T0:=fun x0 x1 x2 x3 x4 x5 x6 x7 x8 x9 x10 x11 x12 x13 x14 x15 x16 x17 x18 x19 x20 x21 x22 x23 x24 x25 x26 x27 x28 x29 x30=>loopN (exec (E k) (at_ (bt 10 191) (body Tryz.f95))) (canon 0 [3,4,5,6,8,9,11,14,15,16,17]) (K0 k a0 a1 a2 a3) n0 (mk 145 9 [(3,.str x0),(4,.ptr 0 0 0),(5,.ptr 1 0 0),(6,.ptr 2 0 0),(8,.ptr 3 0 0),(9,.ptr 5 0 0),(11,.ptr 6 0 0),(14,.ptr 8 0 0),(15,.bool x1),(16,.int .i64 x2),(17,.int .i64 x3)] [(0,.box [.int .i64 x4,.sl true TSlot x5,.int .i64 x6]),(1,.box [.int .i64 x7,.sl true (.int .i64) x8,.sl true TEntry x9,.int .i64 x10,.int .i64 x11,.int .i64 x12]),(2,.box [.sl true TPair x13,.int .i64 x14,.int .i64 x15,.bool x16]),(4,.own false TSlot x17),(3,.box [.int .i64 x18,.ref 4,.int .i64 x19]),(5,.box [.str x20,.str x21,.int .i64 x22]),(7,.own false TSlot x23),(6,.box [.int .i64 x24,.ref 7,.int .i64 x25]),(8,.box [.str x26,.int .i64 x27,.int .i64 x28,.int .i64 x29,.int .i64 x30])])
theorem s0 (n0:Nat):V0 k a0 a1 a2 a3 (n0+1)=b0 k (V0 k a0 a1 a2 a3 n0):=by kernel_rfl
theorem e0:V0 k a0 a1 a2 a3=l0 k:=loop_eq rfl (s0 k a0 a1 a2 a3) fun _=>rfl
end
theorem eq (k:Nat) (a0:Ty.den TCache) (a1:Ty.den TStore) (a2:Ty.den TDisk) (a3:ByteArray):rn (E k) Tryz.f95 (C k) (a0,a1,a2,a3,())=f k a0 a1 a2 a3:=(show _=t k (V0 k a0 a1 a2 a3 k) a0 a1 a2 a3 by kernel_rfl).trans (by rw [e0];rfl)
theorem ctr (k:Nat):Cp 95 (C k):=rc rfl (D k) (by kernel_rfl) Tryz.func95 (by kernel_rfl) rfl fun ⟨a0,a1,a2,a3,_⟩ r h=>(eq k a0 a1 a2 a3).trans h
end spec_CacheGet
namespace spec_l22Cache
def C (k:Nat):Cn:=⟨[.io false Tl1Cur,.val TStore,.val TDisk],[TCache],true,true,fun x=>f k x.1 x.2.1 x.2.2.1⟩
def D (k:Nat):List Ce:=[q (spec_l1Below.ctr k),q (spec_CacheNew.ctr k),q (spec_l5Key.ctr k),q (spec_CacheGet.ctr k),q (spec_l1PickInt.ctr k)]
def E (k:Nat):Env:=en (D k) [(3,[0,4,5,6,7,8])] 1 [] k
section
variable (k:Nat) (a0:Ty.den Tl1Cur) (a1:Ty.den TStore) (a2:Ty.den TDisk)
def K0:Ex→St→Rs:=runK (E k) (eK (E k) Tryz.f47 (C k) (a0,a1,a2,())) [.blk 0,.code (at_ (bt 3 7) (body Tryz.f47))]
def V0 (n0:Nat):T0:=fun x0 x1 x2 x3 x4 x5 x6 x7 x8 x9 x10 x11 x12 x13 x14 x15 x16 x17 x18 x19=>loopN (exec (E k) (at_ (bt 6 11) (body Tryz.f47))) (canon 1 [0,4,5,6,7,8]) (K0 k a0 a1 a2) n0 (mk 67 7 [(0,.ptr 0 0 0),(4,.ptr 1 0 0),(5,.ptr 2 0 0),(6,.ptr 3 0 0),(7,.ptr 5 0 0),(8,.int .i64 x0)] [(0,.box [.sl true (.int .u8) x1,.int .i64 x2,.int .i64 x3]),(1,.box [.int .i64 x4,.sl true (.int .i64) x5,.sl true TEntry x6,.int .i64 x7,.int .i64 x8,.int .i64 x9]),(2,.box [.sl true TPair x10,.int .i64 x11,.int .i64 x12,.bool x13]),(4,.own false TSlot x14),(3,.box [.int .i64 x15,.ref 4,.int .i64 x16]),(6,.own false TSlot x17),(5,.box [.int .i64 x18,.ref 6,.int .i64 x19])])
theorem s0 (n0:Nat):V0 k a0 a1 a2 (n0+1)=b0 k (V0 k a0 a1 a2 n0):=by kernel_rfl
theorem e0:V0 k a0 a1 a2=l0 k:=loop_eq rfl (s0 k a0 a1 a2) fun _=>rfl
end
theorem eq (k:Nat) (a0:Ty.den Tl1Cur) (a1:Ty.den TStore) (a2:Ty.den TDisk):rn (E k) Tryz.f47 (C k) (a0,a1,a2,())=f k a0 a1 a2:=(show _=t k (V0 k a0 a1 a2 k) a0 a1 a2 by kernel_rfl).trans (by rw [e0];rfl)
theorem ctr (k:Nat):Cp 47 (C k):=rc rfl (D k) (by kernel_rfl) Tryz.func47 (by kernel_rfl) rfl fun ⟨a0,a1,a2,_⟩ r h=>(eq k a0 a1 a2).trans h
end spec_l22Cache
namespace spec_DrawCacheGet
def C (k:Nat):Cn:=⟨[.val (.slice (.int .u8))],[TCache,TStore,TDisk,.str],false,false,fun x=>f k x.1⟩
def D (k:Nat):List Ce:=[q (spec_l1New.ctr k),q (spec_l12Store.ctr k),q (spec_l22Cache.ctr k),q (spec_l5Key.ctr k)]
def E (k:Nat):Env:=en (D k) [] 0 [] k
theorem eq (k:Nat) (a0:List Int):rn (E k) Tryz.f17 (C k) (a0,())=f k a0:=by kernel_rfl
theorem ctr (k:Nat):Cp 17 (C k):=rc rfl (D k) (by kernel_rfl) Tryz.func17 (by kernel_rfl) rfl fun ⟨a0,_⟩ r h=>(eq k a0).trans h
end spec_DrawCacheGet
namespace laws_at
def C (k:Nat):Cn:=⟨[.val (.slice (.int .u8)),.val (.int .i64)],[(.int .i64)],true,false,fun x=>f k x.1 x.2.1⟩
def E (k:Nat):Env:=en [] [] 0 [] k
theorem eq (k:Nat) (a0:List Int) (a1:Int):rn (E k) Tryz.f19 (C k) (a0,a1,())=f k a0 a1:=by kernel_rfl
theorem ctr (k:Nat):Cp 19 (C k):=rc rfl [] (by kernel_rfl) Tryz.func19 (by kernel_rfl) rfl fun ⟨a0,a1,_⟩ r h=>(eq k a0 a1).trans h
end laws_at
namespace impl_in
def C (k:Nat):Cn:=⟨[.val (.int .i64),.val (.int .i64),.val (.int .i64)],[.bool],true,false,fun x=>f k x.1 x.2.1 x.2.2.1⟩
def E (k:Nat):Env:=en [] [] 0 [] k
theorem eq (k:Nat) (a0:Int) (a1:Int) (a2:Int):rn (E k) Tryz.f33 (C k) (a0,a1,a2,())=f k a0 a1 a2:=by kernel_rfl
theorem ctr (k:Nat):Cp 33 (C k):=rc rfl [] (by kernel_rfl) Tryz.func33 (by kernel_rfl) rfl fun ⟨a0,a1,a2,_⟩ r h=>(eq k a0 a1 a2).trans h
end impl_in
namespace impl_CacheNew
def C (k:Nat):Cn:=⟨[.val (.int .i64)],[TCache],true,false,fun x=>f k x.1⟩
def D (k:Nat):List Ce:=[q (impl_in.ctr k)]
def E (k:Nat):Env:=en (D k) [] 0 [] k
theorem eq (k:Nat) (a0:Int):rn (E k) Tryz.f18 (C k) (a0,())=f k a0:=by kernel_rfl
theorem ctr (k:Nat):Cp 18 (C k):=rc rfl (D k) (by kernel_rfl) Tryz.func18 (by kernel_rfl) rfl fun ⟨a0,_⟩ r h=>(eq k a0).trans h
end impl_CacheNew
namespace impl_copySlots
def C (k:Nat):Cn:=⟨[.val (.slice TSlot)],[(.slice TSlot)],true,false,fun x=>f k x.1⟩
def E (k:Nat):Env:=en [] [] 0 [] k
theorem eq (k:Nat) (a0:List (Ty.den TSlot)):rn (E k) Tryz.f55 (C k) (a0,())=f k a0:=by kernel_rfl
theorem ctr (k:Nat):Cp 55 (C k):=rc rfl [] (by kernel_rfl) Tryz.func55 (by kernel_rfl) rfl fun ⟨a0,_⟩ r h=>(eq k a0).trans h
end impl_copySlots
namespace impl_slotAt
def C (k:Nat):Cn:=⟨[.val (.slice TSlot),.val .str],[(.int .i64)],true,false,fun x=>f k x.1 x.2.1⟩
def E (k:Nat):Env:=en [] [(2,[1,7,8,9])] 0 [] k
section
variable (k:Nat) (a0:List (Ty.den TSlot)) (a1:ByteArray)
def K0:Ex→St→Rs:=runK (E k) (eK (E k) Tryz.f57 (C k) (a0,a1,())) [.blk 0,.code (at_ (bt 2 3) (body Tryz.f57))]
def V0 (n0:Nat):T0:=fun x0 x1 x2 x3=>loopN (exec (E k) (at_ (bt 5 5) (body Tryz.f57))) (canon 0 [1,7,8,9]) (K0 k a0 a1) n0 (mk 20 0 [(1,.str x0),(7,.sl true TSlot x1),(8,.int .i64 x2),(9,.int .i64 x3)] [])
theorem s0 (n0:Nat):V0 k a0 a1 (n0+1)=b0 k (V0 k a0 a1 n0):=by kernel_rfl
theorem e0:V0 k a0 a1=l0 k:=loop_eq rfl (s0 k a0 a1) fun _=>rfl
end
theorem eq (k:Nat) (a0:List (Ty.den TSlot)) (a1:ByteArray):rn (E k) Tryz.f57 (C k) (a0,a1,())=f k a0 a1:=(show _=t k (V0 k a0 a1 k) a0 a1 by kernel_rfl).trans (by rw [e0];rfl)
theorem ctr (k:Nat):Cp 57 (C k):=rc rfl [] (by kernel_rfl) Tryz.func57 (by kernel_rfl) rfl fun ⟨a0,a1,_⟩ r h=>(eq k a0 a1).trans h
end impl_slotAt
namespace impl_CacheOk
def C (k:Nat):Cn:=⟨[.val TCache],[.bool],true,false,fun x=>f k x.1⟩
def D (k:Nat):List Ce:=[q (impl_slotAt.ctr k),q (impl_in.ctr k)]
def E (k:Nat):Env:=en (D k) [(2,[1,6,7,8])] 0 [] k
section
variable (k:Nat) (a0:Ty.den TCache)
def K0:Ex→St→Rs:=runK (E k) (eK (E k) Tryz.f56 (C k) (a0,())) [.blk 0,.code (at_ (bt 2 3) (body Tryz.f56))]
def V0 (n0:Nat):T0:=fun x0 x1 x2 x3 x4 x5=>loopN (exec (E k) (at_ (bt 5 5) (body Tryz.f56))) (canon 0 [1,6,7,8]) (K0 k a0) n0 (mk 38 1 [(1,.ptr 0 0 0),(6,.sl true TSlot x0),(7,.int .i64 x1),(8,.int .i64 x2)] [(0,.box [.int .i64 x3,.sl true TSlot x4,.int .i64 x5])])
theorem s0 (n0:Nat):V0 k a0 (n0+1)=b0 k (V0 k a0 n0):=by kernel_rfl
theorem e0:V0 k a0=l0 k:=loop_eq rfl (s0 k a0) fun _=>rfl
end
theorem eq (k:Nat) (a0:Ty.den TCache):rn (E k) Tryz.f56 (C k) (a0,())=f k a0:=(show _=t k (V0 k a0 k) a0 by kernel_rfl).trans (by rw [e0];rfl)
theorem ctr (k:Nat):Cp 56 (C k):=rc rfl (D k) (by kernel_rfl) Tryz.func56 (by kernel_rfl) rfl fun ⟨a0,_⟩ r h=>(eq k a0).trans h
end impl_CacheOk
namespace impl_DirGet
def C (k:Nat):Cn:=⟨[.val (.slice TEntry),.val .str],[TEntry,.bool],true,false,fun x=>f k x.1 x.2.1⟩
def E (k:Nat):Env:=en [] [(2,[1,4,8,9,10])] 0 [] k
section
variable (k:Nat) (a0:List (Ty.den TEntry)) (a1:ByteArray)
def K0:Ex→St→Rs:=runK (E k) (eK (E k) Tryz.f58 (C k) (a0,a1,())) [.blk 0,.code (at_ (bt 2 3) (body Tryz.f58))]
def V0 (n0:Nat):T0:=fun x0 x1 x2 x3 x4 x5 x6 x7 x8=>loopN (exec (E k) (at_ (bt 5 5) (body Tryz.f58))) (canon 0 [1,4,8,9,10]) (K0 k a0 a1) n0 (mk 21 1 [(1,.str x0),(4,.ptr 0 0 0),(8,.sl true TEntry x1),(9,.int .i64 x2),(10,.int .i64 x3)] [(0,.box [.str x4,.int .i64 x5,.int .i64 x6,.int .i64 x7,.int .i64 x8])])
theorem s0 (n0:Nat):V0 k a0 a1 (n0+1)=b0 k (V0 k a0 a1 n0):=by kernel_rfl
theorem e0:V0 k a0 a1=l0 k:=loop_eq rfl (s0 k a0 a1) fun _=>rfl
end
theorem eq (k:Nat) (a0:List (Ty.den TEntry)) (a1:ByteArray):rn (E k) Tryz.f58 (C k) (a0,a1,())=f k a0 a1:=(show _=t k (V0 k a0 a1 k) a0 a1 by kernel_rfl).trans (by rw [e0];rfl)
theorem ctr (k:Nat):Cp 58 (C k):=rc rfl [] (by kernel_rfl) Tryz.func58 (by kernel_rfl) rfl fun ⟨a0,a1,_⟩ r h=>(eq k a0 a1).trans h
end impl_DirGet
namespace impl_Dec
def C (k:Nat):Cn:=⟨[.val (.int .i64)],[.str],true,false,fun x=>f k x.1⟩
def D (k:Nat):List Ce:=[q (lib_Itoa.ctr k)]
def E (k:Nat):Env:=en (D k) [] 0 [] k
theorem eq (k:Nat) (a0:Int):rn (E k) Tryz.f182 (C k) (a0,())=f k a0:=by kernel_rfl
theorem ctr (k:Nat):Cp 182 (C k):=rc rfl (D k) (by kernel_rfl) Tryz.func182 (by kernel_rfl) rfl fun ⟨a0,_⟩ r h=>(eq k a0).trans h
end impl_Dec
namespace impl_named
def C (k:Nat):Cn:=⟨[.val .str,.val (.int .i64)],[.str],true,false,fun x=>f k x.1 x.2.1⟩
def D (k:Nat):List Ce:=[q (impl_in.ctr k),q (impl_Dec.ctr k)]
def E (k:Nat):Env:=en (D k) [] 0 [] k
theorem eq (k:Nat) (a0:ByteArray) (a1:Int):rn (E k) Tryz.f138 (C k) (a0,a1,())=f k a0 a1:=by kernel_rfl
theorem ctr (k:Nat):Cp 138 (C k):=rc rfl (D k) (by kernel_rfl) Tryz.func138 (by kernel_rfl) rfl fun ⟨a0,a1,_⟩ r h=>(eq k a0 a1).trans h
end impl_named
namespace impl_SegName
def C (k:Nat):Cn:=⟨[.val (.int .i64)],[.str],true,false,fun x=>f k x.1⟩
def D (k:Nat):List Ce:=[q (impl_named.ctr k)]
def E (k:Nat):Env:=en (D k) [] 0 [] k
theorem eq (k:Nat) (a0:Int):rn (E k) Tryz.f87 (C k) (a0,())=f k a0:=by kernel_rfl
theorem ctr (k:Nat):Cp 87 (C k):=rc rfl (D k) (by kernel_rfl) Tryz.func87 (by kernel_rfl) rfl fun ⟨a0,_⟩ r h=>(eq k a0).trans h
end impl_SegName
namespace impl_fileAt
def C (k:Nat):Cn:=⟨[.val TDisk,.val .str],[(.int .i64)],true,false,fun x=>f k x.1 x.2.1⟩
def E (k:Nat):Env:=en [] [(2,[1,8,9,10])] 0 [] k
section
variable (k:Nat) (a0:Ty.den TDisk) (a1:ByteArray)
def K0:Ex→St→Rs:=runK (E k) (eK (E k) Tryz.f118 (C k) (a0,a1,())) [.blk 0,.code (at_ (bt 2 3) (body Tryz.f118))]
def V0 (n0:Nat):T0:=fun x0 x1 x2 x3=>loopN (exec (E k) (at_ (bt 5 5) (body Tryz.f118))) (canon 0 [1,8,9,10]) (K0 k a0 a1) n0 (mk 21 0 [(1,.str x0),(8,.sl true TPair x1),(9,.int .i64 x2),(10,.int .i64 x3)] [])
theorem s0 (n0:Nat):V0 k a0 a1 (n0+1)=b0 k (V0 k a0 a1 n0):=by kernel_rfl
theorem e0:V0 k a0 a1=l0 k:=loop_eq rfl (s0 k a0 a1) fun _=>rfl
end
theorem eq (k:Nat) (a0:Ty.den TDisk) (a1:ByteArray):rn (E k) Tryz.f118 (C k) (a0,a1,())=f k a0 a1:=(show _=t k (V0 k a0 a1 k) a0 a1 by kernel_rfl).trans (by rw [e0];rfl)
theorem ctr (k:Nat):Cp 118 (C k):=rc rfl [] (by kernel_rfl) Tryz.func118 (by kernel_rfl) rfl fun ⟨a0,a1,_⟩ r h=>(eq k a0 a1).trans h
end impl_fileAt
namespace impl_NameOk
def C (k:Nat):Cn:=⟨[.val .str],[.bool],true,false,fun x=>f k x.1⟩
def D (k:Nat):List Ce:=[q (impl_in.ctr k)]
def E (k:Nat):Env:=en (D k) [(2,[0,3])] 0 [] k
section
variable (k:Nat) (a0:ByteArray)
def K0:Ex→St→Rs:=runK (E k) (eK (E k) Tryz.f117 (C k) (a0,())) [.blk 0,.code (at_ (bt 2 3) (body Tryz.f117))]
def V0 (n0:Nat):T0:=fun x0 x1=>loopN (exec (E k) (at_ (bt 5 5) (body Tryz.f117))) (canon 0 [0,3]) (K0 k a0) n0 (mk 37 0 [(0,.str x0),(3,.int .i64 x1)] [])
theorem s0 (n0:Nat):V0 k a0 (n0+1)=b0 k (V0 k a0 n0):=by kernel_rfl
theorem e0:V0 k a0=l0 k:=loop_eq rfl (s0 k a0) fun _=>rfl
end
theorem eq (k:Nat) (a0:ByteArray):rn (E k) Tryz.f117 (C k) (a0,())=f k a0:=(show _=t k (V0 k a0 k) a0 by kernel_rfl).trans (by rw [e0];rfl)
theorem ctr (k:Nat):Cp 117 (C k):=rc rfl (D k) (by kernel_rfl) Tryz.func117 (by kernel_rfl) rfl fun ⟨a0,_⟩ r h=>(eq k a0).trans h
end impl_NameOk
namespace impl_DiskOk
def C (k:Nat):Cn:=⟨[.val TDisk],[.bool],true,false,fun x=>f k x.1⟩
def D (k:Nat):List Ce:=[q (impl_in.ctr k),q (impl_NameOk.ctr k)]
def E (k:Nat):Env:=en (D k) [(5,[1,3,23,24,25])] 0 [] k
section
variable (k:Nat) (a0:Ty.den TDisk)
def K0:Ex→St→Rs:=runK (E k) (eK (E k) Tryz.f78 (C k) (a0,())) [.blk 0,.code (at_ (bt 4 15) (body Tryz.f78))]
def V0 (n0:Nat):T0:=fun x0 x1 x2 x3 x4 x5 x6 x7=>loopN (exec (E k) (at_ (bt 7 23) (body Tryz.f78))) (canon 0 [1,3,23,24,25]) (K0 k a0) n0 (mk 69 1 [(1,.ptr 0 0 0),(3,.int .i64 x0),(23,.sl true TPair x1),(24,.int .i64 x2),(25,.int .i64 x3)] [(0,.box [.sl true TPair x4,.int .i64 x5,.int .i64 x6,.bool x7])])
theorem s0 (n0:Nat):V0 k a0 (n0+1)=b0 k (V0 k a0 n0):=by kernel_rfl
theorem e0:V0 k a0=l0 k:=loop_eq rfl (s0 k a0) fun _=>rfl
end
theorem eq (k:Nat) (a0:Ty.den TDisk):rn (E k) Tryz.f78 (C k) (a0,())=f k a0:=(show _=t k (V0 k a0 k) a0 by kernel_rfl).trans (by rw [e0];rfl)
theorem ctr (k:Nat):Cp 78 (C k):=rc rfl (D k) (by kernel_rfl) Tryz.func78 (by kernel_rfl) rfl fun ⟨a0,_⟩ r h=>(eq k a0).trans h
end impl_DiskOk
namespace impl_FileText
def C (k:Nat):Cn:=⟨[.val TDisk,.val .str],[.str,.bool],true,false,fun x=>f k x.1 x.2.1⟩
def D (k:Nat):List Ce:=[q (impl_fileAt.ctr k),q (impl_DiskOk.ctr k)]
def E (k:Nat):Env:=en (D k) [] 0 [] k
theorem eq (k:Nat) (a0:Ty.den TDisk) (a1:ByteArray):rn (E k) Tryz.f79 (C k) (a0,a1,())=f k a0 a1:=by kernel_rfl
theorem ctr (k:Nat):Cp 79 (C k):=rc rfl (D k) (by kernel_rfl) Tryz.func79 (by kernel_rfl) rfl fun ⟨a0,a1,_⟩ r h=>(eq k a0 a1).trans h
end impl_FileText
namespace impl_ReadVar
def C (k:Nat):Cn:=⟨[.val .str],[(.int .i64),(.int .i64)],true,false,fun x=>f k x.1⟩
def E (k:Nat):Env:=en [] [(3,[0,4,5])] 0 [] k
section
variable (k:Nat) (a0:ByteArray)
def K0:Ex→St→Rs:=runK (E k) (eK (E k) Tryz.f112 (C k) (a0,())) [.blk 0,.code (at_ (bt 3 7) (body Tryz.f112))]
def V0 (n0:Nat):T0:=fun x0 x1 x2=>loopN (exec (E k) (at_ (bt 6 11) (body Tryz.f112))) (canon 0 [0,4,5]) (K0 k a0) n0 (mk 39 0 [(0,.str x0),(4,.int .i64 x1),(5,.int .i64 x2)] [])
theorem s0 (n0:Nat):V0 k a0 (n0+1)=b0 k (V0 k a0 n0):=by kernel_rfl
theorem e0:V0 k a0=l0 k:=loop_eq rfl (s0 k a0) fun _=>rfl
end
theorem eq (k:Nat) (a0:ByteArray):rn (E k) Tryz.f112 (C k) (a0,())=f k a0:=(show _=t k (V0 k a0 k) a0 by kernel_rfl).trans (by rw [e0];rfl)
theorem ctr (k:Nat):Cp 112 (C k):=rc rfl [] (by kernel_rfl) Tryz.func112 (by kernel_rfl) rfl fun ⟨a0,_⟩ r h=>(eq k a0).trans h
end impl_ReadVar
namespace impl_Var
def C (k:Nat):Cn:=⟨[.val (.int .i64)],[.str],true,false,fun x=>f k x.1⟩
def D (k:Nat):List Ce:=[q (impl_in.ctr k)]
def E (k:Nat):Env:=en (D k) [(4,[0,3])] 0 [] k
section
variable (k:Nat) (a0:Int)
def K0:Ex→St→Rs:=runK (E k) (eK (E k) Tryz.f74 (C k) (a0,())) [.blk 0,.code (at_ (bt 4 15) (body Tryz.f74))]
def V0 (n0:Nat):T0:=fun x0 x1=>loopN (exec (E k) (at_ (bt 6 7) (body Tryz.f74))) (canon 0 [0,3]) (K0 k a0) n0 (mk 24 1 [(0,.int .i64 x0),(3,.ref 0)] [(0,.own false (.int .u8) x1)])
theorem s0 (n0:Nat):V0 k a0 (n0+1)=b0 k (V0 k a0 n0):=by kernel_rfl
theorem e0:V0 k a0=l0 k:=loop_eq rfl (s0 k a0) fun _=>rfl
end
theorem eq (k:Nat) (a0:Int):rn (E k) Tryz.f74 (C k) (a0,())=f k a0:=(show _=t k (V0 k a0 k) a0 by kernel_rfl).trans (by rw [e0];rfl)
theorem ctr (k:Nat):Cp 74 (C k):=rc rfl (D k) (by kernel_rfl) Tryz.func74 (by kernel_rfl) rfl fun ⟨a0,_⟩ r h=>(eq k a0).trans h
end impl_Var
namespace impl_textOf
def C (k:Nat):Cn:=⟨[.val .str],[.str],true,false,fun x=>f k x.1⟩
def D (k:Nat):List Ce:=[q (impl_Var.ctr k)]
def E (k:Nat):Env:=en (D k) [] 0 [] k
theorem eq (k:Nat) (a0:ByteArray):rn (E k) Tryz.f69 (C k) (a0,())=f k a0:=by kernel_rfl
theorem ctr (k:Nat):Cp 69 (C k):=rc rfl (D k) (by kernel_rfl) Tryz.func69 (by kernel_rfl) rfl fun ⟨a0,_⟩ r h=>(eq k a0).trans h
end impl_textOf
namespace impl_Crc
def C (k:Nat):Cn:=⟨[.val .str],[(.int .i64)],true,false,fun x=>f k x.1⟩
def E (k:Nat):Env:=en [] [(3,[0,3,4]),(7,[0,3,4,18])] 0 [] k
section
variable (k:Nat) (a0:ByteArray)
def K0:Ex→St→Rs:=runK (E k) (eK (E k) Tryz.f71 (C k) (a0,())) [.blk 0,.code (at_ (bt 3 7) (body Tryz.f71))]
def B0 (n0:Nat):Ex→St→Rs:=lpK (E k) (at_ (bt 6 11) (body Tryz.f71)) 0 [0,3,4] (K0 k a0) n0
def K1 (n0:Nat):Ex→St→Rs:=runK (E k) (B0 k a0 n0) [.blk 2,.blk 1,.code (at_ (bt 8 203) (body Tryz.f71))]
def V0 (n0:Nat):T0:=fun x0 x1 x2=>loopN (exec (E k) (at_ (bt 6 11) (body Tryz.f71))) (canon 0 [0,3,4]) (K0 k a0) n0 (mk 32 0 [(0,.str x0),(3,.int .u32 x1),(4,.int .i64 x2)] [])
def V1 (n0 n1:Nat):T1:=fun x0 x1 x2 x3=>loopN (exec (E k) (at_ (bt 13 1611) (body Tryz.f71))) (canon 0 [0,3,4,18]) (K1 k a0 n0) n1 (mk 32 0 [(0,.str x0),(3,.int .u32 x1),(4,.int .i64 x2),(18,.int .i64 x3)] [])
theorem s0 (n0:Nat):V0 k a0 (n0+1)=b0 k (V1 k a0 n0 k) (V0 k a0 n0):=by kernel_rfl
theorem s1 (n0 n1:Nat):V1 k a0 n0 (n1+1)=b1 k (V0 k a0 n0) (V1 k a0 n0 n1):=by kernel_rfl
theorem e1 (n0:Nat):V1 k a0 n0=l1 k (V0 k a0 n0):=loop_eq rfl (s1 k a0 n0) fun _=>rfl
theorem e0 (n0:Nat):V0 k a0 n0=l0 k n0:=by
 induction n0 with
 | zero=>rfl
 | succ n0 ih =>
  have h:V0 k a0 (n0+1)=b0 k (V1 k a0 n0 k) (V0 k a0 n0):=s0 k a0 n0
  rw [h,e1,ih]
  rfl
end
theorem eq (k:Nat) (a0:ByteArray):rn (E k) Tryz.f71 (C k) (a0,())=f k a0:=(show _=t k (V0 k a0 k) a0 by kernel_rfl).trans (by rw [e0];rfl)
theorem ctr (k:Nat):Cp 71 (C k):=rc rfl [] (by kernel_rfl) Tryz.func71 (by kernel_rfl) rfl fun ⟨a0,_⟩ r h=>(eq k a0).trans h
end impl_Crc
namespace impl_Fixed
def C (k:Nat):Cn:=⟨[.val (.int .i64),.val (.int .i64)],[.str],true,false,fun x=>f k x.1 x.2.1⟩
def D (k:Nat):List Ce:=[q (impl_in.ctr k)]
def E (k:Nat):Env:=en (D k) [(5,[0,5,6])] 0 [] k
section
variable (k:Nat) (a0:Int) (a1:Int)
def K0:Ex→St→Rs:=runK (E k) (eK (E k) Tryz.f70 (C k) (a0,a1,())) [.blk 0,.code (at_ (bt 4 15) (body Tryz.f70))]
def V0 (n0:Nat):T0:=fun x0 x1 x2=>loopN (exec (E k) (at_ (bt 7 23) (body Tryz.f70))) (canon 0 [0,5,6]) (K0 k a0 a1) n0 (mk 35 1 [(0,.int .i64 x0),(5,.ref 0),(6,.int .i64 x1)] [(0,.own false (.int .u8) x2)])
theorem s0 (n0:Nat):V0 k a0 a1 (n0+1)=b0 k (V0 k a0 a1 n0):=by kernel_rfl
theorem e0:V0 k a0 a1=l0 k:=loop_eq rfl (s0 k a0 a1) fun _=>rfl
end
theorem eq (k:Nat) (a0:Int) (a1:Int):rn (E k) Tryz.f70 (C k) (a0,a1,())=f k a0 a1:=(show _=t k (V0 k a0 a1 k) a0 a1 by kernel_rfl).trans (by rw [e0];rfl)
theorem ctr (k:Nat):Cp 70 (C k):=rc rfl (D k) (by kernel_rfl) Tryz.func70 (by kernel_rfl) rfl fun ⟨a0,a1,_⟩ r h=>(eq k a0 a1).trans h
end impl_Fixed
namespace impl_Frame
def C (k:Nat):Cn:=⟨[.val .str],[.str],true,false,fun x=>f k x.1⟩
def D (k:Nat):List Ce:=[q (impl_textOf.ctr k),q (impl_Crc.ctr k),q (impl_Fixed.ctr k)]
def E (k:Nat):Env:=en (D k) [] 0 [] k
theorem eq (k:Nat) (a0:ByteArray):rn (E k) Tryz.f28 (C k) (a0,())=f k a0:=by kernel_rfl
theorem ctr (k:Nat):Cp 28 (C k):=rc rfl (D k) (by kernel_rfl) Tryz.func28 (by kernel_rfl) rfl fun ⟨a0,_⟩ r h=>(eq k a0).trans h
end impl_Frame
namespace impl_Unframe
def C (k:Nat):Cn:=⟨[.val .str],[.str,(.int .i64)],true,false,fun x=>f k x.1⟩
def D (k:Nat):List Ce:=[q (impl_ReadVar.ctr k),q (impl_Frame.ctr k)]
def E (k:Nat):Env:=en (D k) [] 0 [] k
theorem eq (k:Nat) (a0:ByteArray):rn (E k) Tryz.f75 (C k) (a0,())=f k a0:=by kernel_rfl
theorem ctr (k:Nat):Cp 75 (C k):=rc rfl (D k) (by kernel_rfl) Tryz.func75 (by kernel_rfl) rfl fun ⟨a0,_⟩ r h=>(eq k a0).trans h
end impl_Unframe
namespace impl_scanner__num
def C (k:Nat):Cn:=⟨[.io true Tscanner],[(.int .i64)],true,false,fun x=>f k x.1⟩
def D (k:Nat):List Ce:=[q (impl_ReadVar.ctr k)]
def E (k:Nat):Env:=en (D k) [] 1 [] k
theorem eq (k:Nat) (a0:Ty.den Tscanner):rn (E k) Tryz.f113 (C k) (a0,())=f k a0:=by kernel_rfl
theorem ctr (k:Nat):Cp 113 (C k):=rc rfl (D k) (by kernel_rfl) Tryz.func113 (by kernel_rfl) rfl fun ⟨a0,_⟩ r h=>(eq k a0).trans h
end impl_scanner__num
namespace impl_scanner__bytes
def C (k:Nat):Cn:=⟨[.io true Tscanner,.val (.int .i64)],[.str],true,false,fun x=>f k x.1 x.2.1⟩
def E (k:Nat):Env:=en [] [] 1 [] k
theorem eq (k:Nat) (a0:Ty.den Tscanner) (a1:Int):rn (E k) Tryz.f116 (C k) (a0,a1,())=f k a0 a1:=by kernel_rfl
theorem ctr (k:Nat):Cp 116 (C k):=rc rfl [] (by kernel_rfl) Tryz.func116 (by kernel_rfl) rfl fun ⟨a0,a1,_⟩ r h=>(eq k a0 a1).trans h
end impl_scanner__bytes
namespace impl_scanner__text
def C (k:Nat):Cn:=⟨[.io true Tscanner],[.str],true,false,fun x=>f k x.1⟩
def D (k:Nat):List Ce:=[q (impl_scanner__num.ctr k),q (impl_scanner__bytes.ctr k)]
def E (k:Nat):Env:=en (D k) [] 1 [] k
theorem eq (k:Nat) (a0:Ty.den Tscanner):rn (E k) Tryz.f114 (C k) (a0,())=f k a0:=by kernel_rfl
theorem ctr (k:Nat):Cp 114 (C k):=rc rfl (D k) (by kernel_rfl) Tryz.func114 (by kernel_rfl) rfl fun ⟨a0,_⟩ r h=>(eq k a0).trans h
end impl_scanner__text
namespace impl_KeyOk
def C (k:Nat):Cn:=⟨[.val .str],[.bool],true,false,fun x=>f k x.1⟩
def D (k:Nat):List Ce:=[q (impl_in.ctr k)]
def E (k:Nat):Env:=en (D k) [] 0 [] k
theorem eq (k:Nat) (a0:ByteArray):rn (E k) Tryz.f67 (C k) (a0,())=f k a0:=by kernel_rfl
theorem ctr (k:Nat):Cp 67 (C k):=rc rfl (D k) (by kernel_rfl) Tryz.func67 (by kernel_rfl) rfl fun ⟨a0,_⟩ r h=>(eq k a0).trans h
end impl_KeyOk
namespace impl_RecOk
def C (k:Nat):Cn:=⟨[.val TRec],[.bool],true,false,fun x=>f k x.1⟩
def D (k:Nat):List Ce:=[q (impl_KeyOk.ctr k),q (impl_in.ctr k)]
def E (k:Nat):Env:=en (D k) [] 0 [] k
theorem eq (k:Nat) (a0:Ty.den TRec):rn (E k) Tryz.f72 (C k) (a0,())=f k a0:=by kernel_rfl
theorem ctr (k:Nat):Cp 72 (C k):=rc rfl (D k) (by kernel_rfl) Tryz.func72 (by kernel_rfl) rfl fun ⟨a0,_⟩ r h=>(eq k a0).trans h
end impl_RecOk
namespace impl_ReadFixed
def C (k:Nat):Cn:=⟨[.val .str,.val (.int .i64)],[(.int .i64),.bool],true,false,fun x=>f k x.1 x.2.1⟩
def D (k:Nat):List Ce:=[q (impl_in.ctr k)]
def E (k:Nat):Env:=en (D k) [(5,[0,6,17,18])] 0 [] k
section
variable (k:Nat) (a0:ByteArray) (a1:Int)
def K0:Ex→St→Rs:=runK (E k) (eK (E k) Tryz.f115 (C k) (a0,a1,())) [.blk 0,.code (at_ (bt 4 15) (body Tryz.f115))]
def V0 (n0:Nat):T0:=fun x0 x1 x2 x3=>loopN (exec (E k) (at_ (bt 7 23) (body Tryz.f115))) (canon 0 [0,6,17,18]) (K0 k a0 a1) n0 (mk 30 0 [(0,.str x0),(6,.int .i64 x1),(17,.int .i64 x2),(18,.int .i64 x3)] [])
theorem s0 (n0:Nat):V0 k a0 a1 (n0+1)=b0 k (V0 k a0 a1 n0):=by kernel_rfl
theorem e0:V0 k a0 a1=l0 k:=loop_eq rfl (s0 k a0 a1) fun _=>rfl
end
theorem eq (k:Nat) (a0:ByteArray) (a1:Int):rn (E k) Tryz.f115 (C k) (a0,a1,())=f k a0 a1:=(show _=t k (V0 k a0 a1 k) a0 a1 by kernel_rfl).trans (by rw [e0];rfl)
theorem ctr (k:Nat):Cp 115 (C k):=rc rfl (D k) (by kernel_rfl) Tryz.func115 (by kernel_rfl) rfl fun ⟨a0,a1,_⟩ r h=>(eq k a0 a1).trans h
end impl_ReadFixed
namespace impl_ReadRec
def C (k:Nat):Cn:=⟨[.val .str],[TRec,.bool],true,false,fun x=>f k x.1⟩
def D (k:Nat):List Ce:=[q (impl_scanner__num.ctr k),q (impl_scanner__text.ctr k),q (impl_RecOk.ctr k),q (impl_scanner__bytes.ctr k),q (impl_ReadFixed.ctr k)]
def E (k:Nat):Env:=en (D k) [] 0 [] k
theorem eq (k:Nat) (a0:ByteArray):rn (E k) Tryz.f76 (C k) (a0,())=f k a0:=by kernel_rfl
theorem ctr (k:Nat):Cp 76 (C k):=rc rfl (D k) (by kernel_rfl) Tryz.func76 (by kernel_rfl) rfl fun ⟨a0,_⟩ r h=>(eq k a0).trans h
end impl_ReadRec
namespace impl_RecAt
def C (k:Nat):Cn:=⟨[.val .str,.val (.int .i64),.val (.int .i64)],[TRec,.bool],true,false,fun x=>f k x.1 x.2.1 x.2.2.1⟩
def D (k:Nat):List Ce:=[q (impl_in.ctr k),q (impl_Unframe.ctr k),q (impl_ReadRec.ctr k)]
def E (k:Nat):Env:=en (D k) [] 0 [] k
theorem eq (k:Nat) (a0:ByteArray) (a1:Int) (a2:Int):rn (E k) Tryz.f88 (C k) (a0,a1,a2,())=f k a0 a1 a2:=by kernel_rfl
theorem ctr (k:Nat):Cp 88 (C k):=rc rfl (D k) (by kernel_rfl) Tryz.func88 (by kernel_rfl) rfl fun ⟨a0,a1,a2,_⟩ r h=>(eq k a0 a1 a2).trans h
end impl_RecAt
namespace impl_Get
def C (k:Nat):Cn:=⟨[.val TStore,.val TDisk,.val .str],[TPair,(.int .i64)],true,false,fun x=>f k x.1 x.2.1 x.2.2.1⟩
def D (k:Nat):List Ce:=[q (impl_DirGet.ctr k),q (impl_SegName.ctr k),q (impl_FileText.ctr k),q (impl_RecAt.ctr k)]
def E (k:Nat):Env:=en (D k) [] 0 [] k
theorem eq (k:Nat) (a0:Ty.den TStore) (a1:Ty.den TDisk) (a2:ByteArray):rn (E k) Tryz.f38 (C k) (a0,a1,a2,())=f k a0 a1 a2:=by kernel_rfl
theorem ctr (k:Nat):Cp 38 (C k):=rc rfl (D k) (by kernel_rfl) Tryz.func38 (by kernel_rfl) rfl fun ⟨a0,a1,a2,_⟩ r h=>(eq k a0 a1 a2).trans h
end impl_Get
namespace impl_CacheGet
def C (k:Nat):Cn:=⟨[.val TCache,.val TStore,.val TDisk,.val .str],[TCache,TPair,(.int .i64)],false,false,fun x=>f k x.1 x.2.1 x.2.2.1 x.2.2.2.1⟩
def D (k:Nat):List Ce:=[q (impl_copySlots.ctr k),q (impl_CacheOk.ctr k),q (impl_Get.ctr k),q (impl_slotAt.ctr k),q (impl_DirGet.ctr k)]
def E (k:Nat):Env:=en (D k) [] 0 [] k
theorem eq (k:Nat) (a0:Ty.den TCache) (a1:Ty.den TStore) (a2:Ty.den TDisk) (a3:ByteArray):rn (E k) Tryz.f21 (C k) (a0,a1,a2,a3,())=f k a0 a1 a2 a3:=by kernel_rfl
theorem ctr (k:Nat):Cp 21 (C k):=rc rfl (D k) (by kernel_rfl) Tryz.func21 (by kernel_rfl) rfl fun ⟨a0,a1,a2,a3,_⟩ r h=>(eq k a0 a1 a2 a3).trans h
end impl_CacheGet
namespace laws_FnCaches
def C (k:Nat):Cn:=⟨[.val (.slice (.int .u8))],[.bool],true,false,fun x=>f k x.1⟩
def D (k:Nat):List Ce:=[q (laws_big.ctr k),q (spec_DrawCacheGet.ctr k),q (laws_at.ctr k),q (impl_CacheNew.ctr k),q (spec_Commit_g2.ctr k),q (impl_CacheGet.ctr k),q (spec_Get.ctr k),q (spec_CacheOk.ctr k)]
def E (k:Nat):Env:=en (D k) [(7,[0,4,5,7,8,9])] 0 [] k
section
variable (k:Nat) (a0:List Int)
def K0:Ex→St→Rs:=runK (E k) (eK (E k) Tryz.f4 (C k) (a0,())) [.blk 0,.code (at_ (bt 6 63) (body Tryz.f4))]
def V0 (n0:Nat):T0:=fun x0 x1 x2 x3 x4 x5 x6 x7 x8 x9 x10 x11 x12 x13 x14 x15=>loopN (exec (E k) (at_ (bt 9 95) (body Tryz.f4))) (canon 0 [0,4,5,7,8,9]) (K0 k a0) n0 (mk 122 5 [(0,.sl true (.int .u8) x0),(4,.ptr 0 0 0),(5,.ptr 1 0 0),(7,.ptr 2 0 0),(8,.ref 4),(9,.int .i64 x1)] [(0,.box [.int .i64 x2,.sl false (.int .i64) x3,.sl false TEntry x4,.int .i64 x5,.int .i64 x6,.int .i64 x7]),(1,.box [.sl false TPair x8,.int .i64 x9,.int .i64 x10,.bool x11]),(3,.own false TSlot x12),(2,.box [.int .i64 x13,.ref 3,.int .i64 x14]),(4,.own false .str x15)])
def V1 (n0:Nat):T1:=fun x0 x1 x2 x3 x4 x5 x6 x7 x8 x9 x10 x11 x12 x13 x14 x15=>loopN (exec (E k) (at_ (bt 9 95) (body Tryz.f4))) (canon 0 [0,4,5,7,8,9]) (K0 k a0) n0 (mk 122 7 [(0,.sl true (.int .u8) x0),(4,.ptr 0 0 0),(5,.ptr 3 0 0),(7,.ptr 5 0 0),(8,.ref 6),(9,.int .i64 x1)] [(1,.own false (.int .i64) x2),(2,.own false TEntry x3),(0,.box [.int .i64 x4,.ref 1,.ref 2,.int .i64 x5,.int .i64 x6,.int .i64 x7]),(4,.own false TPair x8),(3,.box [.ref 4,.int .i64 x9,.int .i64 x10,.bool x11]),(5,.box [.int .i64 x12,.sl false TSlot x13,.int .i64 x14]),(6,.own false .str x15)])
def V2 (n0:Nat):T2:=fun x0 x1 x2 x3 x4 x5 x6 x7 x8 x9 x10 x11 x12 x13 x14 x15=>loopN (exec (E k) (at_ (bt 9 95) (body Tryz.f4))) (canon 0 [0,4,5,7,8,9]) (K0 k a0) n0 (mk 122 4 [(0,.sl true (.int .u8) x0),(4,.ptr 0 0 0),(5,.ptr 1 0 0),(7,.ptr 2 0 0),(8,.ref 3),(9,.int .i64 x1)] [(0,.box [.int .i64 x2,.sl false (.int .i64) x3,.sl false TEntry x4,.int .i64 x5,.int .i64 x6,.int .i64 x7]),(1,.box [.sl false TPair x8,.int .i64 x9,.int .i64 x10,.bool x11]),(2,.box [.int .i64 x12,.sl false TSlot x13,.int .i64 x14]),(3,.own false .str x15)])
theorem s0 (n0:Nat):V0 k a0 (n0+1)=b0 k (V1 k a0 n0) (V2 k a0 n0):=by kernel_rfl
theorem s1 (n0:Nat):V1 k a0 (n0+1)=b1 k (V1 k a0 n0):=by kernel_rfl
theorem s2 (n0:Nat):V2 k a0 (n0+1)=b2 k (V1 k a0 n0) (V2 k a0 n0):=by kernel_rfl
theorem e1:V1 k a0=l1 k:=loop_eq rfl (s1 k a0) fun _=>rfl
theorem e2 (n0:Nat):V2 k a0 n0=l2 k n0:=by
 induction n0 with
 | zero=>rfl
 | succ n0 ih =>
  have h:V2 k a0 (n0+1)=b2 k (V1 k a0 n0) (V2 k a0 n0):=s2 k a0 n0
  rw [h,e1,ih]
  rfl
theorem e0 (n0:Nat):V0 k a0 n0=l0 k n0:=by
 induction n0 with
 | zero=>rfl
 | succ n0 ih =>
  have h:V0 k a0 (n0+1)=b0 k (V1 k a0 n0) (V2 k a0 n0):=s0 k a0 n0
  rw [h,e1,e2]
  rfl
end
theorem eq (k:Nat) (a0:List Int):rn (E k) Tryz.f4 (C k) (a0,())=f k a0:=(show _=t k (V0 k a0 k) a0 by kernel_rfl).trans (by rw [e0];rfl)
theorem ctr (k:Nat):Cp 4 (C k):=rc rfl (D k) (by kernel_rfl) Tryz.func4 (by kernel_rfl) rfl fun ⟨a0,_⟩ r h=>(eq k a0).trans h
end laws_FnCaches
end
end Go.Proofs.YtmakghhmpgfboaaGreatDoor.G
