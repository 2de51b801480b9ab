/- Functions keep their contracts. -/
import Derived.Test.YtmakghhmpgfboaaGreatVTab
import Derived.Test.YtmakghhmpgfboaaGreatFP
set_option linter.unusedVariables false
set_option maxRecDepth 100000
namespace Go.Proofs.YtmakghhmpgfboaaGreat.G
open Go.V
noncomputable section
namespace laws_big
def C (k:Nat):Cn:=⟨[.val (.slice (.int .u8))],[.bool],true,false,fun x=>f k x.1⟩
def E (k:Nat):Env:=en [] [] 0 [] k
theorem eq (k:Nat) (a0:List Int):rn (E k) Tryz.f4 (C k) (a0,())=f k a0:=by kernel_rfl
theorem ctr (k:Nat):Cp 4 (C k):=rc rfl [] (by kernel_rfl) Tryz.func4 (by kernel_rfl) rfl fun ⟨a0,_⟩ r h=>(eq k a0).trans h
end laws_big
namespace spec_l1New
def C (k:Nat):Cn:=⟨[.val (.slice (.int .u8))],[.opq,Tl1Cur],false,true,fun x=>f k x.1⟩
def E (k:Nat):Env:=en [] [(3,[0,3,4])] 0 [] k
section
variable (k:Nat) (a0:List Int)
def K0:Ex→St→Rs:=runK (E k) (eB (E k) Tryz.f15 (C k) (a0,())) [.blk 0,.code (at_ (bt 3 7) (body Tryz.f15))]
def V0 (n0:Nat):T0:=fun x0 x1 x2=>loopN (exec (E k) (at_ (bt 6 11) (body Tryz.f15))) (canon 0 [0,3,4]) (K0 k a0) n0 (mk 32 0 [(0,.sl true (.int .u8) x0),(3,.int .i64 x1),(4,.int .i64 x2)] [])
theorem s0 (n0:Nat):V0 k a0 (n0+1)=b0 k (V0 k a0 n0):=by kernel_rfl
theorem e0:V0 k a0=l0 k:=loop_eq rfl (s0 k a0) fun _=>rfl
end
theorem eq (k:Nat) (a0:List Int):rb (E k) Tryz.f15 (C k) (a0,())=f k a0:=(show _=t k (V0 k a0 k) a0 by kernel_rfl).trans (by rw [e0];rfl)
theorem ctr (k:Nat):Cp 15 (C k):=rcb rfl rfl rfl [] (by kernel_rfl) Tryz.func15 (by kernel_rfl) rfl fun ⟨a0,_⟩ r h=>(eq k a0).trans h
end spec_l1New
namespace spec_l1In
def C (k:Nat):Cn:=⟨[.val (.int .i64),.val (.int .i64),.val (.int .i64)],[.bool],true,false,fun x=>f k x.1 x.2.1 x.2.2.1⟩
def E (k:Nat):Env:=en [] [] 0 [] k
theorem eq (k:Nat) (a0:Int) (a1:Int) (a2:Int):rn (E k) Tryz.f24 (C k) (a0,a1,a2,())=f k a0 a1 a2:=by kernel_rfl
theorem ctr (k:Nat):Cp 24 (C k):=rc rfl [] (by kernel_rfl) Tryz.func24 (by kernel_rfl) rfl fun ⟨a0,a1,a2,_⟩ r h=>(eq k a0 a1 a2).trans h
end spec_l1In
namespace spec_DiskNew
def C (k:Nat):Cn:=⟨[.val (.int .i64)],[TDisk],true,false,fun x=>f k x.1⟩
def D (k:Nat):List Ce:=[q (spec_l1In.ctr k)]
def E (k:Nat):Env:=en (D k) [] 0 [] k
theorem eq (k:Nat) (a0:Int):rn (E k) Tryz.f37 (C k) (a0,())=f k a0:=by kernel_rfl
theorem ctr (k:Nat):Cp 37 (C k):=rc rfl (D k) (by kernel_rfl) Tryz.func37 (by kernel_rfl) rfl fun ⟨a0,_⟩ r h=>(eq k a0).trans h
end spec_DiskNew
namespace spec_l3Used
def C (k:Nat):Cn:=⟨[.val TDisk],[(.int .i64)],true,false,fun x=>f k x.1⟩
def E (k:Nat):Env:=en [] [(3,[1,3,4])] 0 [] k
section
variable (k:Nat) (a0:Ty.den TDisk)
def K0:Ex→St→Rs:=runK (E k) (eK (E k) Tryz.f106 (C k) (a0,())) [.blk 0,.code (at_ (bt 3 7) (body Tryz.f106))]
def V0 (n0:Nat):T0:=fun x0 x1 x2 x3 x4 x5=>loopN (exec (E k) (at_ (bt 6 11) (body Tryz.f106))) (canon 0 [1,3,4]) (K0 k a0) n0 (mk 22 1 [(1,.ptr 0 0 0),(3,.int .i64 x0),(4,.int .i64 x1)] [(0,.box [.sl true TPair x2,.int .i64 x3,.int .i64 x4,.bool x5])])
theorem s0 (n0:Nat):V0 k a0 (n0+1)=b0 k (V0 k a0 n0):=by kernel_rfl
theorem e0:V0 k a0=l0 k:=loop_eq rfl (s0 k a0) fun _=>rfl
end
theorem eq (k:Nat) (a0:Ty.den TDisk):rn (E k) Tryz.f106 (C k) (a0,())=f k a0:=(show _=t k (V0 k a0 k) a0 by kernel_rfl).trans (by rw [e0];rfl)
theorem ctr (k:Nat):Cp 106 (C k):=rc rfl [] (by kernel_rfl) Tryz.func106 (by kernel_rfl) rfl fun ⟨a0,_⟩ r h=>(eq k a0).trans h
end spec_l3Used
namespace spec_NameOk
def C (k:Nat):Cn:=⟨[.val .str],[.bool],true,false,fun x=>f k x.1⟩
def D (k:Nat):List Ce:=[q (spec_l1In.ctr k)]
def E (k:Nat):Env:=en (D k) [(2,[0,3])] 0 [] k
section
variable (k:Nat) (a0:ByteArray)
def K0:Ex→St→Rs:=runK (E k) (eK (E k) Tryz.f107 (C k) (a0,())) [.blk 0,.code (at_ (bt 2 3) (body Tryz.f107))]
def V0 (n0:Nat):T0:=fun x0 x1=>loopN (exec (E k) (at_ (bt 5 5) (body Tryz.f107))) (canon 0 [0,3]) (K0 k a0) n0 (mk 36 0 [(0,.str x0),(3,.int .i64 x1)] [])
theorem s0 (n0:Nat):V0 k a0 (n0+1)=b0 k (V0 k a0 n0):=by kernel_rfl
theorem e0:V0 k a0=l0 k:=loop_eq rfl (s0 k a0) fun _=>rfl
end
theorem eq (k:Nat) (a0:ByteArray):rn (E k) Tryz.f107 (C k) (a0,())=f k a0:=(show _=t k (V0 k a0 k) a0 by kernel_rfl).trans (by rw [e0];rfl)
theorem ctr (k:Nat):Cp 107 (C k):=rc rfl (D k) (by kernel_rfl) Tryz.func107 (by kernel_rfl) rfl fun ⟨a0,_⟩ r h=>(eq k a0).trans h
end spec_NameOk
namespace spec_DiskOk
def C (k:Nat):Cn:=⟨[.val TDisk],[.bool],true,false,fun x=>f k x.1⟩
def D (k:Nat):List Ce:=[q (spec_l1In.ctr k),q (spec_l3Used.ctr k),q (spec_NameOk.ctr k)]
def E (k:Nat):Env:=en (D k) [(4,[1,3])] 0 [] k
section
variable (k:Nat) (a0:Ty.den TDisk)
def K0:Ex→St→Rs:=runK (E k) (eK (E k) Tryz.f62 (C k) (a0,())) [.blk 0,.code (at_ (bt 3 7) (body Tryz.f62))]
def V0 (n0:Nat):T0:=fun x0 x1 x2 x3 x4=>loopN (exec (E k) (at_ (bt 6 11) (body Tryz.f62))) (canon 0 [1,3]) (K0 k a0) n0 (mk 79 1 [(1,.ptr 0 0 0),(3,.int .i64 x0)] [(0,.box [.sl true TPair x1,.int .i64 x2,.int .i64 x3,.bool x4])])
theorem s0 (n0:Nat):V0 k a0 (n0+1)=b0 k (V0 k a0 n0):=by kernel_rfl
theorem e0:V0 k a0=l0 k:=loop_eq rfl (s0 k a0) fun _=>rfl
end
theorem eq (k:Nat) (a0:Ty.den TDisk):rn (E k) Tryz.f62 (C k) (a0,())=f k a0:=(show _=t k (V0 k a0 k) a0 by kernel_rfl).trans (by rw [e0];rfl)
theorem ctr (k:Nat):Cp 62 (C k):=rc rfl (D k) (by kernel_rfl) Tryz.func62 (by kernel_rfl) rfl fun ⟨a0,_⟩ r h=>(eq k a0).trans h
end spec_DiskOk
namespace spec_l3Copy
def C (k:Nat):Cn:=⟨[.val TDisk],[TDisk],true,false,fun x=>f k x.1⟩
def E (k:Nat):Env:=en [] [] 0 [] k
theorem eq (k:Nat) (a0:Ty.den TDisk):rn (E k) Tryz.f85 (C k) (a0,())=f k a0:=by kernel_rfl
theorem ctr (k:Nat):Cp 85 (C k):=rc rfl [] (by kernel_rfl) Tryz.func85 (by kernel_rfl) rfl fun ⟨a0,_⟩ r h=>(eq k a0).trans h
end spec_l3Copy
namespace spec_l3Find
def C (k:Nat):Cn:=⟨[.val TDisk,.val .str],[(.int .i64)],true,false,fun x=>f k x.1 x.2.1⟩
def E (k:Nat):Env:=en [] [(2,[1,2,5])] 0 [] k
section
variable (k:Nat) (a0:Ty.den TDisk) (a1:ByteArray)
def K0:Ex→St→Rs:=runK (E k) (eK (E k) Tryz.f64 (C k) (a0,a1,())) [.blk 0,.code (at_ (bt 2 3) (body Tryz.f64))]
def V0 (n0:Nat):T0:=fun x0 x1 x2 x3 x4 x5=>loopN (exec (E k) (at_ (bt 5 5) (body Tryz.f64))) (canon 0 [1,2,5]) (K0 k a0 a1) n0 (mk 22 1 [(1,.str x0),(2,.ptr 0 0 0),(5,.int .i64 x1)] [(0,.box [.sl true TPair x2,.int .i64 x3,.int .i64 x4,.bool x5])])
theorem s0 (n0:Nat):V0 k a0 a1 (n0+1)=b0 k (V0 k a0 a1 n0):=by kernel_rfl
theorem e0:V0 k a0 a1=l0 k:=loop_eq rfl (s0 k a0 a1) fun _=>rfl
end
theorem eq (k:Nat) (a0:Ty.den TDisk) (a1:ByteArray):rn (E k) Tryz.f64 (C k) (a0,a1,())=f k a0 a1:=(show _=t k (V0 k a0 a1 k) a0 a1 by kernel_rfl).trans (by rw [e0];rfl)
theorem ctr (k:Nat):Cp 64 (C k):=rc rfl [] (by kernel_rfl) Tryz.func64 (by kernel_rfl) rfl fun ⟨a0,a1,_⟩ r h=>(eq k a0 a1).trans h
end spec_l3Find
namespace spec_FileText
def C (k:Nat):Cn:=⟨[.val TDisk,.val .str],[.str,.bool],true,false,fun x=>f k x.1 x.2.1⟩
def D (k:Nat):List Ce:=[q (spec_DiskOk.ctr k),q (spec_l3Find.ctr k)]
def E (k:Nat):Env:=en (D k) [] 0 [] k
theorem eq (k:Nat) (a0:Ty.den TDisk) (a1:ByteArray):rn (E k) Tryz.f41 (C k) (a0,a1,())=f k a0 a1:=by kernel_rfl
theorem ctr (k:Nat):Cp 41 (C k):=rc rfl (D k) (by kernel_rfl) Tryz.func41 (by kernel_rfl) rfl fun ⟨a0,a1,_⟩ r h=>(eq k a0 a1).trans h
end spec_FileText
namespace spec_Dec
def C (k:Nat):Cn:=⟨[.val (.int .i64)],[.str],true,false,fun x=>f k x.1⟩
def E (k:Nat):Env:=en [] [(5,[0,3,4])] 0 [] k
section
variable (k:Nat) (a0:Int)
def K0:Ex→St→Rs:=runK (E k) (eK (E k) Tryz.f65 (C k) (a0,())) [.blk 0,.code (at_ (bt 5 31) (body Tryz.f65))]
def V0 (n0:Nat):T0:=fun x0 x1 x2=>loopN (exec (E k) (at_ (bt 7 15) (body Tryz.f65))) (canon 0 [0,3,4]) (K0 k a0) n0 (mk 31 0 [(0,.int .i64 x0),(3,.str x1),(4,.bool x2)] [])
theorem s0 (n0:Nat):V0 k a0 (n0+1)=b0 k (V0 k a0 n0):=by kernel_rfl
theorem e0:V0 k a0=l0 k:=loop_eq rfl (s0 k a0) fun _=>rfl
end
theorem eq (k:Nat) (a0:Int):rn (E k) Tryz.f65 (C k) (a0,())=f k a0:=(show _=t k (V0 k a0 k) a0 by kernel_rfl).trans (by rw [e0];rfl)
theorem ctr (k:Nat):Cp 65 (C k):=rc rfl [] (by kernel_rfl) Tryz.func65 (by kernel_rfl) rfl fun ⟨a0,_⟩ r h=>(eq k a0).trans h
end spec_Dec
namespace spec_ReadDec
def C (k:Nat):Cn:=⟨[.val .str],[(.int .i64),.bool],true,false,fun x=>f k x.1⟩
def D (k:Nat):List Ce:=[q (spec_Dec.ctr k)]
def E (k:Nat):Env:=en (D k) [(4,[0,4,5,6])] 0 [] k
section
variable (k:Nat) (a0:ByteArray)
def K0:Ex→St→Rs:=runK (E k) (eK (E k) Tryz.f152 (C k) (a0,())) [.blk 0,.code (at_ (bt 4 15) (body Tryz.f152))]
def V0 (n0:Nat):T0:=fun x0 x1 x2 x3=>loopN (exec (E k) (at_ (bt 7 23) (body Tryz.f152))) (canon 0 [0,4,5,6]) (K0 k a0) n0 (mk 61 0 [(0,.str x0),(4,.int .i64 x1),(5,.int .i64 x2),(6,.int .i64 x3)] [])
theorem s0 (n0:Nat):V0 k a0 (n0+1)=b0 k (V0 k a0 n0):=by kernel_rfl
theorem e0:V0 k a0=l0 k:=loop_eq rfl (s0 k a0) fun _=>rfl
end
theorem eq (k:Nat) (a0:ByteArray):rn (E k) Tryz.f152 (C k) (a0,())=f k a0:=(show _=t k (V0 k a0 k) a0 by kernel_rfl).trans (by rw [e0];rfl)
theorem ctr (k:Nat):Cp 152 (C k):=rc rfl (D k) (by kernel_rfl) Tryz.func152 (by kernel_rfl) rfl fun ⟨a0,_⟩ r h=>(eq k a0).trans h
end spec_ReadDec
namespace spec_SegName
def C (k:Nat):Cn:=⟨[.val (.int .i64)],[.str],true,false,fun x=>f k x.1⟩
def D (k:Nat):List Ce:=[q (spec_l1In.ctr k),q (spec_Dec.ctr k)]
def E (k:Nat):Env:=en (D k) [] 0 [] k
theorem eq (k:Nat) (a0:Int):rn (E k) Tryz.f42 (C k) (a0,())=f k a0:=by kernel_rfl
theorem ctr (k:Nat):Cp 42 (C k):=rc rfl (D k) (by kernel_rfl) Tryz.func42 (by kernel_rfl) rfl fun ⟨a0,_⟩ r h=>(eq k a0).trans h
end spec_SegName
namespace spec_HintName
def C (k:Nat):Cn:=⟨[.val (.int .i64)],[.str],true,false,fun x=>f k x.1⟩
def D (k:Nat):List Ce:=[q (spec_l1In.ctr k),q (spec_Dec.ctr k)]
def E (k:Nat):Env:=en (D k) [] 0 [] k
theorem eq (k:Nat) (a0:Int):rn (E k) Tryz.f91 (C k) (a0,())=f k a0:=by kernel_rfl
theorem ctr (k:Nat):Cp 91 (C k):=rc rfl (D k) (by kernel_rfl) Tryz.func91 (by kernel_rfl) rfl fun ⟨a0,_⟩ r h=>(eq k a0).trans h
end spec_HintName
namespace spec_IdOf
def C (k:Nat):Cn:=⟨[.val .str],[(.int .i64),.bool],true,false,fun x=>f k x.1⟩
def D (k:Nat):List Ce:=[q (spec_ReadDec.ctr k),q (spec_SegName.ctr k),q (spec_HintName.ctr k)]
def E (k:Nat):Env:=en (D k) [(2,[0,4])] 0 [] k
section
variable (k:Nat) (a0:ByteArray)
def K0:Ex→St→Rs:=runK (E k) (eK (E k) Tryz.f142 (C k) (a0,())) [.blk 0,.code (at_ (bt 2 3) (body Tryz.f142))]
def V0 (n0:Nat):T0:=fun x0 x1=>loopN (exec (E k) (at_ (bt 5 5) (body Tryz.f142))) (canon 0 [0,4]) (K0 k a0) n0 (mk 40 0 [(0,.str x0),(4,.int .i64 x1)] [])
theorem s0 (n0:Nat):V0 k a0 (n0+1)=b0 k (V0 k a0 n0):=by kernel_rfl
theorem e0:V0 k a0=l0 k:=loop_eq rfl (s0 k a0) fun _=>rfl
end
theorem eq (k:Nat) (a0:ByteArray):rn (E k) Tryz.f142 (C k) (a0,())=f k a0:=(show _=t k (V0 k a0 k) a0 by kernel_rfl).trans (by rw [e0];rfl)
theorem ctr (k:Nat):Cp 142 (C k):=rc rfl (D k) (by kernel_rfl) Tryz.func142 (by kernel_rfl) rfl fun ⟨a0,_⟩ r h=>(eq k a0).trans h
end spec_IdOf
namespace spec_Orphans
def C (k:Nat):Cn:=⟨[.val TDisk,.val TLive],[(.slice .str)],true,false,fun x=>f k x.1 x.2.1⟩
def D (k:Nat):List Ce:=[q (spec_DiskOk.ctr k),q (spec_IdOf.ctr k)]
def E (k:Nat):Env:=en (D k) [(5,[2,3,5,6]),(10,[2,3,5,6,7,8,9,10])] 0 [] k
section
variable (k:Nat) (a0:Ty.den TDisk) (a1:Ty.den TLive)
def K0:Ex→St→Rs:=runK (E k) (eK (E k) Tryz.f126 (C k) (a0,a1,())) [.blk 0,.code (at_ (bt 4 15) (body Tryz.f126))]
def B0 (n0:Nat):Ex→St→Rs:=lpK (E k) (at_ (bt 7 23) (body Tryz.f126)) 0 [2,3,5,6] (K0 k a0 a1) n0
def K1 (n0:Nat):Ex→St→Rs:=runK (E k) (B0 k a0 a1 n0) [.blk 2,.code (at_ (bt 13 7319) (body Tryz.f126)),.blk 1,.code (at_ (bt 9 407) (body Tryz.f126))]
def V0 (n0:Nat):T0:=fun x0 x1 x2 x3 x4 x5 x6 x7=>loopN (exec (E k) (at_ (bt 7 23) (body Tryz.f126))) (canon 0 [2,3,5,6]) (K0 k a0 a1) n0 (mk 74 3 [(2,.ptr 0 0 0),(3,.ptr 1 0 0),(5,.ref 2),(6,.int .i64 x0)] [(0,.box [.sl true TPair x1,.int .i64 x2,.int .i64 x3,.bool x4]),(1,.box [.int .i64 x5,.sl true (.int .i64) x6]),(2,.own false .str x7)])
def V1 (n0 n1:Nat):T1:=fun x0 x1 x2 x3 x4 x5 x6 x7 x8 x9 x10 x11=>loopN (exec (E k) (at_ (bt 16 11415) (body Tryz.f126))) (canon 0 [2,3,5,6,7,8,9,10]) (K1 k a0 a1 n0) n1 (mk 74 3 [(2,.ptr 0 0 0),(3,.ptr 1 0 0),(5,.ref 2),(6,.int .i64 x0),(7,.int .i64 x1),(8,.bool x2),(9,.bool x3),(10,.int .i64 x4)] [(0,.box [.sl true TPair x5,.int .i64 x6,.int .i64 x7,.bool x8]),(1,.box [.int .i64 x9,.sl true (.int .i64) x10]),(2,.own false .str x11)])
theorem s0 (n0:Nat):V0 k a0 a1 (n0+1)=b0 k (V1 k a0 a1 n0 k) (V0 k a0 a1 n0):=by kernel_rfl
theorem s1 (n0 n1:Nat):V1 k a0 a1 n0 (n1+1)=b1 k (V0 k a0 a1 n0) (V1 k a0 a1 n0 n1):=by kernel_rfl
theorem e1 (n0:Nat):V1 k a0 a1 n0=l1 k (V0 k a0 a1 n0):=loop_eq rfl (s1 k a0 a1 n0) fun _=>rfl
theorem e0 (n0:Nat):V0 k a0 a1 n0=l0 k n0:=by
 induction n0 with
 | zero=>rfl
 | succ n0 ih =>
  have h:V0 k a0 a1 (n0+1)=b0 k (V1 k a0 a1 n0 k) (V0 k a0 a1 n0):=s0 k a0 a1 n0
  rw [h,e1,ih]
  rfl
end
theorem eq (k:Nat) (a0:Ty.den TDisk) (a1:Ty.den TLive):rn (E k) Tryz.f126 (C k) (a0,a1,())=f k a0 a1:=(show _=t k (V0 k a0 a1 k) a0 a1 by kernel_rfl).trans (by rw [e0];rfl)
theorem ctr (k:Nat):Cp 126 (C k):=rc rfl (D k) (by kernel_rfl) Tryz.func126 (by kernel_rfl) rfl fun ⟨a0,a1,_⟩ r h=>(eq k a0 a1).trans h
end spec_Orphans
namespace spec_l3Begin
def C (k:Nat):Cn:=⟨[.val TDisk],[TDisk,(.int .i64)],true,false,fun x=>f k x.1⟩
def D (k:Nat):List Ce:=[q (spec_l3Copy.ctr k),q (spec_DiskOk.ctr k)]
def E (k:Nat):Env:=en (D k) [] 0 [] k
theorem eq (k:Nat) (a0:Ty.den TDisk):rn (E k) Tryz.f121 (C k) (a0,())=f k a0:=by kernel_rfl
theorem ctr (k:Nat):Cp 121 (C k):=rc rfl (D k) (by kernel_rfl) Tryz.func121 (by kernel_rfl) rfl fun ⟨a0,_⟩ r h=>(eq k a0).trans h
end spec_l3Begin
namespace spec_l3Without
def C (k:Nat):Cn:=⟨[.val (.slice TPair),.val (.int .i64)],[(.slice TPair)],true,false,fun x=>f k x.1 x.2.1⟩
def E (k:Nat):Env:=en [] [] 0 [] k
theorem eq (k:Nat) (a0:List (Ty.den TPair)) (a1:Int):rn (E k) Tryz.f143 (C k) (a0,a1,())=f k a0 a1:=by kernel_rfl
theorem ctr (k:Nat):Cp 143 (C k):=rc rfl [] (by kernel_rfl) Tryz.func143 (by kernel_rfl) rfl fun ⟨a0,a1,_⟩ r h=>(eq k a0 a1).trans h
end spec_l3Without
namespace spec_Remove
def C (k:Nat):Cn:=⟨[.val TDisk,.val .str],[TDisk,(.int .i64)],true,false,fun x=>f k x.1 x.2.1⟩
def D (k:Nat):List Ce:=[q (spec_l3Begin.ctr k),q (spec_l3Find.ctr k),q (spec_l3Without.ctr k)]
def E (k:Nat):Env:=en (D k) [] 0 [] k
theorem eq (k:Nat) (a0:Ty.den TDisk) (a1:ByteArray):rn (E k) Tryz.f127 (C k) (a0,a1,())=f k a0 a1:=by kernel_rfl
theorem ctr (k:Nat):Cp 127 (C k):=rc rfl (D k) (by kernel_rfl) Tryz.func127 (by kernel_rfl) rfl fun ⟨a0,a1,_⟩ r h=>(eq k a0 a1).trans h
end spec_Remove
namespace spec_l11Code
def C (k:Nat):Cn:=⟨[.val (.int .i64)],[(.int .i64)],true,false,fun x=>f k x.1⟩
def E (k:Nat):Env:=en [] [] 0 [] k
theorem eq (k:Nat) (a0:Int):rn (E k) Tryz.f89 (C k) (a0,())=f k a0:=by kernel_rfl
theorem ctr (k:Nat):Cp 89 (C k):=rc rfl [] (by kernel_rfl) Tryz.func89 (by kernel_rfl) rfl fun ⟨a0,_⟩ r h=>(eq k a0).trans h
end spec_l11Code
namespace spec_l3Insert
def C (k:Nat):Cn:=⟨[.val (.slice TPair),.val TPair],[(.slice TPair)],true,false,fun x=>f k x.1 x.2.1⟩
def E (k:Nat):Env:=en [] [(4,[0,3,5,6,7])] 0 [] k
section
variable (k:Nat) (a0:List (Ty.den TPair)) (a1:Ty.den TPair)
def K0:Ex→St→Rs:=runK (E k) (eK (E k) Tryz.f138 (C k) (a0,a1,())) [.blk 0,.code (at_ (bt 4 15) (body Tryz.f138))]
def V0 (n0:Nat):T0:=fun x0 x1 x2 x3 x4 x5 x6=>loopN (exec (E k) (at_ (bt 7 23) (body Tryz.f138))) (canon 0 [0,3,5,6,7]) (K0 k a0 a1) n0 (mk 45 2 [(0,.sl true TPair x0),(3,.ptr 0 0 0),(5,.ref 1),(6,.bool x1),(7,.int .i64 x2)] [(0,.box [.str x3,.str x4,.int .i64 x5]),(1,.own false TPair x6)])
theorem s0 (n0:Nat):V0 k a0 a1 (n0+1)=b0 k (V0 k a0 a1 n0):=by kernel_rfl
theorem e0:V0 k a0 a1=l0 k:=loop_eq rfl (s0 k a0 a1) fun _=>rfl
end
theorem eq (k:Nat) (a0:List (Ty.den TPair)) (a1:Ty.den TPair):rn (E k) Tryz.f138 (C k) (a0,a1,())=f k a0 a1:=(show _=t k (V0 k a0 a1 k) a0 a1 by kernel_rfl).trans (by rw [e0];rfl)
theorem ctr (k:Nat):Cp 138 (C k):=rc rfl [] (by kernel_rfl) Tryz.func138 (by kernel_rfl) rfl fun ⟨a0,a1,_⟩ r h=>(eq k a0 a1).trans h
end spec_l3Insert
namespace spec_Create
def C (k:Nat):Cn:=⟨[.val TDisk,.val .str],[TDisk,(.int .i64)],true,false,fun x=>f k x.1 x.2.1⟩
def D (k:Nat):List Ce:=[q (spec_l3Begin.ctr k),q (spec_NameOk.ctr k),q (spec_l3Find.ctr k),q (spec_l3Insert.ctr k)]
def E (k:Nat):Env:=en (D k) [] 0 [] k
theorem eq (k:Nat) (a0:Ty.den TDisk) (a1:ByteArray):rn (E k) Tryz.f118 (C k) (a0,a1,())=f k a0 a1:=by kernel_rfl
theorem ctr (k:Nat):Cp 118 (C k):=rc rfl (D k) (by kernel_rfl) Tryz.func118 (by kernel_rfl) rfl fun ⟨a0,a1,_⟩ r h=>(eq k a0 a1).trans h
end spec_Create
namespace spec_LiveOk
def C (k:Nat):Cn:=⟨[.val TLive],[.bool],true,false,fun x=>f k x.1⟩
def D (k:Nat):List Ce:=[q (spec_l1In.ctr k)]
def E (k:Nat):Env:=en (D k) [(4,[1,3])] 0 [] k
section
variable (k:Nat) (a0:Ty.den TLive)
def K0:Ex→St→Rs:=runK (E k) (eK (E k) Tryz.f25 (C k) (a0,())) [.blk 0,.code (at_ (bt 3 7) (body Tryz.f25))]
def V0 (n0:Nat):T0:=fun x0 x1 x2=>loopN (exec (E k) (at_ (bt 6 11) (body Tryz.f25))) (canon 0 [1,3]) (K0 k a0) n0 (mk 50 1 [(1,.ptr 0 0 0),(3,.int .i64 x0)] [(0,.box [.int .i64 x1,.sl true (.int .i64) x2])])
theorem s0 (n0:Nat):V0 k a0 (n0+1)=b0 k (V0 k a0 n0):=by kernel_rfl
theorem e0:V0 k a0=l0 k:=loop_eq rfl (s0 k a0) fun _=>rfl
end
theorem eq (k:Nat) (a0:Ty.den TLive):rn (E k) Tryz.f25 (C k) (a0,())=f k a0:=(show _=t k (V0 k a0 k) a0 by kernel_rfl).trans (by rw [e0];rfl)
theorem ctr (k:Nat):Cp 25 (C k):=rc rfl (D k) (by kernel_rfl) Tryz.func25 (by kernel_rfl) rfl fun ⟨a0,_⟩ r h=>(eq k a0).trans h
end spec_LiveOk
namespace spec_Var
def C (k:Nat):Cn:=⟨[.val (.int .i64)],[.str],true,false,fun x=>f k x.1⟩
def D (k:Nat):List Ce:=[q (spec_l1In.ctr k)]
def E (k:Nat):Env:=en (D k) [(4,[0,3])] 0 [] k
section
variable (k:Nat) (a0:Int)
def K0:Ex→St→Rs:=runK (E k) (eK (E k) Tryz.f114 (C k) (a0,())) [.blk 0,.code (at_ (bt 4 15) (body Tryz.f114))]
def V0 (n0:Nat):T0:=fun x0 x1=>loopN (exec (E k) (at_ (bt 6 7) (body Tryz.f114))) (canon 0 [0,3]) (K0 k a0) n0 (mk 25 1 [(0,.int .i64 x0),(3,.ref 0)] [(0,.own false (.int .u8) x1)])
theorem s0 (n0:Nat):V0 k a0 (n0+1)=b0 k (V0 k a0 n0):=by kernel_rfl
theorem e0:V0 k a0=l0 k:=loop_eq rfl (s0 k a0) fun _=>rfl
end
theorem eq (k:Nat) (a0:Int):rn (E k) Tryz.f114 (C k) (a0,())=f k a0:=(show _=t k (V0 k a0 k) a0 by kernel_rfl).trans (by rw [e0];rfl)
theorem ctr (k:Nat):Cp 114 (C k):=rc rfl (D k) (by kernel_rfl) Tryz.func114 (by kernel_rfl) rfl fun ⟨a0,_⟩ r h=>(eq k a0).trans h
end spec_Var
namespace spec_Crc
def C (k:Nat):Cn:=⟨[.val .str],[(.int .i64)],true,false,fun x=>f k x.1⟩
def E (k:Nat):Env:=en [] [(3,[0,3,4]),(7,[0,3,4,5])] 0 [] k
section
variable (k:Nat) (a0:ByteArray)
def K0:Ex→St→Rs:=runK (E k) (eK (E k) Tryz.f116 (C k) (a0,())) [.blk 0,.code (at_ (bt 3 7) (body Tryz.f116))]
def B0 (n0:Nat):Ex→St→Rs:=lpK (E k) (at_ (bt 6 11) (body Tryz.f116)) 0 [0,3,4] (K0 k a0) n0
def K1 (n0:Nat):Ex→St→Rs:=runK (E k) (B0 k a0 n0) [.blk 2,.blk 1,.code (at_ (bt 8 203) (body Tryz.f116))]
def V0 (n0:Nat):T0:=fun x0 x1 x2=>loopN (exec (E k) (at_ (bt 6 11) (body Tryz.f116))) (canon 0 [0,3,4]) (K0 k a0) n0 (mk 33 0 [(0,.str x0),(3,.int .i64 x1),(4,.int .i64 x2)] [])
def V1 (n0 n1:Nat):T1:=fun x0 x1 x2 x3=>loopN (exec (E k) (at_ (bt 13 1611) (body Tryz.f116))) (canon 0 [0,3,4,5]) (K1 k a0 n0) n1 (mk 33 0 [(0,.str x0),(3,.int .i64 x1),(4,.int .i64 x2),(5,.int .i64 x3)] [])
theorem s0 (n0:Nat):V0 k a0 (n0+1)=b0 k (V1 k a0 n0 k) (V0 k a0 n0):=by kernel_rfl
theorem s1 (n0 n1:Nat):V1 k a0 n0 (n1+1)=b1 k (V0 k a0 n0) (V1 k a0 n0 n1):=by kernel_rfl
theorem e1 (n0:Nat):V1 k a0 n0=l1 k (V0 k a0 n0):=loop_eq rfl (s1 k a0 n0) fun _=>rfl
theorem e0 (n0:Nat):V0 k a0 n0=l0 k n0:=by
 induction n0 with
 | zero=>rfl
 | succ n0 ih =>
  have h:V0 k a0 (n0+1)=b0 k (V1 k a0 n0 k) (V0 k a0 n0):=s0 k a0 n0
  rw [h,e1,ih]
  rfl
end
theorem eq (k:Nat) (a0:ByteArray):rn (E k) Tryz.f116 (C k) (a0,())=f k a0:=(show _=t k (V0 k a0 k) a0 by kernel_rfl).trans (by rw [e0];rfl)
theorem ctr (k:Nat):Cp 116 (C k):=rc rfl [] (by kernel_rfl) Tryz.func116 (by kernel_rfl) rfl fun ⟨a0,_⟩ r h=>(eq k a0).trans h
end spec_Crc
namespace spec_Fixed
def C (k:Nat):Cn:=⟨[.val (.int .i64),.val (.int .i64)],[.str],true,false,fun x=>f k x.1 x.2.1⟩
def D (k:Nat):List Ce:=[q (spec_l1In.ctr k)]
def E (k:Nat):Env:=en (D k) [(5,[0,1,5,6])] 0 [] k
section
variable (k:Nat) (a0:Int) (a1:Int)
def K0:Ex→St→Rs:=runK (E k) (eK (E k) Tryz.f115 (C k) (a0,a1,())) [.blk 0,.code (at_ (bt 4 15) (body Tryz.f115))]
def V0 (n0:Nat):T0:=fun x0 x1 x2 x3=>loopN (exec (E k) (at_ (bt 7 23) (body Tryz.f115))) (canon 0 [0,1,5,6]) (K0 k a0 a1) n0 (mk 31 0 [(0,.int .i64 x0),(1,.int .i64 x1),(5,.str x2),(6,.int .i64 x3)] [])
theorem s0 (n0:Nat):V0 k a0 a1 (n0+1)=b0 k (V0 k a0 a1 n0):=by kernel_rfl
theorem e0:V0 k a0 a1=l0 k:=loop_eq rfl (s0 k a0 a1) fun _=>rfl
end
theorem eq (k:Nat) (a0:Int) (a1:Int):rn (E k) Tryz.f115 (C k) (a0,a1,())=f k a0 a1:=(show _=t k (V0 k a0 a1 k) a0 a1 by kernel_rfl).trans (by rw [e0];rfl)
theorem ctr (k:Nat):Cp 115 (C k):=rc rfl (D k) (by kernel_rfl) Tryz.func115 (by kernel_rfl) rfl fun ⟨a0,a1,_⟩ r h=>(eq k a0 a1).trans h
end spec_Fixed
namespace spec_Frame
def C (k:Nat):Cn:=⟨[.val .str],[.str],true,false,fun x=>f k x.1⟩
def D (k:Nat):List Ce:=[q (spec_Var.ctr k),q (spec_Crc.ctr k),q (spec_Fixed.ctr k)]
def E (k:Nat):Env:=en (D k) [] 0 [] k
theorem eq (k:Nat) (a0:ByteArray):rn (E k) Tryz.f77 (C k) (a0,())=f k a0:=by kernel_rfl
theorem ctr (k:Nat):Cp 77 (C k):=rc rfl (D k) (by kernel_rfl) Tryz.func77 (by kernel_rfl) rfl fun ⟨a0,_⟩ r h=>(eq k a0).trans h
end spec_Frame
namespace spec_ShowLive
def C (k:Nat):Cn:=⟨[.val TLive],[.str],true,false,fun x=>f k x.1⟩
def D (k:Nat):List Ce:=[q (spec_LiveOk.ctr k),q (spec_Var.ctr k),q (spec_Frame.ctr k)]
def E (k:Nat):Env:=en (D k) [(5,[1,3,4])] 0 [] k
section
variable (k:Nat) (a0:Ty.den TLive)
def K0:Ex→St→Rs:=runK (E k) (eK (E k) Tryz.f120 (C k) (a0,())) [.blk 0,.code (at_ (bt 4 15) (body Tryz.f120))]
def V0 (n0:Nat):T0:=fun x0 x1 x2 x3=>loopN (exec (E k) (at_ (bt 7 23) (body Tryz.f120))) (canon 0 [1,3,4]) (K0 k a0) n0 (mk 33 1 [(1,.ptr 0 0 0),(3,.str x0),(4,.int .i64 x1)] [(0,.box [.int .i64 x2,.sl true (.int .i64) x3])])
theorem s0 (n0:Nat):V0 k a0 (n0+1)=b0 k (V0 k a0 n0):=by kernel_rfl
theorem e0:V0 k a0=l0 k:=loop_eq rfl (s0 k a0) fun _=>rfl
end
theorem eq (k:Nat) (a0:Ty.den TLive):rn (E k) Tryz.f120 (C k) (a0,())=f k a0:=(show _=t k (V0 k a0 k) a0 by kernel_rfl).trans (by rw [e0];rfl)
theorem ctr (k:Nat):Cp 120 (C k):=rc rfl (D k) (by kernel_rfl) Tryz.func120 (by kernel_rfl) rfl fun ⟨a0,_⟩ r h=>(eq k a0).trans h
end spec_ShowLive
namespace spec_l11Fresh
def C (k:Nat):Cn:=⟨[.val TDisk,.val .str],[TDisk,(.int .i64)],true,false,fun x=>f k x.1 x.2.1⟩
def D (k:Nat):List Ce:=[q (spec_l3Find.ctr k),q (spec_Remove.ctr k),q (spec_Create.ctr k)]
def E (k:Nat):Env:=en (D k) [] 0 [] k
theorem eq (k:Nat) (a0:Ty.den TDisk) (a1:ByteArray):rn (E k) Tryz.f146 (C k) (a0,a1,())=f k a0 a1:=by kernel_rfl
theorem ctr (k:Nat):Cp 146 (C k):=rc rfl (D k) (by kernel_rfl) Tryz.func146 (by kernel_rfl) rfl fun ⟨a0,a1,_⟩ r h=>(eq k a0 a1).trans h
end spec_l11Fresh
namespace spec_Append
def C (k:Nat):Cn:=⟨[.val TDisk,.val .str,.val .str],[TDisk,(.int .i64)],true,false,fun x=>f k x.1 x.2.1 x.2.2.1⟩
def D (k:Nat):List Ce:=[q (spec_l3Begin.ctr k),q (spec_l3Find.ctr k),q (spec_l3Used.ctr k)]
def E (k:Nat):Env:=en (D k) [] 0 [] k
theorem eq (k:Nat) (a0:Ty.den TDisk) (a1:ByteArray) (a2:ByteArray):rn (E k) Tryz.f151 (C k) (a0,a1,a2,())=f k a0 a1 a2:=by kernel_rfl
theorem ctr (k:Nat):Cp 151 (C k):=rc rfl (D k) (by kernel_rfl) Tryz.func151 (by kernel_rfl) rfl fun ⟨a0,a1,a2,_⟩ r h=>(eq k a0 a1 a2).trans h
end spec_Append
namespace spec_Sync
def C (k:Nat):Cn:=⟨[.val TDisk,.val .str],[TDisk,(.int .i64)],true,false,fun x=>f k x.1 x.2.1⟩
def D (k:Nat):List Ce:=[q (spec_l3Begin.ctr k),q (spec_l3Find.ctr k)]
def E (k:Nat):Env:=en (D k) [] 0 [] k
theorem eq (k:Nat) (a0:Ty.den TDisk) (a1:ByteArray):rn (E k) Tryz.f90 (C k) (a0,a1,())=f k a0 a1:=by kernel_rfl
theorem ctr (k:Nat):Cp 90 (C k):=rc rfl (D k) (by kernel_rfl) Tryz.func90 (by kernel_rfl) rfl fun ⟨a0,a1,_⟩ r h=>(eq k a0 a1).trans h
end spec_Sync
namespace spec_l11File
def C (k:Nat):Cn:=⟨[.val TDisk,.val .str,.val .str],[TDisk,(.int .i64)],true,false,fun x=>f k x.1 x.2.1 x.2.2.1⟩
def D (k:Nat):List Ce:=[q (spec_l11Fresh.ctr k),q (spec_Append.ctr k),q (spec_Sync.ctr k)]
def E (k:Nat):Env:=en (D k) [] 0 [] k
theorem eq (k:Nat) (a0:Ty.den TDisk) (a1:ByteArray) (a2:ByteArray):rn (E k) Tryz.f139 (C k) (a0,a1,a2,())=f k a0 a1 a2:=by kernel_rfl
theorem ctr (k:Nat):Cp 139 (C k):=rc rfl (D k) (by kernel_rfl) Tryz.func139 (by kernel_rfl) rfl fun ⟨a0,a1,a2,_⟩ r h=>(eq k a0 a1 a2).trans h
end spec_l11File
namespace spec_Rename
def C (k:Nat):Cn:=⟨[.val TDisk,.val .str,.val .str],[TDisk,(.int .i64)],true,false,fun x=>f k x.1 x.2.1 x.2.2.1⟩
def D (k:Nat):List Ce:=[q (spec_l3Begin.ctr k),q (spec_NameOk.ctr k),q (spec_l3Find.ctr k),q (spec_l3Without.ctr k),q (spec_l3Insert.ctr k)]
def E (k:Nat):Env:=en (D k) [] 0 [] k
theorem eq (k:Nat) (a0:Ty.den TDisk) (a1:ByteArray) (a2:ByteArray):rn (E k) Tryz.f140 (C k) (a0,a1,a2,())=f k a0 a1 a2:=by kernel_rfl
theorem ctr (k:Nat):Cp 140 (C k):=rc rfl (D k) (by kernel_rfl) Tryz.func140 (by kernel_rfl) rfl fun ⟨a0,a1,a2,_⟩ r h=>(eq k a0 a1 a2).trans h
end spec_Rename
namespace spec_PutLive
def C (k:Nat):Cn:=⟨[.val TDisk,.val TLive],[TDisk,(.int .i64)],true,false,fun x=>f k x.1 x.2.1⟩
def D (k:Nat):List Ce:=[q (spec_DiskOk.ctr k),q (spec_l3Copy.ctr k),q (spec_LiveOk.ctr k),q (spec_ShowLive.ctr k),q (spec_l11File.ctr k),q (spec_Rename.ctr k),q (spec_l11Code.ctr k)]
def E (k:Nat):Env:=en (D k) [] 0 [] k
theorem eq (k:Nat) (a0:Ty.den TDisk) (a1:Ty.den TLive):rn (E k) Tryz.f119 (C k) (a0,a1,())=f k a0 a1:=by kernel_rfl
theorem ctr (k:Nat):Cp 119 (C k):=rc rfl (D k) (by kernel_rfl) Tryz.func119 (by kernel_rfl) rfl fun ⟨a0,a1,_⟩ r h=>(eq k a0 a1).trans h
end spec_PutLive
namespace spec_ReadVar
def C (k:Nat):Cn:=⟨[.val .str],[(.int .i64),(.int .i64)],true,false,fun x=>f k x.1⟩
def D (k:Nat):List Ce:=[q (spec_Var.ctr k)]
def E (k:Nat):Env:=en (D k) [(2,[0,4]),(6,[0,4,5,6])] 0 [] k
section
variable (k:Nat) (a0:ByteArray)
def K0:Ex→St→Rs:=runK (E k) (eK (E k) Tryz.f76 (C k) (a0,())) [.blk 0,.code (at_ (bt 2 3) (body Tryz.f76))]
def B0 (n0:Nat):Ex→St→Rs:=lpK (E k) (at_ (bt 5 5) (body Tryz.f76)) 0 [0,4] (K0 k a0) n0
def K1 (n0:Nat):Ex→St→Rs:=runK (E k) (B0 k a0 n0) [.blk 2,.code (at_ (bt 10 805) (body Tryz.f76)),.blk 1,.code (at_ (bt 7 101) (body Tryz.f76))]
def V0 (n0:Nat):T0:=fun x0 x1=>loopN (exec (E k) (at_ (bt 5 5) (body Tryz.f76))) (canon 0 [0,4]) (K0 k a0) n0 (mk 39 0 [(0,.str x0),(4,.int .i64 x1)] [])
def V1 (n0 n1:Nat):T1:=fun x0 x1 x2 x3=>loopN (exec (E k) (at_ (bt 13 1317) (body Tryz.f76))) (canon 0 [0,4,5,6]) (K1 k a0 n0) n1 (mk 39 0 [(0,.str x0),(4,.int .i64 x1),(5,.int .i64 x2),(6,.int .i64 x3)] [])
theorem s0 (n0:Nat):V0 k a0 (n0+1)=b0 k (V1 k a0 n0 k) (V0 k a0 n0):=by kernel_rfl
theorem s1 (n0 n1:Nat):V1 k a0 n0 (n1+1)=b1 k (V0 k a0 n0) (V1 k a0 n0 n1):=by kernel_rfl
theorem e1 (n0:Nat):V1 k a0 n0=l1 k (V0 k a0 n0):=loop_eq rfl (s1 k a0 n0) fun _=>rfl
theorem e0 (n0:Nat):V0 k a0 n0=l0 k n0:=by
 induction n0 with
 | zero=>rfl
 | succ n0 ih =>
  have h:V0 k a0 (n0+1)=b0 k (V1 k a0 n0 k) (V0 k a0 n0):=s0 k a0 n0
  rw [h,e1,ih]
  rfl
end
theorem eq (k:Nat) (a0:ByteArray):rn (E k) Tryz.f76 (C k) (a0,())=f k a0:=(show _=t k (V0 k a0 k) a0 by kernel_rfl).trans (by rw [e0];rfl)
theorem ctr (k:Nat):Cp 76 (C k):=rc rfl (D k) (by kernel_rfl) Tryz.func76 (by kernel_rfl) rfl fun ⟨a0,_⟩ r h=>(eq k a0).trans h
end spec_ReadVar
namespace spec_Unframe
def C (k:Nat):Cn:=⟨[.val .str],[.str,(.int .i64)],true,false,fun x=>f k x.1⟩
def D (k:Nat):List Ce:=[q (spec_ReadVar.ctr k),q (spec_Frame.ctr k)]
def E (k:Nat):Env:=en (D k) [] 0 [] k
theorem eq (k:Nat) (a0:ByteArray):rn (E k) Tryz.f51 (C k) (a0,())=f k a0:=by kernel_rfl
theorem ctr (k:Nat):Cp 51 (C k):=rc rfl (D k) (by kernel_rfl) Tryz.func51 (by kernel_rfl) rfl fun ⟨a0,_⟩ r h=>(eq k a0).trans h
end spec_Unframe
namespace spec_ReadLive
def C (k:Nat):Cn:=⟨[.val .str],[TLive,.bool],true,false,fun x=>f k x.1⟩
def D (k:Nat):List Ce:=[q (spec_Unframe.ctr k),q (spec_ReadVar.ctr k),q (spec_ShowLive.ctr k)]
def E (k:Nat):Env:=en (D k) [(9,[0,2,4,8,10,11,12])] 0 [] k
section
variable (k:Nat) (a0:ByteArray)
def K0:Ex→St→Rs:=runK (E k) (eK (E k) Tryz.f87 (C k) (a0,())) [.blk 0,.code (at_ (bt 8 255) (body Tryz.f87))]
def V0 (n0:Nat):T0:=fun x0 x1 x2 x3 x4 x5 x6 x7 x8=>loopN (exec (E k) (at_ (bt 11 383) (body Tryz.f87))) (canon 0 [0,2,4,8,10,11,12]) (K0 k a0) n0 (mk 81 4 [(0,.str x0),(2,.ptr 0 0 0),(4,.str x1),(8,.int .i64 x2),(10,.ptr 2 0 0),(11,.int .i64 x3),(12,.int .i64 x4)] [(1,.own false (.int .i64) x5),(0,.box [.int .i64 x6,.ref 1]),(3,.own false (.int .i64) x7),(2,.box [.int .i64 x8,.ref 3])])
theorem s0 (n0:Nat):V0 k a0 (n0+1)=b0 k (V0 k a0 n0):=by kernel_rfl
theorem e0:V0 k a0=l0 k:=loop_eq rfl (s0 k a0) fun _=>rfl
end
theorem eq (k:Nat) (a0:ByteArray):rn (E k) Tryz.f87 (C k) (a0,())=f k a0:=(show _=t k (V0 k a0 k) a0 by kernel_rfl).trans (by rw [e0];rfl)
theorem ctr (k:Nat):Cp 87 (C k):=rc rfl (D k) (by kernel_rfl) Tryz.func87 (by kernel_rfl) rfl fun ⟨a0,_⟩ r h=>(eq k a0).trans h
end spec_ReadLive
namespace spec_l5Text
def C (k:Nat):Cn:=⟨[.val .str],[.str,.str,.bool],true,false,fun x=>f k x.1⟩
def D (k:Nat):List Ce:=[q (spec_ReadVar.ctr k)]
def E (k:Nat):Env:=en (D k) [] 0 [] k
theorem eq (k:Nat) (a0:ByteArray):rn (E k) Tryz.f78 (C k) (a0,())=f k a0:=by kernel_rfl
theorem ctr (k:Nat):Cp 78 (C k):=rc rfl (D k) (by kernel_rfl) Tryz.func78 (by kernel_rfl) rfl fun ⟨a0,_⟩ r h=>(eq k a0).trans h
end spec_l5Text
namespace spec_KeyOk
def C (k:Nat):Cn:=⟨[.val .str],[.bool],true,false,fun x=>f k x.1⟩
def D (k:Nat):List Ce:=[q (spec_l1In.ctr k)]
def E (k:Nat):Env:=en (D k) [] 0 [] k
theorem eq (k:Nat) (a0:ByteArray):rn (E k) Tryz.f108 (C k) (a0,())=f k a0:=by kernel_rfl
theorem ctr (k:Nat):Cp 108 (C k):=rc rfl (D k) (by kernel_rfl) Tryz.func108 (by kernel_rfl) rfl fun ⟨a0,_⟩ r h=>(eq k a0).trans h
end spec_KeyOk
namespace spec_RecOk
def C (k:Nat):Cn:=⟨[.val TRec],[.bool],true,false,fun x=>f k x.1⟩
def D (k:Nat):List Ce:=[q (spec_l1In.ctr k),q (spec_KeyOk.ctr k)]
def E (k:Nat):Env:=en (D k) [] 0 [] k
theorem eq (k:Nat) (a0:Ty.den TRec):rn (E k) Tryz.f117 (C k) (a0,())=f k a0:=by kernel_rfl
theorem ctr (k:Nat):Cp 117 (C k):=rc rfl (D k) (by kernel_rfl) Tryz.func117 (by kernel_rfl) rfl fun ⟨a0,_⟩ r h=>(eq k a0).trans h
end spec_RecOk
namespace spec_ShowRec
def C (k:Nat):Cn:=⟨[.val TRec],[.str],true,false,fun x=>f k x.1⟩
def D (k:Nat):List Ce:=[q (spec_RecOk.ctr k),q (spec_Var.ctr k),q (spec_Fixed.ctr k)]
def E (k:Nat):Env:=en (D k) [] 0 [] k
theorem eq (k:Nat) (a0:Ty.den TRec):rn (E k) Tryz.f80 (C k) (a0,())=f k a0:=by kernel_rfl
theorem ctr (k:Nat):Cp 80 (C k):=rc rfl (D k) (by kernel_rfl) Tryz.func80 (by kernel_rfl) rfl fun ⟨a0,_⟩ r h=>(eq k a0).trans h
end spec_ShowRec
namespace spec_ReadFixed
def C (k:Nat):Cn:=⟨[.val .str,.val (.int .i64)],[(.int .i64),.bool],true,false,fun x=>f k x.1 x.2.1⟩
def D (k:Nat):List Ce:=[q (spec_l1In.ctr k)]
def E (k:Nat):Env:=en (D k) [(5,[0,1,6,7])] 0 [] k
section
variable (k:Nat) (a0:ByteArray) (a1:Int)
def K0:Ex→St→Rs:=runK (E k) (eK (E k) Tryz.f79 (C k) (a0,a1,())) [.blk 0,.code (at_ (bt 4 15) (body Tryz.f79))]
def V0 (n0:Nat):T0:=fun x0 x1 x2 x3=>loopN (exec (E k) (at_ (bt 7 23) (body Tryz.f79))) (canon 0 [0,1,6,7]) (K0 k a0 a1) n0 (mk 30 0 [(0,.str x0),(1,.int .i64 x1),(6,.int .i64 x2),(7,.int .i64 x3)] [])
theorem s0 (n0:Nat):V0 k a0 a1 (n0+1)=b0 k (V0 k a0 a1 n0):=by kernel_rfl
theorem e0:V0 k a0 a1=l0 k:=loop_eq rfl (s0 k a0 a1) fun _=>rfl
end
theorem eq (k:Nat) (a0:ByteArray) (a1:Int):rn (E k) Tryz.f79 (C k) (a0,a1,())=f k a0 a1:=(show _=t k (V0 k a0 a1 k) a0 a1 by kernel_rfl).trans (by rw [e0];rfl)
theorem ctr (k:Nat):Cp 79 (C k):=rc rfl (D k) (by kernel_rfl) Tryz.func79 (by kernel_rfl) rfl fun ⟨a0,a1,_⟩ r h=>(eq k a0 a1).trans h
end spec_ReadFixed
namespace spec_ReadRec
def C (k:Nat):Cn:=⟨[.val .str],[TRec,.bool],true,false,fun x=>f k x.1⟩
def D (k:Nat):List Ce:=[q (spec_ReadVar.ctr k),q (spec_l5Text.ctr k),q (spec_ShowRec.ctr k),q (spec_ReadFixed.ctr k)]
def E (k:Nat):Env:=en (D k) [] 0 [] k
theorem eq (k:Nat) (a0:ByteArray):rn (E k) Tryz.f52 (C k) (a0,())=f k a0:=by kernel_rfl
theorem ctr (k:Nat):Cp 52 (C k):=rc rfl (D k) (by kernel_rfl) Tryz.func52 (by kernel_rfl) rfl fun ⟨a0,_⟩ r h=>(eq k a0).trans h
end spec_ReadRec
namespace spec_ScanRecs
def C (k:Nat):Cn:=⟨[.val .str],[(.slice TSpot),(.int .i64)],true,false,fun x=>f k x.1⟩
def D (k:Nat):List Ce:=[q (spec_Unframe.ctr k),q (spec_ReadRec.ctr k)]
def E (k:Nat):Env:=en (D k) [(3,[0,4,5])] 0 [] k
section
variable (k:Nat) (a0:ByteArray)
def K0:Ex→St→Rs:=runK (E k) (eK (E k) Tryz.f32 (C k) (a0,())) [.blk 0,.code (at_ (bt 4 15) (body Tryz.f32))]
def V0 (n0:Nat):T0:=fun x0 x1 x2=>loopN (exec (E k) (at_ (bt 6 7) (body Tryz.f32))) (canon 0 [0,4,5]) (K0 k a0) n0 (mk 47 1 [(0,.str x0),(4,.ref 0),(5,.int .i64 x1)] [(0,.own false TSpot x2)])
theorem s0 (n0:Nat):V0 k a0 (n0+1)=b0 k (V0 k a0 n0):=by kernel_rfl
theorem e0:V0 k a0=l0 k:=loop_eq rfl (s0 k a0) fun _=>rfl
end
theorem eq (k:Nat) (a0:ByteArray):rn (E k) Tryz.f32 (C k) (a0,())=f k a0:=(show _=t k (V0 k a0 k) a0 by kernel_rfl).trans (by rw [e0];rfl)
theorem ctr (k:Nat):Cp 32 (C k):=rc rfl (D k) (by kernel_rfl) Tryz.func32 (by kernel_rfl) rfl fun ⟨a0,_⟩ r h=>(eq k a0).trans h
end spec_ScanRecs
namespace spec_Truncate
def C (k:Nat):Cn:=⟨[.val TDisk,.val .str,.val (.int .i64)],[TDisk,(.int .i64)],true,false,fun x=>f k x.1 x.2.1 x.2.2.1⟩
def D (k:Nat):List Ce:=[q (spec_l3Begin.ctr k),q (spec_l3Find.ctr k),q (spec_l1In.ctr k)]
def E (k:Nat):Env:=en (D k) [] 0 [] k
theorem eq (k:Nat) (a0:Ty.den TDisk) (a1:ByteArray) (a2:Int):rn (E k) Tryz.f88 (C k) (a0,a1,a2,())=f k a0 a1 a2:=by kernel_rfl
theorem ctr (k:Nat):Cp 88 (C k):=rc rfl (D k) (by kernel_rfl) Tryz.func88 (by kernel_rfl) rfl fun ⟨a0,a1,a2,_⟩ r h=>(eq k a0 a1 a2).trans h
end spec_Truncate
namespace spec_l10Vars
def C (k:Nat):Cn:=⟨[.val .str,.val (.int .i64),.val (.int .i64)],[(.slice (.int .i64)),(.int .i64)],true,false,fun x=>f k x.1 x.2.1 x.2.2.1⟩
def D (k:Nat):List Ce:=[q (spec_ReadVar.ctr k)]
def E (k:Nat):Env:=en (D k) [(3,[0,1,2,8,9])] 0 [] k
section
variable (k:Nat) (a0:ByteArray) (a1:Int) (a2:Int)
def K0:Ex→St→Rs:=runK (E k) (eK (E k) Tryz.f122 (C k) (a0,a1,a2,())) [.blk 0,.code (at_ (bt 3 7) (body Tryz.f122))]
def V0 (n0:Nat):T0:=fun x0 x1 x2 x3 x4=>loopN (exec (E k) (at_ (bt 6 11) (body Tryz.f122))) (canon 0 [0,1,2,8,9]) (K0 k a0 a1 a2) n0 (mk 38 1 [(0,.str x0),(1,.int .i64 x1),(2,.int .i64 x2),(8,.ref 0),(9,.int .i64 x3)] [(0,.own false (.int .i64) x4)])
theorem s0 (n0:Nat):V0 k a0 a1 a2 (n0+1)=b0 k (V0 k a0 a1 a2 n0):=by kernel_rfl
theorem e0:V0 k a0 a1 a2=l0 k:=loop_eq rfl (s0 k a0 a1 a2) fun _=>rfl
end
theorem eq (k:Nat) (a0:ByteArray) (a1:Int) (a2:Int):rn (E k) Tryz.f122 (C k) (a0,a1,a2,())=f k a0 a1 a2:=(show _=t k (V0 k a0 a1 a2 k) a0 a1 a2 by kernel_rfl).trans (by rw [e0];rfl)
theorem ctr (k:Nat):Cp 122 (C k):=rc rfl (D k) (by kernel_rfl) Tryz.func122 (by kernel_rfl) rfl fun ⟨a0,a1,a2,_⟩ r h=>(eq k a0 a1 a2).trans h
end spec_l10Vars
namespace spec_DirOk
def C (k:Nat):Cn:=⟨[.val (.slice TEntry)],[.bool],true,false,fun x=>f k x.1⟩
def D (k:Nat):List Ce:=[q (spec_KeyOk.ctr k),q (spec_l1In.ctr k)]
def E (k:Nat):Env:=en (D k) [(4,[0,3])] 0 [] k
section
variable (k:Nat) (a0:List (Ty.den TEntry))
def K0:Ex→St→Rs:=runK (E k) (eK (E k) Tryz.f63 (C k) (a0,())) [.blk 0,.code (at_ (bt 3 7) (body Tryz.f63))]
def V0 (n0:Nat):T0:=fun x0 x1=>loopN (exec (E k) (at_ (bt 6 11) (body Tryz.f63))) (canon 0 [0,3]) (K0 k a0) n0 (mk 60 0 [(0,.sl true TEntry x0),(3,.int .i64 x1)] [])
theorem s0 (n0:Nat):V0 k a0 (n0+1)=b0 k (V0 k a0 n0):=by kernel_rfl
theorem e0:V0 k a0=l0 k:=loop_eq rfl (s0 k a0) fun _=>rfl
end
theorem eq (k:Nat) (a0:List (Ty.den TEntry)):rn (E k) Tryz.f63 (C k) (a0,())=f k a0:=(show _=t k (V0 k a0 k) a0 by kernel_rfl).trans (by rw [e0];rfl)
theorem ctr (k:Nat):Cp 63 (C k):=rc rfl (D k) (by kernel_rfl) Tryz.func63 (by kernel_rfl) rfl fun ⟨a0,_⟩ r h=>(eq k a0).trans h
end spec_DirOk
namespace spec_l10Ok
def C (k:Nat):Cn:=⟨[.val THint],[.bool],true,false,fun x=>f k x.1⟩
def D (k:Nat):List Ce:=[q (spec_l1In.ctr k),q (spec_DirOk.ctr k)]
def E (k:Nat):Env:=en (D k) [(4,[1,3])] 0 [] k
section
variable (k:Nat) (a0:Ty.den THint)
def K0:Ex→St→Rs:=runK (E k) (eK (E k) Tryz.f141 (C k) (a0,())) [.blk 0,.code (at_ (bt 3 7) (body Tryz.f141))]
def V0 (n0:Nat):T0:=fun x0 x1 x2 x3=>loopN (exec (E k) (at_ (bt 6 11) (body Tryz.f141))) (canon 0 [1,3]) (K0 k a0) n0 (mk 48 1 [(1,.ptr 0 0 0),(3,.int .i64 x0)] [(0,.box [.int .i64 x1,.int .i64 x2,.sl true TEntry x3])])
theorem s0 (n0:Nat):V0 k a0 (n0+1)=b0 k (V0 k a0 n0):=by kernel_rfl
theorem e0:V0 k a0=l0 k:=loop_eq rfl (s0 k a0) fun _=>rfl
end
theorem eq (k:Nat) (a0:Ty.den THint):rn (E k) Tryz.f141 (C k) (a0,())=f k a0:=(show _=t k (V0 k a0 k) a0 by kernel_rfl).trans (by rw [e0];rfl)
theorem ctr (k:Nat):Cp 141 (C k):=rc rfl (D k) (by kernel_rfl) Tryz.func141 (by kernel_rfl) rfl fun ⟨a0,_⟩ r h=>(eq k a0).trans h
end spec_l10Ok
namespace spec_ShowHint
def C (k:Nat):Cn:=⟨[.val THint],[.str],true,false,fun x=>f k x.1⟩
def D (k:Nat):List Ce:=[q (spec_l10Ok.ctr k),q (spec_Var.ctr k),q (spec_Crc.ctr k),q (spec_Fixed.ctr k)]
def E (k:Nat):Env:=en (D k) [(5,[1,3,4])] 0 [] k
section
variable (k:Nat) (a0:Ty.den THint)
def K0:Ex→St→Rs:=runK (E k) (eK (E k) Tryz.f123 (C k) (a0,())) [.blk 0,.code (at_ (bt 4 15) (body Tryz.f123))]
def V0 (n0:Nat):T0:=fun x0 x1 x2 x3 x4=>loopN (exec (E k) (at_ (bt 7 23) (body Tryz.f123))) (canon 0 [1,3,4]) (K0 k a0) n0 (mk 63 1 [(1,.ptr 0 0 0),(3,.str x0),(4,.int .i64 x1)] [(0,.box [.int .i64 x2,.int .i64 x3,.sl true TEntry x4])])
theorem s0 (n0:Nat):V0 k a0 (n0+1)=b0 k (V0 k a0 n0):=by kernel_rfl
theorem e0:V0 k a0=l0 k:=loop_eq rfl (s0 k a0) fun _=>rfl
end
theorem eq (k:Nat) (a0:Ty.den THint):rn (E k) Tryz.f123 (C k) (a0,())=f k a0:=(show _=t k (V0 k a0 k) a0 by kernel_rfl).trans (by rw [e0];rfl)
theorem ctr (k:Nat):Cp 123 (C k):=rc rfl (D k) (by kernel_rfl) Tryz.func123 (by kernel_rfl) rfl fun ⟨a0,_⟩ r h=>(eq k a0).trans h
end spec_ShowHint
namespace spec_ReadHint
def C (k:Nat):Cn:=⟨[.val .str],[THint,.bool],true,false,fun x=>f k x.1⟩
def D (k:Nat):List Ce:=[q (spec_l10Vars.ctr k),q (spec_l5Text.ctr k),q (spec_ShowHint.ctr k)]
def E (k:Nat):Env:=en (D k) [(8,[0,2,4,5,6,7])] 0 [] k
section
variable (k:Nat) (a0:ByteArray)
def K0:Ex→St→Rs:=runK (E k) (eK (E k) Tryz.f92 (C k) (a0,())) [.blk 0,.code (at_ (bt 6 63) (body Tryz.f92))]
def V0 (n0:Nat):T0:=fun x0 x1 x2 x3 x4 x5 x6 x7 x8 x9=>loopN (exec (E k) (at_ (bt 9 95) (body Tryz.f92))) (canon 0 [0,2,4,5,6,7]) (K0 k a0) n0 (mk 97 5 [(0,.str x0),(2,.ptr 0 0 0),(4,.ref 2),(5,.int .i64 x1),(6,.ptr 3 0 0),(7,.int .i64 x2)] [(1,.own false TEntry x3),(0,.box [.int .i64 x4,.int .i64 x5,.ref 1]),(2,.own false (.int .i64) x6),(4,.own false TEntry x7),(3,.box [.int .i64 x8,.int .i64 x9,.ref 4])])
theorem s0 (n0:Nat):V0 k a0 (n0+1)=b0 k (V0 k a0 n0):=by kernel_rfl
theorem e0:V0 k a0=l0 k:=loop_eq rfl (s0 k a0) fun _=>rfl
end
theorem eq (k:Nat) (a0:ByteArray):rn (E k) Tryz.f92 (C k) (a0,())=f k a0:=(show _=t k (V0 k a0 k) a0 by kernel_rfl).trans (by rw [e0];rfl)
theorem ctr (k:Nat):Cp 92 (C k):=rc rfl (D k) (by kernel_rfl) Tryz.func92 (by kernel_rfl) rfl fun ⟨a0,_⟩ r h=>(eq k a0).trans h
end spec_ReadHint
namespace spec_SumOf
def C (k:Nat):Cn:=⟨[.val (.slice TRec)],[(.int .i64)],true,false,fun x=>f k x.1⟩
def D (k:Nat):List Ce:=[q (spec_ShowRec.ctr k),q (spec_Crc.ctr k)]
def E (k:Nat):Env:=en (D k) [(3,[0,3,4])] 0 [] k
section
variable (k:Nat) (a0:List (Ty.den TRec))
def K0:Ex→St→Rs:=runK (E k) (eK (E k) Tryz.f81 (C k) (a0,())) [.blk 0,.code (at_ (bt 3 7) (body Tryz.f81))]
def V0 (n0:Nat):T0:=fun x0 x1 x2=>loopN (exec (E k) (at_ (bt 6 11) (body Tryz.f81))) (canon 0 [0,3,4]) (K0 k a0) n0 (mk 20 0 [(0,.sl true TRec x0),(3,.str x1),(4,.int .i64 x2)] [])
theorem s0 (n0:Nat):V0 k a0 (n0+1)=b0 k (V0 k a0 n0):=by kernel_rfl
theorem e0:V0 k a0=l0 k:=loop_eq rfl (s0 k a0) fun _=>rfl
end
theorem eq (k:Nat) (a0:List (Ty.den TRec)):rn (E k) Tryz.f81 (C k) (a0,())=f k a0:=(show _=t k (V0 k a0 k) a0 by kernel_rfl).trans (by rw [e0];rfl)
theorem ctr (k:Nat):Cp 81 (C k):=rc rfl (D k) (by kernel_rfl) Tryz.func81 (by kernel_rfl) rfl fun ⟨a0,_⟩ r h=>(eq k a0).trans h
end spec_SumOf
namespace spec_HintOf
def C (k:Nat):Cn:=⟨[.val (.int .i64),.val .str],[THint,.bool],true,false,fun x=>f k x.1 x.2.1⟩
def D (k:Nat):List Ce:=[q (spec_ScanRecs.ctr k),q (spec_SegName.ctr k),q (spec_SumOf.ctr k)]
def E (k:Nat):Env:=en (D k) [(7,[0,4,6,8,9,10])] 0 [] k
section
variable (k:Nat) (a0:Int) (a1:ByteArray)
def K0:Ex→St→Rs:=runK (E k) (eK (E k) Tryz.f124 (C k) (a0,a1,())) [.blk 0,.code (at_ (bt 6 63) (body Tryz.f124))]
def V0 (n0:Nat):T0:=fun x0 x1 x2 x3 x4 x5 x6 x7 x8 x9=>loopN (exec (E k) (at_ (bt 9 95) (body Tryz.f124))) (canon 0 [0,4,6,8,9,10]) (K0 k a0 a1) n0 (mk 141 6 [(0,.int .i64 x0),(4,.ptr 0 0 0),(6,.ref 2),(8,.ptr 3 0 0),(9,.ref 5),(10,.int .i64 x1)] [(1,.own false TEntry x2),(0,.box [.int .i64 x3,.int .i64 x4,.ref 1]),(2,.own false TSpot x5),(4,.own false TEntry x6),(3,.box [.int .i64 x7,.int .i64 x8,.ref 4]),(5,.own false TRec x9)])
theorem s0 (n0:Nat):V0 k a0 a1 (n0+1)=b0 k (V0 k a0 a1 n0):=by kernel_rfl
theorem e0:V0 k a0 a1=l0 k:=loop_eq rfl (s0 k a0 a1) fun _=>rfl
end
theorem eq (k:Nat) (a0:Int) (a1:ByteArray):rn (E k) Tryz.f124 (C k) (a0,a1,())=f k a0 a1:=(show _=t k (V0 k a0 a1 k) a0 a1 by kernel_rfl).trans (by rw [e0];rfl)
theorem ctr (k:Nat):Cp 124 (C k):=rc rfl (D k) (by kernel_rfl) Tryz.func124 (by kernel_rfl) rfl fun ⟨a0,a1,_⟩ r h=>(eq k a0 a1).trans h
end spec_HintOf
namespace spec_SameDir
def C (k:Nat):Cn:=⟨[.val (.slice TEntry),.val (.slice TEntry)],[.bool],true,false,fun x=>f k x.1 x.2.1⟩
def E (k:Nat):Env:=en [] [(4,[0,1,5])] 0 [] k
section
variable (k:Nat) (a0:List (Ty.den TEntry)) (a1:List (Ty.den TEntry))
def K0:Ex→St→Rs:=runK (E k) (eK (E k) Tryz.f125 (C k) (a0,a1,())) [.blk 0,.code (at_ (bt 3 7) (body Tryz.f125))]
def V0 (n0:Nat):T0:=fun x0 x1 x2=>loopN (exec (E k) (at_ (bt 6 11) (body Tryz.f125))) (canon 0 [0,1,5]) (K0 k a0 a1) n0 (mk 26 0 [(0,.sl true TEntry x0),(1,.sl true TEntry x1),(5,.int .i64 x2)] [])
theorem s0 (n0:Nat):V0 k a0 a1 (n0+1)=b0 k (V0 k a0 a1 n0):=by kernel_rfl
theorem e0:V0 k a0 a1=l0 k:=loop_eq rfl (s0 k a0 a1) fun _=>rfl
end
theorem eq (k:Nat) (a0:List (Ty.den TEntry)) (a1:List (Ty.den TEntry)):rn (E k) Tryz.f125 (C k) (a0,a1,())=f k a0 a1:=(show _=t k (V0 k a0 a1 k) a0 a1 by kernel_rfl).trans (by rw [e0];rfl)
theorem ctr (k:Nat):Cp 125 (C k):=rc rfl [] (by kernel_rfl) Tryz.func125 (by kernel_rfl) rfl fun ⟨a0,a1,_⟩ r h=>(eq k a0 a1).trans h
end spec_SameDir
namespace spec_HintFits
def C (k:Nat):Cn:=⟨[.val (.int .i64),.val .str,.val THint],[.bool],true,false,fun x=>f k x.1 x.2.1 x.2.2.1⟩
def D (k:Nat):List Ce:=[q (spec_HintOf.ctr k),q (spec_SameDir.ctr k)]
def E (k:Nat):Env:=en (D k) [] 0 [] k
theorem eq (k:Nat) (a0:Int) (a1:ByteArray) (a2:Ty.den THint):rn (E k) Tryz.f93 (C k) (a0,a1,a2,())=f k a0 a1 a2:=by kernel_rfl
theorem ctr (k:Nat):Cp 93 (C k):=rc rfl (D k) (by kernel_rfl) Tryz.func93 (by kernel_rfl) rfl fun ⟨a0,a1,a2,_⟩ r h=>(eq k a0 a1 a2).trans h
end spec_HintFits
namespace spec_l11Places
def C (k:Nat):Cn:=⟨[.val (.int .i64),.val .str],[(.slice TPlace)],true,false,fun x=>f k x.1 x.2.1⟩
def D (k:Nat):List Ce:=[q (spec_ScanRecs.ctr k)]
def E (k:Nat):Env:=en (D k) [(4,[0,5,6,8])] 0 [] k
section
variable (k:Nat) (a0:Int) (a1:ByteArray)
def K0:Ex→St→Rs:=runK (E k) (eK (E k) Tryz.f33 (C k) (a0,a1,())) [.blk 0,.code (at_ (bt 4 15) (body Tryz.f33))]
def V0 (n0:Nat):T0:=fun x0 x1 x2 x3=>loopN (exec (E k) (at_ (bt 7 23) (body Tryz.f33))) (canon 0 [0,5,6,8]) (K0 k a0 a1) n0 (mk 42 2 [(0,.int .i64 x0),(5,.ref 0),(6,.ref 1),(8,.int .i64 x1)] [(0,.own false TPlace x2),(1,.own false TSpot x3)])
theorem s0 (n0:Nat):V0 k a0 a1 (n0+1)=b0 k (V0 k a0 a1 n0):=by kernel_rfl
theorem e0:V0 k a0 a1=l0 k:=loop_eq rfl (s0 k a0 a1) fun _=>rfl
end
theorem eq (k:Nat) (a0:Int) (a1:ByteArray):rn (E k) Tryz.f33 (C k) (a0,a1,())=f k a0 a1:=(show _=t k (V0 k a0 a1 k) a0 a1 by kernel_rfl).trans (by rw [e0];rfl)
theorem ctr (k:Nat):Cp 33 (C k):=rc rfl (D k) (by kernel_rfl) Tryz.func33 (by kernel_rfl) rfl fun ⟨a0,a1,_⟩ r h=>(eq k a0 a1).trans h
end spec_l11Places
namespace spec_l9Of
def C (k:Nat):Cn:=⟨[.val (.slice TPlace),.val (.int .i64),.val (.int .i64)],[(.slice TPlace)],true,false,fun x=>f k x.1 x.2.1 x.2.2.1⟩
def E (k:Nat):Env:=en [] [(3,[0,1,2,7,8])] 0 [] k
section
variable (k:Nat) (a0:List (Ty.den TPlace)) (a1:Int) (a2:Int)
def K0:Ex→St→Rs:=runK (E k) (eK (E k) Tryz.f53 (C k) (a0,a1,a2,())) [.blk 0,.code (at_ (bt 3 7) (body Tryz.f53))]
def V0 (n0:Nat):T0:=fun x0 x1 x2 x3 x4=>loopN (exec (E k) (at_ (bt 6 11) (body Tryz.f53))) (canon 0 [0,1,2,7,8]) (K0 k a0 a1 a2) n0 (mk 53 1 [(0,.sl true TPlace x0),(1,.int .i64 x1),(2,.int .i64 x2),(7,.ref 0),(8,.int .i64 x3)] [(0,.own false TPlace x4)])
theorem s0 (n0:Nat):V0 k a0 a1 a2 (n0+1)=b0 k (V0 k a0 a1 a2 n0):=by kernel_rfl
theorem e0:V0 k a0 a1 a2=l0 k:=loop_eq rfl (s0 k a0 a1 a2) fun _=>rfl
end
theorem eq (k:Nat) (a0:List (Ty.den TPlace)) (a1:Int) (a2:Int):rn (E k) Tryz.f53 (C k) (a0,a1,a2,())=f k a0 a1 a2:=(show _=t k (V0 k a0 a1 a2 k) a0 a1 a2 by kernel_rfl).trans (by rw [e0];rfl)
theorem ctr (k:Nat):Cp 53 (C k):=rc rfl [] (by kernel_rfl) Tryz.func53 (by kernel_rfl) rfl fun ⟨a0,a1,a2,_⟩ r h=>(eq k a0 a1 a2).trans h
end spec_l9Of
namespace spec_l9Recs
def C (k:Nat):Cn:=⟨[.val (.slice TPlace)],[(.slice TRec)],true,false,fun x=>f k x.1⟩
def E (k:Nat):Env:=en [] [(3,[0,3,4])] 0 [] k
section
variable (k:Nat) (a0:List (Ty.den TPlace))
def K0:Ex→St→Rs:=runK (E k) (eK (E k) Tryz.f82 (C k) (a0,())) [.blk 0,.code (at_ (bt 3 7) (body Tryz.f82))]
def V0 (n0:Nat):T0:=fun x0 x1 x2=>loopN (exec (E k) (at_ (bt 6 11) (body Tryz.f82))) (canon 0 [0,3,4]) (K0 k a0) n0 (mk 21 1 [(0,.sl true TPlace x0),(3,.ref 0),(4,.int .i64 x1)] [(0,.own false TRec x2)])
theorem s0 (n0:Nat):V0 k a0 (n0+1)=b0 k (V0 k a0 n0):=by kernel_rfl
theorem e0:V0 k a0=l0 k:=loop_eq rfl (s0 k a0) fun _=>rfl
end
theorem eq (k:Nat) (a0:List (Ty.den TPlace)):rn (E k) Tryz.f82 (C k) (a0,())=f k a0:=(show _=t k (V0 k a0 k) a0 by kernel_rfl).trans (by rw [e0];rfl)
theorem ctr (k:Nat):Cp 82 (C k):=rc rfl [] (by kernel_rfl) Tryz.func82 (by kernel_rfl) rfl fun ⟨a0,_⟩ r h=>(eq k a0).trans h
end spec_l9Recs
namespace spec_l9Fits
def C (k:Nat):Cn:=⟨[.val TRec,.val (.slice TPlace)],[.bool],true,false,fun x=>f k x.1 x.2.1⟩
def D (k:Nat):List Ce:=[q (spec_l9Recs.ctr k),q (spec_SumOf.ctr k)]
def E (k:Nat):Env:=en (D k) [] 0 [] k
theorem eq (k:Nat) (a0:Ty.den TRec) (a1:List (Ty.den TPlace)):rn (E k) Tryz.f54 (C k) (a0,a1,())=f k a0 a1:=by kernel_rfl
theorem ctr (k:Nat):Cp 54 (C k):=rc rfl (D k) (by kernel_rfl) Tryz.func54 (by kernel_rfl) rfl fun ⟨a0,a1,_⟩ r h=>(eq k a0 a1).trans h
end spec_l9Fits
namespace spec_DirDrop
def C (k:Nat):Cn:=⟨[.val (.slice TEntry),.val .str],[(.slice TEntry)],true,false,fun x=>f k x.1 x.2.1⟩
def E (k:Nat):Env:=en [] [(3,[0,1,5,6])] 0 [] k
section
variable (k:Nat) (a0:List (Ty.den TEntry)) (a1:ByteArray)
def K0:Ex→St→Rs:=runK (E k) (eK (E k) Tryz.f83 (C k) (a0,a1,())) [.blk 0,.code (at_ (bt 3 7) (body Tryz.f83))]
def V0 (n0:Nat):T0:=fun x0 x1 x2 x3=>loopN (exec (E k) (at_ (bt 6 11) (body Tryz.f83))) (canon 0 [0,1,5,6]) (K0 k a0 a1) n0 (mk 29 1 [(0,.sl true TEntry x0),(1,.str x1),(5,.ref 0),(6,.int .i64 x2)] [(0,.own false TEntry x3)])
theorem s0 (n0:Nat):V0 k a0 a1 (n0+1)=b0 k (V0 k a0 a1 n0):=by kernel_rfl
theorem e0:V0 k a0 a1=l0 k:=loop_eq rfl (s0 k a0 a1) fun _=>rfl
end
theorem eq (k:Nat) (a0:List (Ty.den TEntry)) (a1:ByteArray):rn (E k) Tryz.f83 (C k) (a0,a1,())=f k a0 a1:=(show _=t k (V0 k a0 a1 k) a0 a1 by kernel_rfl).trans (by rw [e0];rfl)
theorem ctr (k:Nat):Cp 83 (C k):=rc rfl [] (by kernel_rfl) Tryz.func83 (by kernel_rfl) rfl fun ⟨a0,a1,_⟩ r h=>(eq k a0 a1).trans h
end spec_DirDrop
namespace spec_DirPut
def C (k:Nat):Cn:=⟨[.val (.slice TEntry),.val TEntry],[(.slice TEntry)],true,false,fun x=>f k x.1 x.2.1⟩
def E (k:Nat):Env:=en [] [(4,[0,3,5,6,7])] 0 [] k
section
variable (k:Nat) (a0:List (Ty.den TEntry)) (a1:Ty.den TEntry)
def K0:Ex→St→Rs:=runK (E k) (eK (E k) Tryz.f84 (C k) (a0,a1,())) [.blk 0,.code (at_ (bt 4 15) (body Tryz.f84))]
def V0 (n0:Nat):T0:=fun x0 x1 x2 x3 x4 x5 x6 x7 x8=>loopN (exec (E k) (at_ (bt 7 23) (body Tryz.f84))) (canon 0 [0,3,5,6,7]) (K0 k a0 a1) n0 (mk 53 2 [(0,.sl true TEntry x0),(3,.ptr 0 0 0),(5,.ref 1),(6,.bool x1),(7,.int .i64 x2)] [(0,.box [.str x3,.int .i64 x4,.int .i64 x5,.int .i64 x6,.int .i64 x7]),(1,.own false TEntry x8)])
theorem s0 (n0:Nat):V0 k a0 a1 (n0+1)=b0 k (V0 k a0 a1 n0):=by kernel_rfl
theorem e0:V0 k a0 a1=l0 k:=loop_eq rfl (s0 k a0 a1) fun _=>rfl
end
theorem eq (k:Nat) (a0:List (Ty.den TEntry)) (a1:Ty.den TEntry):rn (E k) Tryz.f84 (C k) (a0,a1,())=f k a0 a1:=(show _=t k (V0 k a0 a1 k) a0 a1 by kernel_rfl).trans (by rw [e0];rfl)
theorem ctr (k:Nat):Cp 84 (C k):=rc rfl [] (by kernel_rfl) Tryz.func84 (by kernel_rfl) rfl fun ⟨a0,a1,_⟩ r h=>(eq k a0 a1).trans h
end spec_DirPut
namespace spec_l9Put
def C (k:Nat):Cn:=⟨[.val (.slice TEntry),.val TPlace],[(.slice TEntry)],true,false,fun x=>f k x.1 x.2.1⟩
def D (k:Nat):List Ce:=[q (spec_DirDrop.ctr k),q (spec_DirPut.ctr k)]
def E (k:Nat):Env:=en (D k) [] 0 [] k
theorem eq (k:Nat) (a0:List (Ty.den TEntry)) (a1:Ty.den TPlace):rn (E k) Tryz.f56 (C k) (a0,a1,())=f k a0 a1:=by kernel_rfl
theorem ctr (k:Nat):Cp 56 (C k):=rc rfl (D k) (by kernel_rfl) Tryz.func56 (by kernel_rfl) rfl fun ⟨a0,a1,_⟩ r h=>(eq k a0 a1).trans h
end spec_l9Put
namespace spec_l9Kept
def C (k:Nat):Cn:=⟨[.val (.slice TPlace),.val (.int .i64)],[(.slice TPlace)],true,false,fun x=>f k x.1 x.2.1⟩
def E (k:Nat):Env:=en [] [(3,[0,1,5,6])] 0 [] k
section
variable (k:Nat) (a0:List (Ty.den TPlace)) (a1:Int)
def K0:Ex→St→Rs:=runK (E k) (eK (E k) Tryz.f55 (C k) (a0,a1,())) [.blk 0,.code (at_ (bt 3 7) (body Tryz.f55))]
def V0 (n0:Nat):T0:=fun x0 x1 x2 x3=>loopN (exec (E k) (at_ (bt 6 11) (body Tryz.f55))) (canon 0 [0,1,5,6]) (K0 k a0 a1) n0 (mk 36 1 [(0,.sl true TPlace x0),(1,.int .i64 x1),(5,.ref 0),(6,.int .i64 x2)] [(0,.own false TPlace x3)])
theorem s0 (n0:Nat):V0 k a0 a1 (n0+1)=b0 k (V0 k a0 a1 n0):=by kernel_rfl
theorem e0:V0 k a0 a1=l0 k:=loop_eq rfl (s0 k a0 a1) fun _=>rfl
end
theorem eq (k:Nat) (a0:List (Ty.den TPlace)) (a1:Int):rn (E k) Tryz.f55 (C k) (a0,a1,())=f k a0 a1:=(show _=t k (V0 k a0 a1 k) a0 a1 by kernel_rfl).trans (by rw [e0];rfl)
theorem ctr (k:Nat):Cp 55 (C k):=rc rfl [] (by kernel_rfl) Tryz.func55 (by kernel_rfl) rfl fun ⟨a0,a1,_⟩ r h=>(eq k a0 a1).trans h
end spec_l9Kept
namespace spec_Regroup
def C (k:Nat):Cn:=⟨[.val TGroup,.val (.slice TPlace)],[TGroup],true,false,fun x=>f k x.1 x.2.1⟩
def D (k:Nat):List Ce:=[q (spec_l9Of.ctr k),q (spec_l9Fits.ctr k),q (spec_l9Put.ctr k),q (spec_l9Kept.ctr k)]
def E (k:Nat):Env:=en (D k) [(3,[1,4,5,6]),(17,[1,4,5,6,8,9])] 0 [] k
section
variable (k:Nat) (a0:Ty.den TGroup) (a1:List (Ty.den TPlace))
def K0:Ex→St→Rs:=runK (E k) (eK (E k) Tryz.f34 (C k) (a0,a1,())) [.blk 0,.code (at_ (bt 3 7) (body Tryz.f34))]
def B0 (n0:Nat):Ex→St→Rs:=lpK (E k) (at_ (bt 6 11) (body Tryz.f34)) 0 [1,4,5,6] (K0 k a0 a1) n0
def K1 (n0:Nat):Ex→St→Rs:=runK (E k) (B0 k a0 a1 n0) [.blk 3,.code (at_ (bt 14 15947) (body Tryz.f34)),.blk 1,.code (at_ (bt 8 203) (body Tryz.f34))]
def V0 (n0:Nat):T0:=fun x0 x1 x2 x3 x4 x5 x6 x7=>loopN (exec (E k) (at_ (bt 6 11) (body Tryz.f34))) (canon 0 [1,4,5,6]) (K0 k a0 a1) n0 (mk 97 4 [(1,.sl true TPlace x0),(4,.ptr 0 0 0),(5,.ptr 2 0 0),(6,.int .i64 x1)] [(1,.own false TEntry x2),(0,.box [.ref 1,.int .i64 x3,.int .i64 x4]),(3,.own false TEntry x5),(2,.box [.ref 3,.int .i64 x6,.int .i64 x7])])
def V1 (n0 n1:Nat):T1:=fun x0 x1 x2 x3 x4 x5 x6 x7 x8 x9=>loopN (exec (E k) (at_ (bt 17 24139) (body Tryz.f34))) (canon 0 [1,4,5,6,8,9]) (K1 k a0 a1 n0) n1 (mk 97 5 [(1,.sl true TPlace x0),(4,.ptr 0 0 0),(5,.ptr 2 0 0),(6,.int .i64 x1),(8,.ref 4),(9,.int .i64 x2)] [(1,.own false TEntry x3),(0,.box [.ref 1,.int .i64 x4,.int .i64 x5]),(3,.own false TEntry x6),(2,.box [.ref 3,.int .i64 x7,.int .i64 x8]),(4,.own false TPlace x9)])
theorem s0 (n0:Nat):V0 k a0 a1 (n0+1)=b0 k (V1 k a0 a1 n0 k) (V0 k a0 a1 n0):=by kernel_rfl
theorem s1 (n0 n1:Nat):V1 k a0 a1 n0 (n1+1)=b1 k (V0 k a0 a1 n0) (V1 k a0 a1 n0 n1):=by kernel_rfl
theorem e1 (n0:Nat):V1 k a0 a1 n0=l1 k (V0 k a0 a1 n0):=loop_eq rfl (s1 k a0 a1 n0) fun _=>rfl
theorem e0 (n0:Nat):V0 k a0 a1 n0=l0 k n0:=by
 induction n0 with
 | zero=>rfl
 | succ n0 ih =>
  have h:V0 k a0 a1 (n0+1)=b0 k (V1 k a0 a1 n0 k) (V0 k a0 a1 n0):=s0 k a0 a1 n0
  rw [h,e1,ih]
  rfl
end
theorem eq (k:Nat) (a0:Ty.den TGroup) (a1:List (Ty.den TPlace)):rn (E k) Tryz.f34 (C k) (a0,a1,())=f k a0 a1:=(show _=t k (V0 k a0 a1 k) a0 a1 by kernel_rfl).trans (by rw [e0];rfl)
theorem ctr (k:Nat):Cp 34 (C k):=rc rfl (D k) (by kernel_rfl) Tryz.func34 (by kernel_rfl) rfl fun ⟨a0,a1,_⟩ r h=>(eq k a0 a1).trans h
end spec_Regroup
namespace spec_l11Sweep_g
def C (k:Nat):Cn:=⟨[.give TDisk,.val TLive],[TDisk,(.int .i64)],true,false,fun x=>f k x.1 x.2.1⟩
def D (k:Nat):List Ce:=[q (spec_Orphans.ctr k),q (spec_Remove.ctr k),q (spec_l11Code.ctr k)]
def E (k:Nat):Env:=en (D k) [(3,[2,4,6,7])] 0 [] k
section
variable (k:Nat) (a0:Ty.den TDisk) (a1:Ty.den TLive)
def K0:Ex→St→Rs:=runK (E k) (eK (E k) Tryz.f94 (C k) (a0,a1,())) [.blk 0,.code (at_ (bt 3 7) (body Tryz.f94))]
def V0 (n0:Nat):T0:=fun x0 x1 x2 x3 x4 x5 x6 x7 x8 x9=>loopN (exec (E k) (at_ (bt 6 11) (body Tryz.f94))) (canon 0 [2,4,6,7]) (K0 k a0 a1) n0 (mk 35 5 [(2,.ptr 0 0 0),(4,.ptr 2 0 0),(6,.ref 4),(7,.int .i64 x0)] [(1,.own false TPair x1),(0,.box [.ref 1,.int .i64 x2,.int .i64 x3,.bool x4]),(3,.own false TPair x5),(2,.box [.ref 3,.int .i64 x6,.int .i64 x7,.bool x8]),(4,.own false .str x9)])
theorem s0 (n0:Nat):V0 k a0 a1 (n0+1)=b0 k (V0 k a0 a1 n0):=by kernel_rfl
theorem e0:V0 k a0 a1=l0 k:=loop_eq rfl (s0 k a0 a1) fun _=>rfl
end
theorem eq (k:Nat) (a0:Ty.den TDisk) (a1:Ty.den TLive):rn (E k) Tryz.f94 (C k) (a0,a1,())=f k a0 a1:=(show _=t k (V0 k a0 a1 k) a0 a1 by kernel_rfl).trans (by rw [e0];rfl)
theorem ctr (k:Nat):Cp 94 (C k):=rc rfl (D k) (by kernel_rfl) Tryz.func94 (by kernel_rfl) rfl fun ⟨a0,a1,_⟩ r h=>(eq k a0 a1).trans h
end spec_l11Sweep_g
namespace spec_l11First_g
def C (k:Nat):Cn:=⟨[.give TDisk],[TStore,TDisk,(.int .i64)],true,false,fun x=>f k x.1⟩
def D (k:Nat):List Ce:=[q (spec_l11Sweep_g.ctr k),q (spec_SegName.ctr k),q (spec_Create.ctr k),q (spec_l11Code.ctr k),q (spec_PutLive.ctr k)]
def E (k:Nat):Env:=en (D k) [] 0 [] k
theorem eq (k:Nat) (a0:Ty.den TDisk):rn (E k) Tryz.f86 (C k) (a0,())=f k a0:=by kernel_rfl
theorem ctr (k:Nat):Cp 86 (C k):=rc rfl (D k) (by kernel_rfl) Tryz.func86 (by kernel_rfl) rfl fun ⟨a0,_⟩ r h=>(eq k a0).trans h
end spec_l11First_g
namespace spec_Open_g
def C (k:Nat):Cn:=⟨[.give TDisk],[TStore,TDisk,(.int .i64)],true,false,fun x=>f k x.1⟩
def D (k:Nat):List Ce:=[q (spec_DiskOk.ctr k),q (spec_l3Copy.ctr k),q (spec_FileText.ctr k),q (spec_l11First_g.ctr k),q (spec_ReadLive.ctr k),q (spec_SegName.ctr k),q (spec_ScanRecs.ctr k),q (spec_Truncate.ctr k),q (spec_l11Code.ctr k),q (spec_Sync.ctr k),q (spec_HintName.ctr k),q (spec_ReadHint.ctr k),q (spec_HintFits.ctr k),q (spec_l11Places.ctr k),q (spec_Regroup.ctr k),q (spec_l11Sweep_g.ctr k)]
def E (k:Nat):Env:=en (D k) [(14,[1,2,3,5,8,9,10]),(35,[2,3,5,8,19,23,24,25,26])] 0 [] k
section
variable (k:Nat) (a0:Ty.den TDisk)
def K0:Ex→St→Rs:=runK (E k) (eK (E k) Tryz.f57 (C k) (a0,())) [.blk 0,.code (at_ (bt 10 1023) (body Tryz.f57))]
def K1:Ex→St→Rs:=runK (E k) (eK (E k) Tryz.f57 (C k) (a0,())) [.blk 2,.code (at_ (bt 20 1048575) (body Tryz.f57))]
def V0 (n0:Nat):T0:=fun x0 x1 x2 x3 x4 x5 x6 x7 x8 x9 x10 x11 x12 x13 x14 x15 x16 x17 x18 x19 x20 x21 x22 x23=>loopN (exec (E k) (at_ (bt 13 1535) (body Tryz.f57))) (canon 0 [1,2,3,5,8,9,10]) (K0 k a0) n0 (mk 268 12 [(1,.ptr 0 0 0),(2,.ptr 2 0 0),(3,.ptr 5 0 0),(5,.ptr 7 0 0),(8,.ptr 10 0 0),(9,.int .i64 x0),(10,.int .i64 x1)] [(1,.own false TPair x2),(0,.box [.ref 1,.int .i64 x3,.int .i64 x4,.bool x5]),(3,.own false (.int .i64) x6),(4,.own false TEntry x7),(2,.box [.int .i64 x8,.ref 3,.ref 4,.int .i64 x9,.int .i64 x10,.int .i64 x11]),(6,.own false TPair x12),(5,.box [.ref 6,.int .i64 x13,.int .i64 x14,.bool x15]),(8,.own false (.int .i64) x16),(9,.own false TEntry x17),(7,.box [.int .i64 x18,.ref 8,.ref 9,.int .i64 x19,.int .i64 x20,.int .i64 x21]),(11,.own false (.int .i64) x22),(10,.box [.int .i64 x23,.ref 11])])
def V1 (n1:Nat):T1:=fun x0 x1 x2 x3 x4 x5 x6 x7 x8 x9 x10 x11 x12 x13 x14 x15 x16 x17 x18 x19 x20 x21 x22 x23 x24 x25 x26 x27 x28 x29 x30 x31=>loopN (exec (E k) (at_ (bt 23 1572863) (body Tryz.f57))) (canon 0 [2,3,5,8,19,23,24,25,26]) (K1 k a0) n1 (mk 268 17 [(2,.ptr 0 0 0),(3,.ptr 3 0 0),(5,.ptr 5 0 0),(8,.ptr 8 0 0),(19,.ptr 10 0 0),(23,.ptr 12 0 0),(24,.ptr 14 0 0),(25,.ref 16),(26,.int .i64 x0)] [(1,.own false (.int .i64) x1),(2,.own false TEntry x2),(0,.box [.int .i64 x3,.ref 1,.ref 2,.int .i64 x4,.int .i64 x5,.int .i64 x6]),(4,.own false TPair x7),(3,.box [.ref 4,.int .i64 x8,.int .i64 x9,.bool x10]),(6,.own false (.int .i64) x11),(7,.own false TEntry x12),(5,.box [.int .i64 x13,.ref 6,.ref 7,.int .i64 x14,.int .i64 x15,.int .i64 x16]),(9,.own false (.int .i64) x17),(8,.box [.int .i64 x18,.ref 9]),(11,.own false TPair x19),(10,.box [.ref 11,.int .i64 x20,.int .i64 x21,.bool x22]),(13,.own false TEntry x23),(12,.box [.int .i64 x24,.ref 9,.ref 13,.int .i64 x25,.int .i64 x26,.int .i64 x27]),(15,.own false TEntry x28),(14,.box [.ref 15,.int .i64 x29,.int .i64 x30]),(16,.own false TPlace x31)])
def V2 (n1:Nat):T2:=fun x0 x1 x2 x3 x4 x5 x6 x7 x8 x9 x10 x11 x12 x13 x14 x15 x16 x17 x18 x19 x20 x21 x22 x23 x24 x25 x26 x27 x28 x29 x30 x31=>loopN (exec (E k) (at_ (bt 23 1572863) (body Tryz.f57))) (canon 0 [2,3,5,8,19,23,24,25,26]) (K1 k a0) n1 (mk 268 17 [(2,.ptr 0 0 0),(3,.ptr 3 0 0),(5,.ptr 5 0 0),(8,.ptr 8 0 0),(19,.ptr 10 0 0),(23,.ptr 12 0 0),(24,.ptr 14 0 0),(25,.ref 16),(26,.int .i64 x0)] [(1,.own false (.int .i64) x1),(2,.own false TEntry x2),(0,.box [.int .i64 x3,.ref 1,.ref 2,.int .i64 x4,.int .i64 x5,.int .i64 x6]),(4,.own false TPair x7),(3,.box [.ref 4,.int .i64 x8,.int .i64 x9,.bool x10]),(6,.own false (.int .i64) x11),(7,.own false TEntry x12),(5,.box [.int .i64 x13,.ref 6,.ref 7,.int .i64 x14,.int .i64 x15,.int .i64 x16]),(9,.own false (.int .i64) x17),(8,.box [.int .i64 x18,.ref 9]),(11,.own false TPair x19),(10,.box [.ref 11,.int .i64 x20,.int .i64 x21,.bool x22]),(13,.own false TEntry x23),(12,.box [.int .i64 x24,.ref 9,.ref 13,.int .i64 x25,.int .i64 x26,.int .i64 x27]),(15,.own false TEntry x28),(14,.box [.ref 15,.int .i64 x29,.int .i64 x30]),(16,.own false TPlace x31)])
theorem s0 (n0:Nat):V0 k a0 (n0+1)=b0 k (V1 k a0 k) (V2 k a0 k) (V0 k a0 n0):=by kernel_rfl
theorem s1 (n1:Nat):V1 k a0 (n1+1)=b1 k (V1 k a0 n1):=by kernel_rfl
theorem s2 (n1:Nat):V2 k a0 (n1+1)=b2 k (V2 k a0 n1):=by kernel_rfl
theorem e1:V1 k a0=l1 k:=loop_eq rfl (s1 k a0) fun _=>rfl
theorem e2:V2 k a0=l2 k:=loop_eq rfl (s2 k a0) fun _=>rfl
theorem e0 (n0:Nat):V0 k a0 n0=l0 k n0:=by
 induction n0 with
 | zero=>rfl
 | succ n0 ih =>
  have h:V0 k a0 (n0+1)=b0 k (V1 k a0 k) (V2 k a0 k) (V0 k a0 n0):=s0 k a0 n0
  rw [h,e1,e2,ih]
  rfl
end
theorem eq (k:Nat) (a0:Ty.den TDisk):rn (E k) Tryz.f57 (C k) (a0,())=f k a0:=(show _=t k (V0 k a0 k) a0 by kernel_rfl).trans (by rw [e0];rfl)
theorem ctr (k:Nat):Cp 57 (C k):=rc rfl (D k) (by kernel_rfl) Tryz.func57 (by kernel_rfl) rfl fun ⟨a0,_⟩ r h=>(eq k a0).trans h
end spec_Open_g
namespace spec_EngineNew_g
def C (k:Nat):Cn:=⟨[.give TDisk],[TEngine,(.int .i64)],true,false,fun x=>f k x.1⟩
def D (k:Nat):List Ce:=[q (spec_Open_g.ctr k)]
def E (k:Nat):Env:=en (D k) [] 0 [] k
theorem eq (k:Nat) (a0:Ty.den TDisk):rn (E k) Tryz.f36 (C k) (a0,())=f k a0:=by kernel_rfl
theorem ctr (k:Nat):Cp 36 (C k):=rc rfl (D k) (by kernel_rfl) Tryz.func36 (by kernel_rfl) rfl fun ⟨a0,_⟩ r h=>(eq k a0).trans h
end spec_EngineNew_g
namespace spec_l1Byte
def C (k:Nat):Cn:=⟨[.io false Tl1Cur],[(.int .i64)],true,true,fun x=>f k x.1⟩
def E (k:Nat):Env:=en [] [] 1 [] k
theorem eq (k:Nat) (a0:Ty.den Tl1Cur):rn (E k) Tryz.f43 (C k) (a0,())=f k a0:=by kernel_rfl
theorem ctr (k:Nat):Cp 43 (C k):=rc rfl [] (by kernel_rfl) Tryz.func43 (by kernel_rfl) rfl fun ⟨a0,_⟩ r h=>(eq k a0).trans h
end spec_l1Byte
namespace spec_l1Below
def C (k:Nat):Cn:=⟨[.io false Tl1Cur,.val (.int .i64)],[(.int .i64)],true,true,fun x=>f k x.1 x.2.1⟩
def D (k:Nat):List Ce:=[q (spec_l1Byte.ctr k)]
def E (k:Nat):Env:=en (D k) [] 1 [] k
theorem eq (k:Nat) (a0:Ty.den Tl1Cur) (a1:Int):rn (E k) Tryz.f18 (C k) (a0,a1,())=f k a0 a1:=by kernel_rfl
theorem ctr (k:Nat):Cp 18 (C k):=rc rfl (D k) (by kernel_rfl) Tryz.func18 (by kernel_rfl) rfl fun ⟨a0,a1,_⟩ r h=>(eq k a0 a1).trans h
end spec_l1Below
namespace spec_l1PickInt
def C (k:Nat):Cn:=⟨[.io false Tl1Cur,.val (.slice (.int .i64))],[(.int .i64)],true,true,fun x=>f k x.1 x.2.1⟩
def D (k:Nat):List Ce:=[q (spec_l1Below.ctr k)]
def E (k:Nat):Env:=en (D k) [] 1 [] k
theorem eq (k:Nat) (a0:Ty.den Tl1Cur) (a1:List Int):rn (E k) Tryz.f19 (C k) (a0,a1,())=f k a0 a1:=by kernel_rfl
theorem ctr (k:Nat):Cp 19 (C k):=rc rfl (D k) (by kernel_rfl) Tryz.func19 (by kernel_rfl) rfl fun ⟨a0,a1,_⟩ r h=>(eq k a0 a1).trans h
end spec_l1PickInt
namespace spec_l1Pick
def C (k:Nat):Cn:=⟨[.io false Tl1Cur,.val (.slice .str)],[.str],true,true,fun x=>f k x.1 x.2.1⟩
def D (k:Nat):List Ce:=[q (spec_l1Below.ctr k)]
def E (k:Nat):Env:=en (D k) [] 1 [] k
theorem eq (k:Nat) (a0:Ty.den Tl1Cur) (a1:List ByteArray):rn (E k) Tryz.f129 (C k) (a0,a1,())=f k a0 a1:=by kernel_rfl
theorem ctr (k:Nat):Cp 129 (C k):=rc rfl (D k) (by kernel_rfl) Tryz.func129 (by kernel_rfl) rfl fun ⟨a0,a1,_⟩ r h=>(eq k a0 a1).trans h
end spec_l1Pick
namespace spec_l5Key
def C (k:Nat):Cn:=⟨[.io false Tl1Cur],[.str],true,true,fun x=>f k x.1⟩
def D (k:Nat):List Ce:=[q (spec_l1Pick.ctr k)]
def E (k:Nat):Env:=en (D k) [] 1 [] k
theorem eq (k:Nat) (a0:Ty.den Tl1Cur):rn (E k) Tryz.f128 (C k) (a0,())=f k a0:=by kernel_rfl
theorem ctr (k:Nat):Cp 128 (C k):=rc rfl (D k) (by kernel_rfl) Tryz.func128 (by kernel_rfl) rfl fun ⟨a0,_⟩ r h=>(eq k a0).trans h
end spec_l5Key
namespace spec_l1Text
def C (k:Nat):Cn:=⟨[.io false Tl1Cur,.val (.int .i64)],[.str],true,true,fun x=>f k x.1 x.2.1⟩
def D (k:Nat):List Ce:=[q (spec_l1Below.ctr k),q (spec_l1Byte.ctr k)]
def E (k:Nat):Env:=en (D k) [(4,[0,5,6,7])] 1 [] k
section
variable (k:Nat) (a0:Ty.den Tl1Cur) (a1:Int)
def K0:Ex→St→Rs:=runK (E k) (eK (E k) Tryz.f50 (C k) (a0,a1,())) [.blk 0,.code (at_ (bt 4 15) (body Tryz.f50))]
def V0 (n0:Nat):T0:=fun x0 x1 x2 x3 x4 x5=>loopN (exec (E k) (at_ (bt 7 23) (body Tryz.f50))) (canon 1 [0,5,6,7]) (K0 k a0 a1) n0 (mk 38 2 [(0,.ptr 0 0 0),(5,.ref 1),(6,.int .i64 x0),(7,.int .i64 x1)] [(0,.box [.sl true (.int .u8) x2,.int .i64 x3,.int .i64 x4]),(1,.own false (.int .u8) x5)])
theorem s0 (n0:Nat):V0 k a0 a1 (n0+1)=b0 k (V0 k a0 a1 n0):=by kernel_rfl
theorem e0:V0 k a0 a1=l0 k:=loop_eq rfl (s0 k a0 a1) fun _=>rfl
end
theorem eq (k:Nat) (a0:Ty.den Tl1Cur) (a1:Int):rn (E k) Tryz.f50 (C k) (a0,a1,())=f k a0 a1:=(show _=t k (V0 k a0 a1 k) a0 a1 by kernel_rfl).trans (by rw [e0];rfl)
theorem ctr (k:Nat):Cp 50 (C k):=rc rfl (D k) (by kernel_rfl) Tryz.func50 (by kernel_rfl) rfl fun ⟨a0,a1,_⟩ r h=>(eq k a0 a1).trans h
end spec_l1Text
namespace spec_l16Step
def C (k:Nat):Cn:=⟨[.io false Tl1Cur],[TStep],true,true,fun x=>f k x.1⟩
def D (k:Nat):List Ce:=[q (spec_l1PickInt.ctr k),q (spec_l1Below.ctr k),q (spec_l5Key.ctr k),q (spec_l1Pick.ctr k),q (spec_l1Text.ctr k)]
def E (k:Nat):Env:=en (D k) [] 1 [] k
theorem eq (k:Nat) (a0:Ty.den Tl1Cur):rn (E k) Tryz.f95 (C k) (a0,())=f k a0:=by kernel_rfl
theorem ctr (k:Nat):Cp 95 (C k):=rc rfl (D k) (by kernel_rfl) Tryz.func95 (by kernel_rfl) rfl fun ⟨a0,_⟩ r h=>(eq k a0).trans h
end spec_l16Step
namespace spec_l1Once
def C (k:Nat):Cn:=⟨[.io false Tl1Cur,.val (.int .i64)],[.bool],true,true,fun x=>f k x.1 x.2.1⟩
def D (k:Nat):List Ce:=[q (spec_l1Below.ctr k)]
def E (k:Nat):Env:=en (D k) [] 1 [] k
theorem eq (k:Nat) (a0:Ty.den Tl1Cur) (a1:Int):rn (E k) Tryz.f30 (C k) (a0,a1,())=f k a0 a1:=by kernel_rfl
theorem ctr (k:Nat):Cp 30 (C k):=rc rfl (D k) (by kernel_rfl) Tryz.func30 (by kernel_rfl) rfl fun ⟨a0,a1,_⟩ r h=>(eq k a0 a1).trans h
end spec_l1Once
namespace spec_l16Steps
def C (k:Nat):Cn:=⟨[.io false Tl1Cur,.val (.int .i64)],[(.slice TStep)],true,true,fun x=>f k x.1 x.2.1⟩
def D (k:Nat):List Ce:=[q (spec_l1Below.ctr k),q (spec_l16Step.ctr k),q (spec_l1In.ctr k),q (spec_l1Once.ctr k)]
def E (k:Nat):Env:=en (D k) [(4,[0,5,6,7])] 1 [] k
section
variable (k:Nat) (a0:Ty.den Tl1Cur) (a1:Int)
def K0:Ex→St→Rs:=runK (E k) (eK (E k) Tryz.f58 (C k) (a0,a1,())) [.blk 0,.code (at_ (bt 4 15) (body Tryz.f58))]
def V0 (n0:Nat):T0:=fun x0 x1 x2 x3 x4 x5=>loopN (exec (E k) (at_ (bt 7 23) (body Tryz.f58))) (canon 1 [0,5,6,7]) (K0 k a0 a1) n0 (mk 85 3 [(0,.ptr 0 0 0),(5,.ref 1),(6,.ref 2),(7,.int .i64 x0)] [(0,.box [.sl true (.int .u8) x1,.int .i64 x2,.int .i64 x3]),(1,.own false TStep x4),(2,.own false .bool x5)])
theorem s0 (n0:Nat):V0 k a0 a1 (n0+1)=b0 k (V0 k a0 a1 n0):=by kernel_rfl
theorem e0:V0 k a0 a1=l0 k:=loop_eq rfl (s0 k a0 a1) fun _=>rfl
end
theorem eq (k:Nat) (a0:Ty.den Tl1Cur) (a1:Int):rn (E k) Tryz.f58 (C k) (a0,a1,())=f k a0 a1:=(show _=t k (V0 k a0 a1 k) a0 a1 by kernel_rfl).trans (by rw [e0];rfl)
theorem ctr (k:Nat):Cp 58 (C k):=rc rfl (D k) (by kernel_rfl) Tryz.func58 (by kernel_rfl) rfl fun ⟨a0,a1,_⟩ r h=>(eq k a0 a1).trans h
end spec_l16Steps
namespace spec_l18Script
def C (k:Nat):Cn:=⟨[.io false Tl1Cur,.val (.int .i64)],[TScript],true,true,fun x=>f k x.1 x.2.1⟩
def D (k:Nat):List Ce:=[q (spec_l16Steps.ctr k),q (spec_l1Below.ctr k)]
def E (k:Nat):Env:=en (D k) [] 1 [] k
theorem eq (k:Nat) (a0:Ty.den Tl1Cur) (a1:Int):rn (E k) Tryz.f38 (C k) (a0,a1,())=f k a0 a1:=by kernel_rfl
theorem ctr (k:Nat):Cp 38 (C k):=rc rfl (D k) (by kernel_rfl) Tryz.func38 (by kernel_rfl) rfl fun ⟨a0,a1,_⟩ r h=>(eq k a0 a1).trans h
end spec_l18Script
namespace spec_l12Copy
def C (k:Nat):Cn:=⟨[.val TStore],[TStore],true,false,fun x=>f k x.1⟩
def E (k:Nat):Env:=en [] [] 0 [] k
theorem eq (k:Nat) (a0:Ty.den TStore):rn (E k) Tryz.f96 (C k) (a0,())=f k a0:=by kernel_rfl
theorem ctr (k:Nat):Cp 96 (C k):=rc rfl [] (by kernel_rfl) Tryz.func96 (by kernel_rfl) rfl fun ⟨a0,_⟩ r h=>(eq k a0).trans h
end spec_l12Copy
namespace spec_l15Copy
def C (k:Nat):Cn:=⟨[.val TTxn],[TTxn],true,false,fun x=>f k x.1⟩
def E (k:Nat):Env:=en [] [] 0 [] k
theorem eq (k:Nat) (a0:Ty.den TTxn):rn (E k) Tryz.f97 (C k) (a0,())=f k a0:=by kernel_rfl
theorem ctr (k:Nat):Cp 97 (C k):=rc rfl [] (by kernel_rfl) Tryz.func97 (by kernel_rfl) rfl fun ⟨a0,_⟩ r h=>(eq k a0).trans h
end spec_l15Copy
namespace spec_l16Copy
def C (k:Nat):Cn:=⟨[.val TEngine],[TEngine],true,false,fun x=>f k x.1⟩
def D (k:Nat):List Ce:=[q (spec_l12Copy.ctr k),q (spec_l3Copy.ctr k),q (spec_l15Copy.ctr k)]
def E (k:Nat):Env:=en (D k) [(5,[1,2,3,4])] 0 [] k
section
variable (k:Nat) (a0:Ty.den TEngine)
def K0:Ex→St→Rs:=runK (E k) (eK (E k) Tryz.f59 (C k) (a0,())) [.blk 0,.code (at_ (bt 5 31) (body Tryz.f59))]
def V0 (n0:Nat):T0:=fun x0 x1 x2 x3 x4 x5 x6 x7 x8 x9 x10 x11 x12 x13 x14 x15 x16 x17 x18 x19 x20 x21 x22 x23 x24 x25=>loopN (exec (E k) (at_ (bt 8 47) (body Tryz.f59))) (canon 0 [1,2,3,4]) (K0 k a0) n0 (mk 33 10 [(1,.ptr 0 0 0),(2,.ptr 4 0 0),(3,.ref 9),(4,.int .i64 x0)] [(1,.own false (.int .i64) x1),(2,.own false TEntry x2),(3,.own false TPair x3),(0,.box [.bool x4,.int .i64 x5,.ref 1,.ref 2,.int .i64 x6,.int .i64 x7,.int .i64 x8,.ref 3,.int .i64 x9,.int .i64 x10,.bool x11,.sl true TTxn x12]),(5,.own false (.int .i64) x13),(6,.own false TEntry x14),(7,.own false TPair x15),(8,.own false TTxn x16),(4,.box [.bool x17,.int .i64 x18,.ref 5,.ref 6,.int .i64 x19,.int .i64 x20,.int .i64 x21,.ref 7,.int .i64 x22,.int .i64 x23,.bool x24,.ref 8]),(9,.own false TTxn x25)])
theorem s0 (n0:Nat):V0 k a0 (n0+1)=b0 k (V0 k a0 n0):=by kernel_rfl
theorem e0:V0 k a0=l0 k:=loop_eq rfl (s0 k a0) fun _=>rfl
end
theorem eq (k:Nat) (a0:Ty.den TEngine):rn (E k) Tryz.f59 (C k) (a0,())=f k a0:=(show _=t k (V0 k a0 k) a0 by kernel_rfl).trans (by rw [e0];rfl)
theorem ctr (k:Nat):Cp 59 (C k):=rc rfl (D k) (by kernel_rfl) Tryz.func59 (by kernel_rfl) rfl fun ⟨a0,_⟩ r h=>(eq k a0).trans h
end spec_l16Copy
namespace spec_OwnWrite
def C (k:Nat):Cn:=⟨[.val TTxn,.val .str],[TPut,.bool],true,false,fun x=>f k x.1 x.2.1⟩
def E (k:Nat):Env:=en [] [(2,[1,2,4,6])] 0 [] k
section
variable (k:Nat) (a0:Ty.den TTxn) (a1:ByteArray)
def K0:Ex→St→Rs:=runK (E k) (eK (E k) Tryz.f98 (C k) (a0,a1,())) [.blk 0,.code (at_ (bt 2 3) (body Tryz.f98))]
def V0 (n0:Nat):T0:=fun x0 x1 x2 x3 x4 x5 x6 x7=>loopN (exec (E k) (at_ (bt 5 5) (body Tryz.f98))) (canon 0 [1,2,4,6]) (K0 k a0 a1) n0 (mk 29 2 [(1,.str x0),(2,.ptr 0 0 0),(4,.ptr 1 0 0),(6,.int .i64 x1)] [(0,.box [.bool x2,.sl true TReadRow x3,.sl true TPut x4]),(1,.box [.str x5,.bool x6,.str x7])])
theorem s0 (n0:Nat):V0 k a0 a1 (n0+1)=b0 k (V0 k a0 a1 n0):=by kernel_rfl
theorem e0:V0 k a0 a1=l0 k:=loop_eq rfl (s0 k a0 a1) fun _=>rfl
end
theorem eq (k:Nat) (a0:Ty.den TTxn) (a1:ByteArray):rn (E k) Tryz.f98 (C k) (a0,a1,())=f k a0 a1:=(show _=t k (V0 k a0 a1 k) a0 a1 by kernel_rfl).trans (by rw [e0];rfl)
theorem ctr (k:Nat):Cp 98 (C k):=rc rfl [] (by kernel_rfl) Tryz.func98 (by kernel_rfl) rfl fun ⟨a0,a1,_⟩ r h=>(eq k a0 a1).trans h
end spec_OwnWrite
namespace spec_NetWrites
def C (k:Nat):Cn:=⟨[.val TTxn],[(.slice TPut)],true,false,fun x=>f k x.1⟩
def D (k:Nat):List Ce:=[q (spec_OwnWrite.ctr k)]
def E (k:Nat):Env:=en (D k) [(3,[1,3,4]),(7,[1,3,4,5,6])] 0 [] k
section
variable (k:Nat) (a0:Ty.den TTxn)
def K0:Ex→St→Rs:=runK (E k) (eK (E k) Tryz.f60 (C k) (a0,())) [.blk 0,.code (at_ (bt 3 7) (body Tryz.f60))]
def B0 (n0:Nat):Ex→St→Rs:=lpK (E k) (at_ (bt 6 11) (body Tryz.f60)) 0 [1,3,4] (K0 k a0) n0
def K1 (n0:Nat):Ex→St→Rs:=runK (E k) (B0 k a0 n0) [.blk 2,.code (at_ (bt 11 1611) (body Tryz.f60)),.blk 1,.code (at_ (bt 8 203) (body Tryz.f60))]
def V0 (n0:Nat):T0:=fun x0 x1 x2 x3 x4=>loopN (exec (E k) (at_ (bt 6 11) (body Tryz.f60))) (canon 0 [1,3,4]) (K0 k a0) n0 (mk 55 2 [(1,.ptr 0 0 0),(3,.ref 1),(4,.int .i64 x0)] [(0,.box [.bool x1,.sl true TReadRow x2,.sl true TPut x3]),(1,.own false TPut x4)])
def V1 (n0 n1:Nat):T1:=fun x0 x1 x2 x3 x4 x5 x6=>loopN (exec (E k) (at_ (bt 14 2635) (body Tryz.f60))) (canon 0 [1,3,4,5,6]) (K1 k a0 n0) n1 (mk 55 2 [(1,.ptr 0 0 0),(3,.ref 1),(4,.int .i64 x0),(5,.bool x1),(6,.int .i64 x2)] [(0,.box [.bool x3,.sl true TReadRow x4,.sl true TPut x5]),(1,.own false TPut x6)])
theorem s0 (n0:Nat):V0 k a0 (n0+1)=b0 k (V1 k a0 n0 k) (V0 k a0 n0):=by kernel_rfl
theorem s1 (n0 n1:Nat):V1 k a0 n0 (n1+1)=b1 k (V0 k a0 n0) (V1 k a0 n0 n1):=by kernel_rfl
theorem e1 (n0:Nat):V1 k a0 n0=l1 k (V0 k a0 n0):=loop_eq rfl (s1 k a0 n0) fun _=>rfl
theorem e0 (n0:Nat):V0 k a0 n0=l0 k n0:=by
 induction n0 with
 | zero=>rfl
 | succ n0 ih =>
  have h:V0 k a0 (n0+1)=b0 k (V1 k a0 n0 k) (V0 k a0 n0):=s0 k a0 n0
  rw [h,e1,ih]
  rfl
end
theorem eq (k:Nat) (a0:Ty.den TTxn):rn (E k) Tryz.f60 (C k) (a0,())=f k a0:=(show _=t k (V0 k a0 k) a0 by kernel_rfl).trans (by rw [e0];rfl)
theorem ctr (k:Nat):Cp 60 (C k):=rc rfl (D k) (by kernel_rfl) Tryz.func60 (by kernel_rfl) rfl fun ⟨a0,_⟩ r h=>(eq k a0).trans h
end spec_NetWrites
namespace spec_Used
def C (k:Nat):Cn:=⟨[.val TDisk],[(.int .i64)],true,false,fun x=>f k x.1⟩
def D (k:Nat):List Ce:=[q (spec_DiskOk.ctr k),q (spec_l3Used.ctr k)]
def E (k:Nat):Env:=en (D k) [] 0 [] k
theorem eq (k:Nat) (a0:Ty.den TDisk):rn (E k) Tryz.f99 (C k) (a0,())=f k a0:=by kernel_rfl
theorem ctr (k:Nat):Cp 99 (C k):=rc rfl (D k) (by kernel_rfl) Tryz.func99 (by kernel_rfl) rfl fun ⟨a0,_⟩ r h=>(eq k a0).trans h
end spec_Used
namespace spec_RecAt
def C (k:Nat):Cn:=⟨[.val .str,.val (.int .i64),.val (.int .i64)],[TRec,.bool],true,false,fun x=>f k x.1 x.2.1 x.2.2.1⟩
def D (k:Nat):List Ce:=[q (spec_l1In.ctr k),q (spec_Unframe.ctr k),q (spec_ReadRec.ctr k)]
def E (k:Nat):Env:=en (D k) [] 0 [] k
theorem eq (k:Nat) (a0:ByteArray) (a1:Int) (a2:Int):rn (E k) Tryz.f35 (C k) (a0,a1,a2,())=f k a0 a1 a2:=by kernel_rfl
theorem ctr (k:Nat):Cp 35 (C k):=rc rfl (D k) (by kernel_rfl) Tryz.func35 (by kernel_rfl) rfl fun ⟨a0,a1,a2,_⟩ r h=>(eq k a0 a1 a2).trans h
end spec_RecAt
namespace spec_StoreOk
def C (k:Nat):Cn:=⟨[.val TStore,.val TDisk],[.bool],true,false,fun x=>f k x.1 x.2.1⟩
def D (k:Nat):List Ce:=[q (spec_DiskOk.ctr k),q (spec_LiveOk.ctr k),q (spec_DirOk.ctr k),q (spec_l1In.ctr k),q (spec_SegName.ctr k),q (spec_FileText.ctr k),q (spec_ScanRecs.ctr k),q (spec_RecAt.ctr k)]
def E (k:Nat):Env:=en (D k) [(4,[2,3,5]),(11,[2,3,10])] 0 [] k
section
variable (k:Nat) (a0:Ty.den TStore) (a1:Ty.den TDisk)
def K0:Ex→St→Rs:=runK (E k) (eK (E k) Tryz.f40 (C k) (a0,a1,())) [.blk 0,.code (at_ (bt 3 7) (body Tryz.f40))]
def K1:Ex→St→Rs:=runK (E k) (eK (E k) Tryz.f40 (C k) (a0,a1,())) [.blk 2,.code (at_ (bt 4 15) (body Tryz.f40))]
def V0 (n0:Nat):T0:=fun x0 x1 x2 x3 x4 x5 x6 x7 x8 x9 x10=>loopN (exec (E k) (at_ (bt 6 11) (body Tryz.f40))) (canon 0 [2,3,5]) (K0 k a0 a1) n0 (mk 148 2 [(2,.ptr 0 0 0),(3,.ptr 1 0 0),(5,.int .i64 x0)] [(0,.box [.int .i64 x1,.sl true (.int .i64) x2,.sl true TEntry x3,.int .i64 x4,.int .i64 x5,.int .i64 x6]),(1,.box [.sl true TPair x7,.int .i64 x8,.int .i64 x9,.bool x10])])
def V1 (n1:Nat):T1:=fun x0 x1 x2 x3 x4 x5 x6 x7 x8 x9 x10=>loopN (exec (E k) (at_ (bt 7 23) (body Tryz.f40))) (canon 0 [2,3,10]) (K1 k a0 a1) n1 (mk 148 2 [(2,.ptr 0 0 0),(3,.ptr 1 0 0),(10,.int .i64 x0)] [(0,.box [.int .i64 x1,.sl true (.int .i64) x2,.sl true TEntry x3,.int .i64 x4,.int .i64 x5,.int .i64 x6]),(1,.box [.sl true TPair x7,.int .i64 x8,.int .i64 x9,.bool x10])])
theorem s0 (n0:Nat):V0 k a0 a1 (n0+1)=b0 k (V1 k a0 a1 k) (V0 k a0 a1 n0):=by kernel_rfl
theorem s1 (n1:Nat):V1 k a0 a1 (n1+1)=b1 k (V1 k a0 a1 n1):=by kernel_rfl
theorem e1:V1 k a0 a1=l1 k:=loop_eq rfl (s1 k a0 a1) fun _=>rfl
theorem e0 (n0:Nat):V0 k a0 a1 n0=l0 k n0:=by
 induction n0 with
 | zero=>rfl
 | succ n0 ih =>
  have h:V0 k a0 a1 (n0+1)=b0 k (V1 k a0 a1 k) (V0 k a0 a1 n0):=s0 k a0 a1 n0
  rw [h,e1,ih]
  rfl
end
theorem eq (k:Nat) (a0:Ty.den TStore) (a1:Ty.den TDisk):rn (E k) Tryz.f40 (C k) (a0,a1,())=f k a0 a1:=(show _=t k (V0 k a0 a1 k) a0 a1 by kernel_rfl).trans (by rw [e0];rfl)
theorem ctr (k:Nat):Cp 40 (C k):=rc rfl (D k) (by kernel_rfl) Tryz.func40 (by kernel_rfl) rfl fun ⟨a0,a1,_⟩ r h=>(eq k a0 a1).trans h
end spec_StoreOk
namespace spec_DirGet
def C (k:Nat):Cn:=⟨[.val (.slice TEntry),.val .str],[TEntry,.bool],true,false,fun x=>f k x.1 x.2.1⟩
def E (k:Nat):Env:=en [] [(2,[0,1,4,6])] 0 [] k
section
variable (k:Nat) (a0:List (Ty.den TEntry)) (a1:ByteArray)
def K0:Ex→St→Rs:=runK (E k) (eK (E k) Tryz.f148 (C k) (a0,a1,())) [.blk 0,.code (at_ (bt 2 3) (body Tryz.f148))]
def V0 (n0:Nat):T0:=fun x0 x1 x2 x3 x4 x5 x6 x7=>loopN (exec (E k) (at_ (bt 5 5) (body Tryz.f148))) (canon 0 [0,1,4,6]) (K0 k a0 a1) n0 (mk 25 1 [(0,.sl true TEntry x0),(1,.str x1),(4,.ptr 0 0 0),(6,.int .i64 x2)] [(0,.box [.str x3,.int .i64 x4,.int .i64 x5,.int .i64 x6,.int .i64 x7])])
theorem s0 (n0:Nat):V0 k a0 a1 (n0+1)=b0 k (V0 k a0 a1 n0):=by kernel_rfl
theorem e0:V0 k a0 a1=l0 k:=loop_eq rfl (s0 k a0 a1) fun _=>rfl
end
theorem eq (k:Nat) (a0:List (Ty.den TEntry)) (a1:ByteArray):rn (E k) Tryz.f148 (C k) (a0,a1,())=f k a0 a1:=(show _=t k (V0 k a0 a1 k) a0 a1 by kernel_rfl).trans (by rw [e0];rfl)
theorem ctr (k:Nat):Cp 148 (C k):=rc rfl [] (by kernel_rfl) Tryz.func148 (by kernel_rfl) rfl fun ⟨a0,a1,_⟩ r h=>(eq k a0 a1).trans h
end spec_DirGet
namespace spec_Get
def C (k:Nat):Cn:=⟨[.val TStore,.val TDisk,.val .str],[TPair,(.int .i64)],true,false,fun x=>f k x.1 x.2.1 x.2.2.1⟩
def D (k:Nat):List Ce:=[q (spec_DirGet.ctr k),q (spec_SegName.ctr k),q (spec_FileText.ctr k),q (spec_RecAt.ctr k)]
def E (k:Nat):Env:=en (D k) [] 0 [] k
theorem eq (k:Nat) (a0:Ty.den TStore) (a1:Ty.den TDisk) (a2:ByteArray):rn (E k) Tryz.f132 (C k) (a0,a1,a2,())=f k a0 a1 a2:=by kernel_rfl
theorem ctr (k:Nat):Cp 132 (C k):=rc rfl (D k) (by kernel_rfl) Tryz.func132 (by kernel_rfl) rfl fun ⟨a0,a1,a2,_⟩ r h=>(eq k a0 a1 a2).trans h
end spec_Get
namespace spec_Dump
def C (k:Nat):Cn:=⟨[.val TStore,.val TDisk],[(.slice TPair),(.int .i64)],true,false,fun x=>f k x.1 x.2.1⟩
def D (k:Nat):List Ce:=[q (spec_Get.ctr k)]
def E (k:Nat):Env:=en (D k) [(3,[2,3,6,7])] 0 [] k
section
variable (k:Nat) (a0:Ty.den TStore) (a1:Ty.den TDisk)
def K0:Ex→St→Rs:=runK (E k) (eK (E k) Tryz.f130 (C k) (a0,a1,())) [.blk 0,.code (at_ (bt 3 7) (body Tryz.f130))]
def V0 (n0:Nat):T0:=fun x0 x1 x2 x3 x4 x5 x6 x7 x8 x9 x10 x11=>loopN (exec (E k) (at_ (bt 6 11) (body Tryz.f130))) (canon 0 [2,3,6,7]) (K0 k a0 a1) n0 (mk 39 3 [(2,.ptr 0 0 0),(3,.ptr 1 0 0),(6,.ref 2),(7,.int .i64 x0)] [(0,.box [.int .i64 x1,.sl true (.int .i64) x2,.sl true TEntry x3,.int .i64 x4,.int .i64 x5,.int .i64 x6]),(1,.box [.sl true TPair x7,.int .i64 x8,.int .i64 x9,.bool x10]),(2,.own false TPair x11)])
theorem s0 (n0:Nat):V0 k a0 a1 (n0+1)=b0 k (V0 k a0 a1 n0):=by kernel_rfl
theorem e0:V0 k a0 a1=l0 k:=loop_eq rfl (s0 k a0 a1) fun _=>rfl
end
theorem eq (k:Nat) (a0:Ty.den TStore) (a1:Ty.den TDisk):rn (E k) Tryz.f130 (C k) (a0,a1,())=f k a0 a1:=(show _=t k (V0 k a0 a1 k) a0 a1 by kernel_rfl).trans (by rw [e0];rfl)
theorem ctr (k:Nat):Cp 130 (C k):=rc rfl (D k) (by kernel_rfl) Tryz.func130 (by kernel_rfl) rfl fun ⟨a0,a1,_⟩ r h=>(eq k a0 a1).trans h
end spec_Dump
namespace spec_l14Keep
def C (k:Nat):Cn:=⟨[.val TPair],[TRec],true,false,fun x=>f k x.1⟩
def E (k:Nat):Env:=en [] [] 0 [] k
theorem eq (k:Nat) (a0:Ty.den TPair):rn (E k) Tryz.f153 (C k) (a0,())=f k a0:=by kernel_rfl
theorem ctr (k:Nat):Cp 153 (C k):=rc rfl [] (by kernel_rfl) Tryz.func153 (by kernel_rfl) rfl fun ⟨a0,_⟩ r h=>(eq k a0).trans h
end spec_l14Keep
namespace spec_l9Seal
def C (k:Nat):Cn:=⟨[.val (.slice TRec),.val (.int .i64),.val (.int .i64)],[TRec],true,false,fun x=>f k x.1 x.2.1 x.2.2.1⟩
def D (k:Nat):List Ce:=[q (spec_SumOf.ctr k)]
def E (k:Nat):Env:=en (D k) [] 0 [] k
theorem eq (k:Nat) (a0:List (Ty.den TRec)) (a1:Int) (a2:Int):rn (E k) Tryz.f154 (C k) (a0,a1,a2,())=f k a0 a1 a2:=by kernel_rfl
theorem ctr (k:Nat):Cp 154 (C k):=rc rfl (D k) (by kernel_rfl) Tryz.func154 (by kernel_rfl) rfl fun ⟨a0,a1,a2,_⟩ r h=>(eq k a0 a1 a2).trans h
end spec_l9Seal
namespace spec_l14Write
def C (k:Nat):Cn:=⟨[.val TDisk,.val (.int .i64),.val (.slice TPair),.val (.int .i64)],[TDisk,(.slice TEntry),(.int .i64)],true,false,fun x=>f k x.1 x.2.1 x.2.2.1 x.2.2.2.1⟩
def D (k:Nat):List Ce:=[q (spec_SegName.ctr k),q (spec_l11Fresh.ctr k),q (spec_l14Keep.ctr k),q (spec_ShowRec.ctr k),q (spec_Frame.ctr k),q (spec_Append.ctr k),q (spec_l9Seal.ctr k),q (spec_Sync.ctr k),q (spec_l11Code.ctr k)]
def E (k:Nat):Env:=en (D k) [(6,[1,2,3,8,11,12,13,14,15,16])] 0 [] k
section
variable (k:Nat) (a0:Ty.den TDisk) (a1:Int) (a2:List (Ty.den TPair)) (a3:Int)
def K0:Ex→St→Rs:=runK (E k) (eK (E k) Tryz.f144 (C k) (a0,a1,a2,a3,())) [.blk 0,.code (at_ (bt 6 63) (body Tryz.f144))]
def V0 (n0:Nat):T0:=fun x0 x1 x2 x3 x4 x5 x6 x7 x8 x9 x10 x11 x12 x13 x14 x15=>loopN (exec (E k) (at_ (bt 9 95) (body Tryz.f144))) (canon 0 [1,2,3,8,11,12,13,14,15,16]) (K0 k a0 a1 a2 a3) n0 (mk 101 6 [(1,.int .i64 x0),(2,.sl true TPair x1),(3,.int .i64 x2),(8,.ptr 0 0 0),(11,.ref 2),(12,.ptr 3 0 0),(13,.int .i64 x3),(14,.ref 5),(15,.int .i64 x4),(16,.int .i64 x5)] [(1,.own false TPair x6),(0,.box [.ref 1,.int .i64 x7,.int .i64 x8,.bool x9]),(2,.own false TEntry x10),(4,.own false TPair x11),(3,.box [.ref 4,.int .i64 x12,.int .i64 x13,.bool x14]),(5,.own false TRec x15)])
theorem s0 (n0:Nat):V0 k a0 a1 a2 a3 (n0+1)=b0 k (V0 k a0 a1 a2 a3 n0):=by kernel_rfl
theorem e0:V0 k a0 a1 a2 a3=l0 k:=loop_eq rfl (s0 k a0 a1 a2 a3) fun _=>rfl
end
theorem eq (k:Nat) (a0:Ty.den TDisk) (a1:Int) (a2:List (Ty.den TPair)) (a3:Int):rn (E k) Tryz.f144 (C k) (a0,a1,a2,a3,())=f k a0 a1 a2 a3:=(show _=t k (V0 k a0 a1 a2 a3 k) a0 a1 a2 a3 by kernel_rfl).trans (by rw [e0];rfl)
theorem ctr (k:Nat):Cp 144 (C k):=rc rfl (D k) (by kernel_rfl) Tryz.func144 (by kernel_rfl) rfl fun ⟨a0,a1,a2,a3,_⟩ r h=>(eq k a0 a1 a2 a3).trans h
end spec_l14Write
namespace spec_l14Drop_g
def C (k:Nat):Cn:=⟨[.give TDisk,.val (.slice .str)],[TDisk,(.int .i64)],true,false,fun x=>f k x.1 x.2.1⟩
def D (k:Nat):List Ce:=[q (spec_l3Find.ctr k),q (spec_Remove.ctr k)]
def E (k:Nat):Env:=en (D k) [(2,[1,2,4,6])] 0 [] k
section
variable (k:Nat) (a0:Ty.den TDisk) (a1:List ByteArray)
def K0:Ex→St→Rs:=runK (E k) (eK (E k) Tryz.f147 (C k) (a0,a1,())) [.blk 0,.code (at_ (bt 2 3) (body Tryz.f147))]
def V0 (n0:Nat):T0:=fun x0 x1 x2 x3 x4 x5 x6 x7 x8 x9=>loopN (exec (E k) (at_ (bt 5 5) (body Tryz.f147))) (canon 0 [1,2,4,6]) (K0 k a0 a1) n0 (mk 37 4 [(1,.sl true .str x0),(2,.ptr 0 0 0),(4,.ptr 2 0 0),(6,.int .i64 x1)] [(1,.own false TPair x2),(0,.box [.ref 1,.int .i64 x3,.int .i64 x4,.bool x5]),(3,.own false TPair x6),(2,.box [.ref 3,.int .i64 x7,.int .i64 x8,.bool x9])])
theorem s0 (n0:Nat):V0 k a0 a1 (n0+1)=b0 k (V0 k a0 a1 n0):=by kernel_rfl
theorem e0:V0 k a0 a1=l0 k:=loop_eq rfl (s0 k a0 a1) fun _=>rfl
end
theorem eq (k:Nat) (a0:Ty.den TDisk) (a1:List ByteArray):rn (E k) Tryz.f147 (C k) (a0,a1,())=f k a0 a1:=(show _=t k (V0 k a0 a1 k) a0 a1 by kernel_rfl).trans (by rw [e0];rfl)
theorem ctr (k:Nat):Cp 147 (C k):=rc rfl (D k) (by kernel_rfl) Tryz.func147 (by kernel_rfl) rfl fun ⟨a0,a1,_⟩ r h=>(eq k a0 a1).trans h
end spec_l14Drop_g
namespace spec_l14Fail_ga
def C (k:Nat):Cn:=⟨[.give TStore,.give TDisk,.val (.int .i64),.val (.int .i64)],[TStore,TDisk,(.int .i64)],true,false,fun x=>f k x.1 x.2.1 x.2.2.1 x.2.2.2.1⟩
def D (k:Nat):List Ce:=[q (spec_SegName.ctr k),q (spec_HintName.ctr k),q (spec_l14Drop_g.ctr k),q (spec_l11Code.ctr k)]
def E (k:Nat):Env:=en (D k) [] 0 [] k
theorem eq (k:Nat) (a0:Ty.den TStore) (a1:Ty.den TDisk) (a2:Int) (a3:Int):rn (E k) Tryz.f145 (C k) (a0,a1,a2,a3,())=f k a0 a1 a2 a3:=by kernel_rfl
theorem ctr (k:Nat):Cp 145 (C k):=rc rfl (D k) (by kernel_rfl) Tryz.func145 (by kernel_rfl) rfl fun ⟨a0,a1,a2,a3,_⟩ r h=>(eq k a0 a1 a2 a3).trans h
end spec_l14Fail_ga
namespace spec_l14Merge_g
def C (k:Nat):Cn:=⟨[.give TStore,.val TDisk,.val (.slice TPair)],[TStore,TDisk,(.int .i64)],true,false,fun x=>f k x.1 x.2.1 x.2.2.1⟩
def D (k:Nat):List Ce:=[q (spec_l14Write.ctr k),q (spec_l14Fail_ga.ctr k),q (spec_SegName.ctr k),q (spec_l11Fresh.ctr k),q (spec_l11Code.ctr k),q (spec_FileText.ctr k),q (spec_HintOf.ctr k),q (spec_HintName.ctr k),q (spec_ShowHint.ctr k),q (spec_l11File.ctr k),q (spec_l14Drop_g.ctr k),q (spec_PutLive.ctr k)]
def E (k:Nat):Env:=en (D k) [(26,[3,6,7,10,18,20])] 0 [] k
section
variable (k:Nat) (a0:Ty.den TStore) (a1:Ty.den TDisk) (a2:List (Ty.den TPair))
def K0:Ex→St→Rs:=runK (E k) (eK (E k) Tryz.f131 (C k) (a0,a1,a2,())) [.blk 0,.code (at_ (bt 21 2097151) (body Tryz.f131))]
def V0 (n0:Nat):T0:=fun x0 x1 x2 x3 x4 x5 x6 x7 x8 x9 x10 x11 x12 x13 x14 x15 x16 x17 x18 x19 x20 x21=>loopN (exec (E k) (at_ (bt 24 3145727) (body Tryz.f131))) (canon 0 [3,6,7,10,18,20]) (K0 k a0 a1 a2) n0 (mk 170 11 [(3,.ptr 0 0 0),(6,.ptr 3 0 0),(7,.ptr 6 0 0),(10,.ptr 8 0 0),(18,.ref 10),(20,.int .i64 x0)] [(1,.own false (.int .i64) x1),(2,.own false TEntry x2),(0,.box [.int .i64 x3,.ref 1,.ref 2,.int .i64 x4,.int .i64 x5,.int .i64 x6]),(4,.own false (.int .i64) x7),(5,.own false TEntry x8),(3,.box [.int .i64 x9,.ref 4,.ref 5,.int .i64 x10,.int .i64 x11,.int .i64 x12]),(7,.own false TPair x13),(6,.box [.ref 7,.int .i64 x14,.int .i64 x15,.bool x16]),(9,.own false TPair x17),(8,.box [.ref 9,.int .i64 x18,.int .i64 x19,.bool x20]),(10,.own false (.int .i64) x21)])
theorem s0 (n0:Nat):V0 k a0 a1 a2 (n0+1)=b0 k (V0 k a0 a1 a2 n0):=by kernel_rfl
theorem e0:V0 k a0 a1 a2=l0 k:=loop_eq rfl (s0 k a0 a1 a2) fun _=>rfl
end
theorem eq (k:Nat) (a0:Ty.den TStore) (a1:Ty.den TDisk) (a2:List (Ty.den TPair)):rn (E k) Tryz.f131 (C k) (a0,a1,a2,())=f k a0 a1 a2:=(show _=t k (V0 k a0 a1 a2 k) a0 a1 a2 by kernel_rfl).trans (by rw [e0];rfl)
theorem ctr (k:Nat):Cp 131 (C k):=rc rfl (D k) (by kernel_rfl) Tryz.func131 (by kernel_rfl) rfl fun ⟨a0,a1,a2,_⟩ r h=>(eq k a0 a1 a2).trans h
end spec_l14Merge_g
namespace spec_Merge
def C (k:Nat):Cn:=⟨[.val TStore,.val TDisk],[TStore,TDisk,(.int .i64)],true,false,fun x=>f k x.1 x.2.1⟩
def D (k:Nat):List Ce:=[q (spec_l12Copy.ctr k),q (spec_l3Copy.ctr k),q (spec_StoreOk.ctr k),q (spec_Dump.ctr k),q (spec_l14Merge_g.ctr k)]
def E (k:Nat):Env:=en (D k) [] 0 [] k
theorem eq (k:Nat) (a0:Ty.den TStore) (a1:Ty.den TDisk):rn (E k) Tryz.f100 (C k) (a0,a1,())=f k a0 a1:=by kernel_rfl
theorem ctr (k:Nat):Cp 100 (C k):=rc rfl (D k) (by kernel_rfl) Tryz.func100 (by kernel_rfl) rfl fun ⟨a0,a1,_⟩ r h=>(eq k a0 a1).trans h
end spec_Merge
namespace spec_DirKeys
def C (k:Nat):Cn:=⟨[.val (.slice TEntry)],[(.slice .str)],true,false,fun x=>f k x.1⟩
def E (k:Nat):Env:=en [] [(3,[0,3,4])] 0 [] k
section
variable (k:Nat) (a0:List (Ty.den TEntry))
def K0:Ex→St→Rs:=runK (E k) (eK (E k) Tryz.f101 (C k) (a0,())) [.blk 0,.code (at_ (bt 3 7) (body Tryz.f101))]
def V0 (n0:Nat):T0:=fun x0 x1 x2=>loopN (exec (E k) (at_ (bt 6 11) (body Tryz.f101))) (canon 0 [0,3,4]) (K0 k a0) n0 (mk 21 1 [(0,.sl true TEntry x0),(3,.ref 0),(4,.int .i64 x1)] [(0,.own false .str x2)])
theorem s0 (n0:Nat):V0 k a0 (n0+1)=b0 k (V0 k a0 n0):=by kernel_rfl
theorem e0:V0 k a0=l0 k:=loop_eq rfl (s0 k a0) fun _=>rfl
end
theorem eq (k:Nat) (a0:List (Ty.den TEntry)):rn (E k) Tryz.f101 (C k) (a0,())=f k a0:=(show _=t k (V0 k a0 k) a0 by kernel_rfl).trans (by rw [e0];rfl)
theorem ctr (k:Nat):Cp 101 (C k):=rc rfl [] (by kernel_rfl) Tryz.func101 (by kernel_rfl) rfl fun ⟨a0,_⟩ r h=>(eq k a0).trans h
end spec_DirKeys
namespace spec_TxnRead
def C (k:Nat):Cn:=⟨[.val TTxn,.val .str,.val (.int .i64)],[TTxn,(.int .i64)],true,false,fun x=>f k x.1 x.2.1 x.2.2.1⟩
def D (k:Nat):List Ce:=[q (spec_l15Copy.ctr k),q (spec_KeyOk.ctr k)]
def E (k:Nat):Env:=en (D k) [(5,[1,2,3,6,8,9])] 0 [] k
section
variable (k:Nat) (a0:Ty.den TTxn) (a1:ByteArray) (a2:Int)
def K0:Ex→St→Rs:=runK (E k) (eK (E k) Tryz.f133 (C k) (a0,a1,a2,())) [.blk 0,.code (at_ (bt 4 15) (body Tryz.f133))]
def V0 (n0:Nat):T0:=fun x0 x1 x2 x3 x4 x5 x6 x7 x8 x9 x10 x11=>loopN (exec (E k) (at_ (bt 7 23) (body Tryz.f133))) (canon 0 [1,2,3,6,8,9]) (K0 k a0 a1 a2) n0 (mk 60 7 [(1,.str x0),(2,.int .i64 x1),(3,.ptr 0 0 0),(6,.ptr 1 0 0),(8,.ptr 4 0 0),(9,.int .i64 x2)] [(0,.box [.bool x3,.sl true TReadRow x4,.sl true TPut x5]),(2,.own false TReadRow x6),(3,.own false TPut x7),(1,.box [.bool x8,.ref 2,.ref 3]),(5,.own false TReadRow x9),(6,.own false TPut x10),(4,.box [.bool x11,.ref 5,.ref 6])])
theorem s0 (n0:Nat):V0 k a0 a1 a2 (n0+1)=b0 k (V0 k a0 a1 a2 n0):=by kernel_rfl
theorem e0:V0 k a0 a1 a2=l0 k:=loop_eq rfl (s0 k a0 a1 a2) fun _=>rfl
end
theorem eq (k:Nat) (a0:Ty.den TTxn) (a1:ByteArray) (a2:Int):rn (E k) Tryz.f133 (C k) (a0,a1,a2,())=f k a0 a1 a2:=(show _=t k (V0 k a0 a1 a2 k) a0 a1 a2 by kernel_rfl).trans (by rw [e0];rfl)
theorem ctr (k:Nat):Cp 133 (C k):=rc rfl (D k) (by kernel_rfl) Tryz.func133 (by kernel_rfl) rfl fun ⟨a0,a1,a2,_⟩ r h=>(eq k a0 a1 a2).trans h
end spec_TxnRead
namespace spec_l16Get_g
def C (k:Nat):Cn:=⟨[.give TEngine,.val TStep],[TEngine,TAnswer],true,true,fun x=>f k x.1 x.2.1⟩
def D (k:Nat):List Ce:=[q (spec_KeyOk.ctr k),q (spec_OwnWrite.ctr k),q (spec_Get.ctr k),q (spec_TxnRead.ctr k)]
def E (k:Nat):Env:=en (D k) [] 0 [] k
theorem eq (k:Nat) (a0:Ty.den TEngine) (a1:Ty.den TStep):rn (E k) Tryz.f102 (C k) (a0,a1,())=f k a0 a1:=by kernel_rfl
theorem ctr (k:Nat):Cp 102 (C k):=rc rfl (D k) (by kernel_rfl) Tryz.func102 (by kernel_rfl) rfl fun ⟨a0,a1,_⟩ r h=>(eq k a0 a1).trans h
end spec_l16Get_g
namespace spec_Valid
def C (k:Nat):Cn:=⟨[.val TTxn,.val (.slice TEntry)],[.bool],true,false,fun x=>f k x.1 x.2.1⟩
def D (k:Nat):List Ce:=[q (spec_DirGet.ctr k)]
def E (k:Nat):Env:=en (D k) [(2,[1,2,5])] 0 [] k
section
variable (k:Nat) (a0:Ty.den TTxn) (a1:List (Ty.den TEntry))
def K0:Ex→St→Rs:=runK (E k) (eK (E k) Tryz.f134 (C k) (a0,a1,())) [.blk 0,.code (at_ (bt 2 3) (body Tryz.f134))]
def V0 (n0:Nat):T0:=fun x0 x1 x2 x3 x4=>loopN (exec (E k) (at_ (bt 5 5) (body Tryz.f134))) (canon 0 [1,2,5]) (K0 k a0 a1) n0 (mk 35 1 [(1,.sl true TEntry x0),(2,.ptr 0 0 0),(5,.int .i64 x1)] [(0,.box [.bool x2,.sl true TReadRow x3,.sl true TPut x4])])
theorem s0 (n0:Nat):V0 k a0 a1 (n0+1)=b0 k (V0 k a0 a1 n0):=by kernel_rfl
theorem e0:V0 k a0 a1=l0 k:=loop_eq rfl (s0 k a0 a1) fun _=>rfl
end
theorem eq (k:Nat) (a0:Ty.den TTxn) (a1:List (Ty.den TEntry)):rn (E k) Tryz.f134 (C k) (a0,a1,())=f k a0 a1:=(show _=t k (V0 k a0 a1 k) a0 a1 by kernel_rfl).trans (by rw [e0];rfl)
theorem ctr (k:Nat):Cp 134 (C k):=rc rfl (D k) (by kernel_rfl) Tryz.func134 (by kernel_rfl) rfl fun ⟨a0,a1,_⟩ r h=>(eq k a0 a1).trans h
end spec_Valid
namespace spec_PutsOk
def C (k:Nat):Cn:=⟨[.val (.slice TPut)],[.bool],true,false,fun x=>f k x.1⟩
def D (k:Nat):List Ce:=[q (spec_KeyOk.ctr k)]
def E (k:Nat):Env:=en (D k) [(4,[0,3])] 0 [] k
section
variable (k:Nat) (a0:List (Ty.den TPut))
def K0:Ex→St→Rs:=runK (E k) (eK (E k) Tryz.f104 (C k) (a0,())) [.blk 0,.code (at_ (bt 3 7) (body Tryz.f104))]
def V0 (n0:Nat):T0:=fun x0 x1=>loopN (exec (E k) (at_ (bt 6 11) (body Tryz.f104))) (canon 0 [0,3]) (K0 k a0) n0 (mk 44 0 [(0,.sl true TPut x0),(3,.int .i64 x1)] [])
theorem s0 (n0:Nat):V0 k a0 (n0+1)=b0 k (V0 k a0 n0):=by kernel_rfl
theorem e0:V0 k a0=l0 k:=loop_eq rfl (s0 k a0) fun _=>rfl
end
theorem eq (k:Nat) (a0:List (Ty.den TPut)):rn (E k) Tryz.f104 (C k) (a0,())=f k a0:=(show _=t k (V0 k a0 k) a0 by kernel_rfl).trans (by rw [e0];rfl)
theorem ctr (k:Nat):Cp 104 (C k):=rc rfl (D k) (by kernel_rfl) Tryz.func104 (by kernel_rfl) rfl fun ⟨a0,_⟩ r h=>(eq k a0).trans h
end spec_PutsOk
namespace spec_l12After
def C (k:Nat):Cn:=⟨[.val (.slice TEntry),.val (.slice TPut)],[(.int .i64)],true,false,fun x=>f k x.1 x.2.1⟩
def D (k:Nat):List Ce:=[q (spec_DirDrop.ctr k),q (spec_DirPut.ctr k)]
def E (k:Nat):Env:=en (D k) [(2,[0,1,5])] 0 [] k
section
variable (k:Nat) (a0:List (Ty.den TEntry)) (a1:List (Ty.den TPut))
def K0:Ex→St→Rs:=runK (E k) (eK (E k) Tryz.f149 (C k) (a0,a1,())) [.blk 0,.code (at_ (bt 2 3) (body Tryz.f149))]
def V0 (n0:Nat):T0:=fun x0 x1 x2=>loopN (exec (E k) (at_ (bt 5 5) (body Tryz.f149))) (canon 0 [0,1,5]) (K0 k a0 a1) n0 (mk 34 0 [(0,.sl true TEntry x0),(1,.sl true TPut x1),(5,.int .i64 x2)] [])
def V1 (n0:Nat):T1:=fun x0 x1 x2=>loopN (exec (E k) (at_ (bt 5 5) (body Tryz.f149))) (canon 0 [0,1,5]) (K0 k a0 a1) n0 (mk 34 1 [(0,.ref 0),(1,.sl true TPut x0),(5,.int .i64 x1)] [(0,.own false TEntry x2)])
theorem s0 (n0:Nat):V0 k a0 a1 (n0+1)=b0 k (V1 k a0 a1 n0):=by kernel_rfl
theorem s1 (n0:Nat):V1 k a0 a1 (n0+1)=b1 k (V1 k a0 a1 n0):=by kernel_rfl
theorem e1:V1 k a0 a1=l1 k:=loop_eq rfl (s1 k a0 a1) fun _=>rfl
theorem e0 (n0:Nat):V0 k a0 a1 n0=l0 k n0:=by
 induction n0 with
 | zero=>rfl
 | succ n0 ih =>
  have h:V0 k a0 a1 (n0+1)=b0 k (V1 k a0 a1 n0):=s0 k a0 a1 n0
  rw [h,e1]
  rfl
end
theorem eq (k:Nat) (a0:List (Ty.den TEntry)) (a1:List (Ty.den TPut)):rn (E k) Tryz.f149 (C k) (a0,a1,())=f k a0 a1:=(show _=t k (V0 k a0 a1 k) a0 a1 by kernel_rfl).trans (by rw [e0];rfl)
theorem ctr (k:Nat):Cp 149 (C k):=rc rfl (D k) (by kernel_rfl) Tryz.func149 (by kernel_rfl) rfl fun ⟨a0,a1,_⟩ r h=>(eq k a0 a1).trans h
end spec_l12After
namespace spec_l12Active
def C (k:Nat):Cn:=⟨[.val TStore],[.str],true,false,fun x=>f k x.1⟩
def D (k:Nat):List Ce:=[q (spec_SegName.ctr k)]
def E (k:Nat):Env:=en (D k) [] 0 [] k
theorem eq (k:Nat) (a0:Ty.den TStore):rn (E k) Tryz.f156 (C k) (a0,())=f k a0:=by kernel_rfl
theorem ctr (k:Nat):Cp 156 (C k):=rc rfl (D k) (by kernel_rfl) Tryz.func156 (by kernel_rfl) rfl fun ⟨a0,_⟩ r h=>(eq k a0).trans h
end spec_l12Active
namespace spec_l12Rotate_ga
def C (k:Nat):Cn:=⟨[.give TStore,.give TDisk],[TStore,TDisk,(.int .i64)],true,false,fun x=>f k x.1 x.2.1⟩
def D (k:Nat):List Ce:=[q (spec_l12Active.ctr k),q (spec_Sync.ctr k),q (spec_l11Code.ctr k),q (spec_SegName.ctr k),q (spec_l11Fresh.ctr k),q (spec_PutLive.ctr k),q (spec_l14Drop_g.ctr k)]
def E (k:Nat):Env:=en (D k) [] 0 [] k
theorem eq (k:Nat) (a0:Ty.den TStore) (a1:Ty.den TDisk):rn (E k) Tryz.f157 (C k) (a0,a1,())=f k a0 a1:=by kernel_rfl
theorem ctr (k:Nat):Cp 157 (C k):=rc rfl (D k) (by kernel_rfl) Tryz.func157 (by kernel_rfl) rfl fun ⟨a0,a1,_⟩ r h=>(eq k a0 a1).trans h
end spec_l12Rotate_ga
namespace spec_l12Add_ga
def C (k:Nat):Cn:=⟨[.give TStore,.give TDisk,.val TRec],[TStore,TDisk,TPlace,(.int .i64)],true,false,fun x=>f k x.1 x.2.1 x.2.2.1⟩
def D (k:Nat):List Ce:=[q (spec_ShowRec.ctr k),q (spec_Frame.ctr k),q (spec_l12Rotate_ga.ctr k),q (spec_l12Active.ctr k),q (spec_Append.ctr k),q (spec_l11Code.ctr k)]
def E (k:Nat):Env:=en (D k) [] 0 [] k
theorem eq (k:Nat) (a0:Ty.den TStore) (a1:Ty.den TDisk) (a2:Ty.den TRec):rn (E k) Tryz.f155 (C k) (a0,a1,a2,())=f k a0 a1 a2:=by kernel_rfl
theorem ctr (k:Nat):Cp 155 (C k):=rc rfl (D k) (by kernel_rfl) Tryz.func155 (by kernel_rfl) rfl fun ⟨a0,a1,a2,_⟩ r h=>(eq k a0 a1 a2).trans h
end spec_l12Add_ga
namespace spec_l12Commit_ga
def C (k:Nat):Cn:=⟨[.give TStore,.give TDisk,.give (.slice TPut)],[TStore,TDisk,(.int .i64)],true,false,fun x=>f k x.1 x.2.1 x.2.2.1⟩
def D (k:Nat):List Ce:=[q (spec_l12Add_ga.ctr k),q (spec_l9Put.ctr k),q (spec_l9Seal.ctr k),q (spec_l12Active.ctr k),q (spec_Sync.ctr k),q (spec_l11Code.ctr k)]
def E (k:Nat):Env:=en (D k) [(6,[2,3,4,6,7,9,10,11,12])] 0 [] k
section
variable (k:Nat) (a0:Ty.den TStore) (a1:Ty.den TDisk) (a2:List (Ty.den TPut))
def K0:Ex→St→Rs:=runK (E k) (eK (E k) Tryz.f150 (C k) (a0,a1,a2,())) [.blk 0,.code (at_ (bt 6 63) (body Tryz.f150))]
def V0 (n0:Nat):T0:=fun x0 x1 x2 x3 x4 x5 x6 x7 x8 x9 x10 x11 x12 x13 x14 x15 x16 x17 x18 x19 x20 x21 x22 x23 x24=>loopN (exec (E k) (at_ (bt 9 95) (body Tryz.f150))) (canon 0 [2,3,4,6,7,9,10,11,12]) (K0 k a0 a1 a2) n0 (mk 111 13 [(2,.ref 0),(3,.ptr 1 0 0),(4,.ptr 4 0 0),(6,.ptr 6 0 0),(7,.ptr 9 0 0),(9,.int .i64 x0),(10,.ref 11),(11,.ref 12),(12,.int .i64 x1)] [(0,.own false TPut x2),(2,.own false (.int .i64) x3),(3,.own false TEntry x4),(1,.box [.int .i64 x5,.ref 2,.ref 3,.int .i64 x6,.int .i64 x7,.int .i64 x8]),(5,.own false TPair x9),(4,.box [.ref 5,.int .i64 x10,.int .i64 x11,.bool x12]),(7,.own false (.int .i64) x13),(8,.own false TEntry x14),(6,.box [.int .i64 x15,.ref 7,.ref 8,.int .i64 x16,.int .i64 x17,.int .i64 x18]),(10,.own false TPair x19),(9,.box [.ref 10,.int .i64 x20,.int .i64 x21,.bool x22]),(11,.own false TRec x23),(12,.own false TEntry x24)])
theorem s0 (n0:Nat):V0 k a0 a1 a2 (n0+1)=b0 k (V0 k a0 a1 a2 n0):=by kernel_rfl
theorem e0:V0 k a0 a1 a2=l0 k:=loop_eq rfl (s0 k a0 a1 a2) fun _=>rfl
end
theorem eq (k:Nat) (a0:Ty.den TStore) (a1:Ty.den TDisk) (a2:List (Ty.den TPut)):rn (E k) Tryz.f150 (C k) (a0,a1,a2,())=f k a0 a1 a2:=(show _=t k (V0 k a0 a1 a2 k) a0 a1 a2 by kernel_rfl).trans (by rw [e0];rfl)
theorem ctr (k:Nat):Cp 150 (C k):=rc rfl (D k) (by kernel_rfl) Tryz.func150 (by kernel_rfl) rfl fun ⟨a0,a1,a2,_⟩ r h=>(eq k a0 a1 a2).trans h
end spec_l12Commit_ga
namespace spec_Commit_g2
def C (k:Nat):Cn:=⟨[.val TStore,.val TDisk,.give (.slice TPut)],[TStore,TDisk,(.int .i64)],true,false,fun x=>f k x.1 x.2.1 x.2.2.1⟩
def D (k:Nat):List Ce:=[q (spec_l12Copy.ctr k),q (spec_l3Copy.ctr k),q (spec_StoreOk.ctr k),q (spec_PutsOk.ctr k),q (spec_l12After.ctr k),q (spec_l12Commit_ga.ctr k)]
def E (k:Nat):Env:=en (D k) [] 0 [] k
theorem eq (k:Nat) (a0:Ty.den TStore) (a1:Ty.den TDisk) (a2:List (Ty.den TPut)):rn (E k) Tryz.f135 (C k) (a0,a1,a2,())=f k a0 a1 a2:=by kernel_rfl
theorem ctr (k:Nat):Cp 135 (C k):=rc rfl (D k) (by kernel_rfl) Tryz.func135 (by kernel_rfl) rfl fun ⟨a0,a1,a2,_⟩ r h=>(eq k a0 a1 a2).trans h
end spec_Commit_g2
namespace spec_l16Commit_g
def C (k:Nat):Cn:=⟨[.give TEngine,.val TStep],[TEngine,TAnswer],true,true,fun x=>f k x.1 x.2.1⟩
def D (k:Nat):List Ce:=[q (spec_Valid.ctr k),q (spec_NetWrites.ctr k),q (spec_Commit_g2.ctr k)]
def E (k:Nat):Env:=en (D k) [] 0 [] k
theorem eq (k:Nat) (a0:Ty.den TEngine) (a1:Ty.den TStep):rn (E k) Tryz.f103 (C k) (a0,a1,())=f k a0 a1:=by kernel_rfl
theorem ctr (k:Nat):Cp 103 (C k):=rc rfl (D k) (by kernel_rfl) Tryz.func103 (by kernel_rfl) rfl fun ⟨a0,a1,_⟩ r h=>(eq k a0 a1).trans h
end spec_l16Commit_g
namespace spec_TxnWrite
def C (k:Nat):Cn:=⟨[.val TTxn,.val TPut],[TTxn,.bool],true,false,fun x=>f k x.1 x.2.1⟩
def D (k:Nat):List Ce:=[q (spec_l15Copy.ctr k),q (spec_PutsOk.ctr k),q (spec_NetWrites.ctr k)]
def E (k:Nat):Env:=en (D k) [] 0 [] k
theorem eq (k:Nat) (a0:Ty.den TTxn) (a1:Ty.den TPut):rn (E k) Tryz.f105 (C k) (a0,a1,())=f k a0 a1:=by kernel_rfl
theorem ctr (k:Nat):Cp 105 (C k):=rc rfl (D k) (by kernel_rfl) Tryz.func105 (by kernel_rfl) rfl fun ⟨a0,a1,_⟩ r h=>(eq k a0 a1).trans h
end spec_TxnWrite
namespace spec_EngineStep_g
def C (k:Nat):Cn:=⟨[.give TEngine,.val TStep],[TEngine,TAnswer],true,true,fun x=>f k x.1 x.2.1⟩
def D (k:Nat):List Ce:=[q (spec_l16Copy.ctr k),q (spec_EngineNew_g.ctr k),q (spec_DiskOk.ctr k),q (spec_Used.ctr k),q (spec_l1In.ctr k),q (spec_Merge.ctr k),q (spec_DirKeys.ctr k),q (spec_l16Get_g.ctr k),q (spec_l16Commit_g.ctr k),q (spec_PutsOk.ctr k),q (spec_TxnWrite.ctr k)]
def E (k:Nat):Env:=en (D k) [] 0 [] k
theorem eq (k:Nat) (a0:Ty.den TEngine) (a1:Ty.den TStep):rn (E k) Tryz.f61 (C k) (a0,a1,())=f k a0 a1:=by kernel_rfl
theorem ctr (k:Nat):Cp 61 (C k):=rc rfl (D k) (by kernel_rfl) Tryz.func61 (by kernel_rfl) rfl fun ⟨a0,a1,_⟩ r h=>(eq k a0 a1).trans h
end spec_EngineStep_g
namespace spec_Run
def C (k:Nat):Cn:=⟨[.val TEngine,.val (.slice TStep)],[TResult],false,true,fun x=>f k x.1 x.2.1⟩
def D (k:Nat):List Ce:=[q (spec_l16Copy.ctr k),q (spec_l1In.ctr k),q (spec_NetWrites.ctr k),q (spec_EngineStep_g.ctr k)]
def E (k:Nat):Env:=en (D k) [(3,[1,4,5,6])] 0 [] k
section
variable (k:Nat) (a0:Ty.den TEngine) (a1:List (Ty.den TStep))
def K0:Ex→St→Rs:=runK (E k) (eK (E k) Tryz.f39 (C k) (a0,a1,())) [.blk 0,.code (at_ (bt 3 7) (body Tryz.f39))]
def V0 (n0:Nat):T0:=fun x0 x1 x2 x3 x4 x5 x6 x7 x8 x9 x10 x11 x12 x13 x14 x15 x16 x17 x18 x19 x20 x21 x22 x23 x24 x25 x26 x27 x28 x29 x30 x31=>loopN (exec (E k) (at_ (bt 6 11) (body Tryz.f39))) (canon 0 [1,4,5,6]) (K0 k a0 a1) n0 (mk 108 16 [(1,.sl true TStep x0),(4,.ptr 0 0 0),(5,.ptr 8 0 0),(6,.int .i64 x1)] [(1,.own false (.int .i64) x2),(2,.own false TEntry x3),(3,.own false TPair x4),(4,.own false TTxn x5),(5,.own false TAnswer x6),(6,.own false TAck x7),(7,.own false TPut x8),(0,.box [.bool x9,.int .i64 x10,.ref 1,.ref 2,.int .i64 x11,.int .i64 x12,.int .i64 x13,.ref 3,.int .i64 x14,.int .i64 x15,.bool x16,.ref 4,.ref 5,.ref 6,.ref 7]),(9,.own false (.int .i64) x17),(10,.own false TEntry x18),(11,.own false TPair x19),(12,.own false TTxn x20),(13,.own false TAnswer x21),(14,.own false TAck x22),(15,.own false TPut x23),(8,.box [.bool x24,.int .i64 x25,.ref 9,.ref 10,.int .i64 x26,.int .i64 x27,.int .i64 x28,.ref 11,.int .i64 x29,.int .i64 x30,.bool x31,.ref 12,.ref 13,.ref 14,.ref 15])])
def V1 (n0:Nat):T1:=fun x0 x1 x2 x3 x4 x5 x6 x7 x8 x9 x10 x11 x12 x13 x14 x15 x16 x17 x18 x19 x20 x21 x22 x23 x24 x25 x26 x27 x28 x29 x30 x31=>loopN (exec (E k) (at_ (bt 6 11) (body Tryz.f39))) (canon 0 [1,4,5,6]) (K0 k a0 a1) n0 (mk 108 16 [(1,.sl true TStep x0),(4,.ptr 0 0 0),(5,.ptr 8 0 0),(6,.int .i64 x1)] [(1,.own false (.int .i64) x2),(2,.own false TEntry x3),(3,.own false TPair x4),(4,.own false TTxn x5),(5,.own false TAnswer x6),(6,.own false TAck x7),(7,.own false TPut x8),(0,.box [.bool x9,.int .i64 x10,.ref 1,.ref 2,.int .i64 x11,.int .i64 x12,.int .i64 x13,.ref 3,.int .i64 x14,.int .i64 x15,.bool x16,.ref 4,.ref 5,.ref 6,.ref 7]),(9,.own false (.int .i64) x17),(10,.own false TEntry x18),(11,.own false TPair x19),(12,.own true TTxn x20),(13,.own false TAnswer x21),(14,.own false TAck x22),(15,.own false TPut x23),(8,.box [.bool x24,.int .i64 x25,.ref 9,.ref 10,.int .i64 x26,.int .i64 x27,.int .i64 x28,.ref 11,.int .i64 x29,.int .i64 x30,.bool x31,.ref 12,.ref 13,.ref 14,.ref 15])])
theorem s0 (n0:Nat):V0 k a0 a1 (n0+1)=b0 k (V1 k a0 a1 n0):=by kernel_rfl
theorem s1 (n0:Nat):V1 k a0 a1 (n0+1)=b1 k (V1 k a0 a1 n0):=by kernel_rfl
theorem e1:V1 k a0 a1=l1 k:=loop_eq rfl (s1 k a0 a1) fun _=>rfl
theorem e0 (n0:Nat):V0 k a0 a1 n0=l0 k n0:=by
 induction n0 with
 | zero=>rfl
 | succ n0 ih =>
  have h:V0 k a0 a1 (n0+1)=b0 k (V1 k a0 a1 n0):=s0 k a0 a1 n0
  rw [h,e1]
  rfl
end
theorem eq (k:Nat) (a0:Ty.den TEngine) (a1:List (Ty.den TStep)):rn (E k) Tryz.f39 (C k) (a0,a1,())=f k a0 a1:=(show _=t k (V0 k a0 a1 k) a0 a1 by kernel_rfl).trans (by rw [e0];rfl)
theorem ctr (k:Nat):Cp 39 (C k):=rc rfl (D k) (by kernel_rfl) Tryz.func39 (by kernel_rfl) rfl fun ⟨a0,a1,_⟩ r h=>(eq k a0 a1).trans h
end spec_Run
namespace spec_l27Text
def C (k:Nat):Cn:=⟨[.val TFollower,.val (.int .i64)],[.str],true,false,fun x=>f k x.1 x.2.1⟩
def E (k:Nat):Env:=en [] [(2,[1,2,5])] 0 [] k
section
variable (k:Nat) (a0:Ty.den TFollower) (a1:Int)
def K0:Ex→St→Rs:=runK (E k) (eK (E k) Tryz.f23 (C k) (a0,a1,())) [.blk 0,.code (at_ (bt 2 3) (body Tryz.f23))]
def V0 (n0:Nat):T0:=fun x0 x1 x2 x3=>loopN (exec (E k) (at_ (bt 5 5) (body Tryz.f23))) (canon 0 [1,2,5]) (K0 k a0 a1) n0 (mk 27 1 [(1,.int .i64 x0),(2,.ptr 0 0 0),(5,.int .i64 x1)] [(0,.box [.int .i64 x2,.sl true TPiece x3])])
theorem s0 (n0:Nat):V0 k a0 a1 (n0+1)=b0 k (V0 k a0 a1 n0):=by kernel_rfl
theorem e0:V0 k a0 a1=l0 k:=loop_eq rfl (s0 k a0 a1) fun _=>rfl
end
theorem eq (k:Nat) (a0:Ty.den TFollower) (a1:Int):rn (E k) Tryz.f23 (C k) (a0,a1,())=f k a0 a1:=(show _=t k (V0 k a0 a1 k) a0 a1 by kernel_rfl).trans (by rw [e0];rfl)
theorem ctr (k:Nat):Cp 23 (C k):=rc rfl [] (by kernel_rfl) Tryz.func23 (by kernel_rfl) rfl fun ⟨a0,a1,_⟩ r h=>(eq k a0 a1).trans h
end spec_l27Text
namespace spec_Ship
def C (k:Nat):Cn:=⟨[.val TStore,.val TDisk,.val TFollower],[TParcel],true,false,fun x=>f k x.1 x.2.1 x.2.2.1⟩
def D (k:Nat):List Ce:=[q (spec_StoreOk.ctr k),q (spec_SegName.ctr k),q (spec_FileText.ctr k),q (spec_l27Text.ctr k)]
def E (k:Nat):Env:=en (D k) [(6,[3,4,5,6,7,8])] 0 [] k
section
variable (k:Nat) (a0:Ty.den TStore) (a1:Ty.den TDisk) (a2:Ty.den TFollower)
def K0:Ex→St→Rs:=runK (E k) (eK (E k) Tryz.f17 (C k) (a0,a1,a2,())) [.blk 0,.code (at_ (bt 5 31) (body Tryz.f17))]
def V0 (n0:Nat):T0:=fun x0 x1 x2 x3 x4 x5 x6 x7 x8 x9 x10 x11 x12 x13 x14 x15 x16=>loopN (exec (E k) (at_ (bt 8 47) (body Tryz.f17))) (canon 0 [3,4,5,6,7,8]) (K0 k a0 a1 a2) n0 (mk 75 7 [(3,.ptr 0 0 0),(4,.ptr 1 0 0),(5,.ptr 2 0 0),(6,.ptr 3 0 0),(7,.ptr 5 0 0),(8,.int .i64 x0)] [(0,.box [.int .i64 x1,.sl true (.int .i64) x2,.sl true TEntry x3,.int .i64 x4,.int .i64 x5,.int .i64 x6]),(1,.box [.sl true TPair x7,.int .i64 x8,.int .i64 x9,.bool x10]),(2,.box [.int .i64 x11,.sl true TPiece x12]),(4,.own false TBit x13),(3,.box [.int .i64 x14,.ref 4]),(6,.own false TBit x15),(5,.box [.int .i64 x16,.ref 6])])
theorem s0 (n0:Nat):V0 k a0 a1 a2 (n0+1)=b0 k (V0 k a0 a1 a2 n0):=by kernel_rfl
theorem e0:V0 k a0 a1 a2=l0 k:=loop_eq rfl (s0 k a0 a1 a2) fun _=>rfl
end
theorem eq (k:Nat) (a0:Ty.den TStore) (a1:Ty.den TDisk) (a2:Ty.den TFollower):rn (E k) Tryz.f17 (C k) (a0,a1,a2,())=f k a0 a1 a2:=(show _=t k (V0 k a0 a1 a2 k) a0 a1 a2 by kernel_rfl).trans (by rw [e0];rfl)
theorem ctr (k:Nat):Cp 17 (C k):=rc rfl (D k) (by kernel_rfl) Tryz.func17 (by kernel_rfl) rfl fun ⟨a0,a1,a2,_⟩ r h=>(eq k a0 a1 a2).trans h
end spec_Ship
namespace spec_Receive
def C (k:Nat):Cn:=⟨[.val TFollower,.val TParcel],[TFollower,.bool],true,false,fun x=>f k x.1 x.2.1⟩
def D (k:Nat):List Ce:=[q (spec_l27Text.ctr k),q (spec_l1In.ctr k),q (spec_LiveOk.ctr k)]
def E (k:Nat):Env:=en (D k) [(5,[2,3,4,6,7,8,9])] 0 [] k
section
variable (k:Nat) (a0:Ty.den TFollower) (a1:Ty.den TParcel)
def K0:Ex→St→Rs:=runK (E k) (eK (E k) Tryz.f7 (C k) (a0,a1,())) [.blk 0,.code (at_ (bt 5 31) (body Tryz.f7))]
def V0 (n0:Nat):T0:=fun x0 x1 x2 x3 x4 x5 x6 x7 x8 x9 x10 x11=>loopN (exec (E k) (at_ (bt 8 47) (body Tryz.f7))) (canon 0 [2,3,4,6,7,8,9]) (K0 k a0 a1) n0 (mk 74 9 [(2,.ptr 0 0 0),(3,.ptr 1 0 0),(4,.ptr 2 0 0),(6,.ptr 4 0 0),(7,.ptr 6 0 0),(8,.ref 8),(9,.int .i64 x0)] [(0,.box [.int .i64 x1,.sl true TPiece x2]),(1,.box [.int .i64 x3,.sl true TBit x4]),(3,.own false TPiece x5),(2,.box [.int .i64 x6,.ref 3]),(5,.own false TPiece x7),(4,.box [.int .i64 x8,.ref 5]),(7,.own false TPiece x9),(6,.box [.int .i64 x10,.ref 7]),(8,.own false (.int .i64) x11)])
theorem s0 (n0:Nat):V0 k a0 a1 (n0+1)=b0 k (V0 k a0 a1 n0):=by kernel_rfl
theorem e0:V0 k a0 a1=l0 k:=loop_eq rfl (s0 k a0 a1) fun _=>rfl
end
theorem eq (k:Nat) (a0:Ty.den TFollower) (a1:Ty.den TParcel):rn (E k) Tryz.f7 (C k) (a0,a1,())=f k a0 a1:=(show _=t k (V0 k a0 a1 k) a0 a1 by kernel_rfl).trans (by rw [e0];rfl)
theorem ctr (k:Nat):Cp 7 (C k):=rc rfl (D k) (by kernel_rfl) Tryz.func7 (by kernel_rfl) rfl fun ⟨a0,a1,_⟩ r h=>(eq k a0 a1).trans h
end spec_Receive
namespace spec_l27Some
def C (k:Nat):Cn:=⟨[.io false Tl1Cur],[TStore,TDisk,TFollower],false,true,fun x=>f k x.1⟩
def D (k:Nat):List Ce:=[q (spec_DiskNew.ctr k),q (spec_EngineNew_g.ctr k),q (spec_l18Script.ctr k),q (spec_l1Below.ctr k),q (spec_Run.ctr k),q (spec_Ship.ctr k),q (spec_Receive.ctr k),q (spec_l1Once.ctr k)]
def E (k:Nat):Env:=en (D k) [] 1 [] k
theorem eq (k:Nat) (a0:Ty.den Tl1Cur):rn (E k) Tryz.f16 (C k) (a0,())=f k a0:=by kernel_rfl
theorem ctr (k:Nat):Cp 16 (C k):=rc rfl (D k) (by kernel_rfl) Tryz.func16 (by kernel_rfl) rfl fun ⟨a0,_⟩ r h=>(eq k a0).trans h
end spec_l27Some
namespace spec_DrawReceive
def C (k:Nat):Cn:=⟨[.val (.slice (.int .u8))],[TFollower,TParcel],false,true,fun x=>f k x.1⟩
def D (k:Nat):List Ce:=[q (spec_l1New.ctr k),q (spec_l27Some.ctr k),q (spec_Ship.ctr k),q (spec_l1Below.ctr k),q (spec_l1PickInt.ctr k)]
def E (k:Nat):Env:=en (D k) [] 0 [] k
theorem eq (k:Nat) (a0:List Int):rn (E k) Tryz.f5 (C k) (a0,())=f k a0:=by kernel_rfl
theorem ctr (k:Nat):Cp 5 (C k):=rc rfl (D k) (by kernel_rfl) Tryz.func5 (by kernel_rfl) rfl fun ⟨a0,_⟩ r h=>(eq k a0).trans h
end spec_DrawReceive
namespace impl_has
def C (k:Nat):Cn:=⟨[.val TFollower,.val (.int .i64)],[.str],true,false,fun x=>f k x.1 x.2.1⟩
def E (k:Nat):Env:=en [] [(2,[1,8,9,10])] 0 [] k
section
variable (k:Nat) (a0:Ty.den TFollower) (a1:Int)
def K0:Ex→St→Rs:=runK (E k) (eK (E k) Tryz.f20 (C k) (a0,a1,())) [.blk 0,.code (at_ (bt 2 3) (body Tryz.f20))]
def V0 (n0:Nat):T0:=fun x0 x1 x2 x3=>loopN (exec (E k) (at_ (bt 5 5) (body Tryz.f20))) (canon 0 [1,8,9,10]) (K0 k a0 a1) n0 (mk 21 0 [(1,.int .i64 x0),(8,.sl true TPiece x1),(9,.int .i64 x2),(10,.int .i64 x3)] [])
theorem s0 (n0:Nat):V0 k a0 a1 (n0+1)=b0 k (V0 k a0 a1 n0):=by kernel_rfl
theorem e0:V0 k a0 a1=l0 k:=loop_eq rfl (s0 k a0 a1) fun _=>rfl
end
theorem eq (k:Nat) (a0:Ty.den TFollower) (a1:Int):rn (E k) Tryz.f20 (C k) (a0,a1,())=f k a0 a1:=(show _=t k (V0 k a0 a1 k) a0 a1 by kernel_rfl).trans (by rw [e0];rfl)
theorem ctr (k:Nat):Cp 20 (C k):=rc rfl [] (by kernel_rfl) Tryz.func20 (by kernel_rfl) rfl fun ⟨a0,a1,_⟩ r h=>(eq k a0 a1).trans h
end impl_has
namespace impl_in
def C (k:Nat):Cn:=⟨[.val (.int .i64),.val (.int .i64),.val (.int .i64)],[.bool],true,false,fun x=>f k x.1 x.2.1 x.2.2.1⟩
def E (k:Nat):Env:=en [] [] 0 [] k
theorem eq (k:Nat) (a0:Int) (a1:Int) (a2:Int):rn (E k) Tryz.f21 (C k) (a0,a1,a2,())=f k a0 a1 a2:=by kernel_rfl
theorem ctr (k:Nat):Cp 21 (C k):=rc rfl [] (by kernel_rfl) Tryz.func21 (by kernel_rfl) rfl fun ⟨a0,a1,a2,_⟩ r h=>(eq k a0 a1 a2).trans h
end impl_in
namespace impl_LiveOk
def C (k:Nat):Cn:=⟨[.val TLive],[.bool],true,false,fun x=>f k x.1⟩
def D (k:Nat):List Ce:=[q (impl_in.ctr k)]
def E (k:Nat):Env:=en (D k) [(2,[1,6,7,8])] 0 [] k
section
variable (k:Nat) (a0:Ty.den TLive)
def K0:Ex→St→Rs:=runK (E k) (eK (E k) Tryz.f22 (C k) (a0,())) [.blk 0,.code (at_ (bt 2 3) (body Tryz.f22))]
def V0 (n0:Nat):T0:=fun x0 x1 x2 x3 x4=>loopN (exec (E k) (at_ (bt 5 5) (body Tryz.f22))) (canon 0 [1,6,7,8]) (K0 k a0) n0 (mk 43 1 [(1,.ptr 0 0 0),(6,.sl true (.int .i64) x0),(7,.int .i64 x1),(8,.int .i64 x2)] [(0,.box [.int .i64 x3,.sl true (.int .i64) x4])])
theorem s0 (n0:Nat):V0 k a0 (n0+1)=b0 k (V0 k a0 n0):=by kernel_rfl
theorem e0:V0 k a0=l0 k:=loop_eq rfl (s0 k a0) fun _=>rfl
end
theorem eq (k:Nat) (a0:Ty.den TLive):rn (E k) Tryz.f22 (C k) (a0,())=f k a0:=(show _=t k (V0 k a0 k) a0 by kernel_rfl).trans (by rw [e0];rfl)
theorem ctr (k:Nat):Cp 22 (C k):=rc rfl (D k) (by kernel_rfl) Tryz.func22 (by kernel_rfl) rfl fun ⟨a0,_⟩ r h=>(eq k a0).trans h
end impl_LiveOk
namespace impl_Receive
def C (k:Nat):Cn:=⟨[.val TFollower,.val TParcel],[TFollower,.bool],true,false,fun x=>f k x.1 x.2.1⟩
def D (k:Nat):List Ce:=[q (impl_has.ctr k),q (impl_in.ctr k),q (impl_LiveOk.ctr k)]
def E (k:Nat):Env:=en (D k) [(5,[2,4,6,7,8,25,26,27])] 0 [] k
section
variable (k:Nat) (a0:Ty.den TFollower) (a1:Ty.den TParcel)
def K0:Ex→St→Rs:=runK (E k) (eK (E k) Tryz.f6 (C k) (a0,a1,())) [.blk 0,.code (at_ (bt 5 31) (body Tryz.f6))]
def V0 (n0:Nat):T0:=fun x0 x1 x2 x3 x4 x5 x6 x7 x8 x9 x10 x11 x12=>loopN (exec (E k) (at_ (bt 8 47) (body Tryz.f6))) (canon 0 [2,4,6,7,8,25,26,27]) (K0 k a0 a1) n0 (mk 70 9 [(2,.ptr 0 0 0),(4,.ptr 1 0 0),(6,.ptr 3 0 0),(7,.ptr 5 0 0),(8,.ptr 7 0 0),(25,.sl true TBit x0),(26,.int .i64 x1),(27,.int .i64 x2)] [(0,.box [.int .i64 x3,.sl true TPiece x4]),(2,.own false TPiece x5),(1,.box [.int .i64 x6,.ref 2]),(4,.own false TPiece x7),(3,.box [.int .i64 x8,.ref 4]),(6,.own false TPiece x9),(5,.box [.int .i64 x10,.ref 6]),(8,.own false (.int .i64) x11),(7,.box [.int .i64 x12,.ref 8])])
theorem s0 (n0:Nat):V0 k a0 a1 (n0+1)=b0 k (V0 k a0 a1 n0):=by kernel_rfl
theorem e0:V0 k a0 a1=l0 k:=loop_eq rfl (s0 k a0 a1) fun _=>rfl
end
theorem eq (k:Nat) (a0:Ty.den TFollower) (a1:Ty.den TParcel):rn (E k) Tryz.f6 (C k) (a0,a1,())=f k a0 a1:=(show _=t k (V0 k a0 a1 k) a0 a1 by kernel_rfl).trans (by rw [e0];rfl)
theorem ctr (k:Nat):Cp 6 (C k):=rc rfl (D k) (by kernel_rfl) Tryz.func6 (by kernel_rfl) rfl fun ⟨a0,a1,_⟩ r h=>(eq k a0 a1).trans h
end impl_Receive
namespace spec_SameFollower
def C (k:Nat):Cn:=⟨[.val TFollower,.val TFollower],[.bool],true,false,fun x=>f k x.1 x.2.1⟩
def E (k:Nat):Env:=en [] [(4,[2,3,5])] 0 [] k
section
variable (k:Nat) (a0:Ty.den TFollower) (a1:Ty.den TFollower)
def K0:Ex→St→Rs:=runK (E k) (eK (E k) Tryz.f8 (C k) (a0,a1,())) [.blk 0,.code (at_ (bt 3 7) (body Tryz.f8))]
def V0 (n0:Nat):T0:=fun x0 x1 x2 x3 x4=>loopN (exec (E k) (at_ (bt 6 11) (body Tryz.f8))) (canon 0 [2,3,5]) (K0 k a0 a1) n0 (mk 38 2 [(2,.ptr 0 0 0),(3,.ptr 1 0 0),(5,.int .i64 x0)] [(0,.box [.int .i64 x1,.sl true TPiece x2]),(1,.box [.int .i64 x3,.sl true TPiece x4])])
theorem s0 (n0:Nat):V0 k a0 a1 (n0+1)=b0 k (V0 k a0 a1 n0):=by kernel_rfl
theorem e0:V0 k a0 a1=l0 k:=loop_eq rfl (s0 k a0 a1) fun _=>rfl
end
theorem eq (k:Nat) (a0:Ty.den TFollower) (a1:Ty.den TFollower):rn (E k) Tryz.f8 (C k) (a0,a1,())=f k a0 a1:=(show _=t k (V0 k a0 a1 k) a0 a1 by kernel_rfl).trans (by rw [e0];rfl)
theorem ctr (k:Nat):Cp 8 (C k):=rc rfl [] (by kernel_rfl) Tryz.func8 (by kernel_rfl) rfl fun ⟨a0,a1,_⟩ r h=>(eq k a0 a1).trans h
end spec_SameFollower
namespace spec_l1Spoil
def C (k:Nat):Cn:=⟨[.io false Tl1Cur,.val .str],[.str],true,true,fun x=>f k x.1 x.2.1⟩
def D (k:Nat):List Ce:=[q (spec_l1Text.ctr k),q (spec_l1Below.ctr k),q (spec_l1Byte.ctr k)]
def E (k:Nat):Env:=en (D k) [] 1 [] k
theorem eq (k:Nat) (a0:Ty.den Tl1Cur) (a1:ByteArray):rn (E k) Tryz.f31 (C k) (a0,a1,())=f k a0 a1:=by kernel_rfl
theorem ctr (k:Nat):Cp 31 (C k):=rc rfl (D k) (by kernel_rfl) Tryz.func31 (by kernel_rfl) rfl fun ⟨a0,a1,_⟩ r h=>(eq k a0 a1).trans h
end spec_l1Spoil
namespace spec_DrawFollowMap
def C (k:Nat):Cn:=⟨[.val (.slice (.int .u8))],[TFollower],true,false,fun x=>f k x.1⟩
def D (k:Nat):List Ce:=[q (spec_l1New.ctr k),q (spec_l27Some.ctr k),q (spec_Ship.ctr k),q (spec_Receive.ctr k),q (spec_l1Once.ctr k),q (spec_l1Below.ctr k),q (spec_l1Spoil.ctr k)]
def E (k:Nat):Env:=en (D k) [] 0 [] k
theorem eq (k:Nat) (a0:List Int):rn (E k) Tryz.f10 (C k) (a0,())=f k a0:=by kernel_rfl
theorem ctr (k:Nat):Cp 10 (C k):=rc rfl (D k) (by kernel_rfl) Tryz.func10 (by kernel_rfl) rfl fun ⟨a0,_⟩ r h=>(eq k a0).trans h
end spec_DrawFollowMap
namespace impl_ReadVar
def C (k:Nat):Cn:=⟨[.val .str],[(.int .i64),(.int .i64)],true,false,fun x=>f k x.1⟩
def E (k:Nat):Env:=en [] [(3,[0,4,5])] 0 [] k
section
variable (k:Nat) (a0:ByteArray)
def K0:Ex→St→Rs:=runK (E k) (eK (E k) Tryz.f66 (C k) (a0,())) [.blk 0,.code (at_ (bt 3 7) (body Tryz.f66))]
def V0 (n0:Nat):T0:=fun x0 x1 x2=>loopN (exec (E k) (at_ (bt 6 11) (body Tryz.f66))) (canon 0 [0,4,5]) (K0 k a0) n0 (mk 39 0 [(0,.str x0),(4,.int .i64 x1),(5,.int .i64 x2)] [])
theorem s0 (n0:Nat):V0 k a0 (n0+1)=b0 k (V0 k a0 n0):=by kernel_rfl
theorem e0:V0 k a0=l0 k:=loop_eq rfl (s0 k a0) fun _=>rfl
end
theorem eq (k:Nat) (a0:ByteArray):rn (E k) Tryz.f66 (C k) (a0,())=f k a0:=(show _=t k (V0 k a0 k) a0 by kernel_rfl).trans (by rw [e0];rfl)
theorem ctr (k:Nat):Cp 66 (C k):=rc rfl [] (by kernel_rfl) Tryz.func66 (by kernel_rfl) rfl fun ⟨a0,_⟩ r h=>(eq k a0).trans h
end impl_ReadVar
namespace impl_Var
def C (k:Nat):Cn:=⟨[.val (.int .i64)],[.str],true,false,fun x=>f k x.1⟩
def D (k:Nat):List Ce:=[q (impl_in.ctr k)]
def E (k:Nat):Env:=en (D k) [(4,[0,3])] 0 [] k
section
variable (k:Nat) (a0:Int)
def K0:Ex→St→Rs:=runK (E k) (eK (E k) Tryz.f136 (C k) (a0,())) [.blk 0,.code (at_ (bt 4 15) (body Tryz.f136))]
def V0 (n0:Nat):T0:=fun x0 x1=>loopN (exec (E k) (at_ (bt 6 7) (body Tryz.f136))) (canon 0 [0,3]) (K0 k a0) n0 (mk 24 1 [(0,.int .i64 x0),(3,.ref 0)] [(0,.own false (.int .u8) x1)])
theorem s0 (n0:Nat):V0 k a0 (n0+1)=b0 k (V0 k a0 n0):=by kernel_rfl
theorem e0:V0 k a0=l0 k:=loop_eq rfl (s0 k a0) fun _=>rfl
end
theorem eq (k:Nat) (a0:Int):rn (E k) Tryz.f136 (C k) (a0,())=f k a0:=(show _=t k (V0 k a0 k) a0 by kernel_rfl).trans (by rw [e0];rfl)
theorem ctr (k:Nat):Cp 136 (C k):=rc rfl (D k) (by kernel_rfl) Tryz.func136 (by kernel_rfl) rfl fun ⟨a0,_⟩ r h=>(eq k a0).trans h
end impl_Var
namespace impl_textOf
def C (k:Nat):Cn:=⟨[.val .str],[.str],true,false,fun x=>f k x.1⟩
def D (k:Nat):List Ce:=[q (impl_Var.ctr k)]
def E (k:Nat):Env:=en (D k) [] 0 [] k
theorem eq (k:Nat) (a0:ByteArray):rn (E k) Tryz.f109 (C k) (a0,())=f k a0:=by kernel_rfl
theorem ctr (k:Nat):Cp 109 (C k):=rc rfl (D k) (by kernel_rfl) Tryz.func109 (by kernel_rfl) rfl fun ⟨a0,_⟩ r h=>(eq k a0).trans h
end impl_textOf
namespace impl_Crc
def C (k:Nat):Cn:=⟨[.val .str],[(.int .i64)],true,false,fun x=>f k x.1⟩
def E (k:Nat):Env:=en [] [(3,[0,3,4]),(7,[0,3,4,18])] 0 [] k
section
variable (k:Nat) (a0:ByteArray)
def K0:Ex→St→Rs:=runK (E k) (eK (E k) Tryz.f111 (C k) (a0,())) [.blk 0,.code (at_ (bt 3 7) (body Tryz.f111))]
def B0 (n0:Nat):Ex→St→Rs:=lpK (E k) (at_ (bt 6 11) (body Tryz.f111)) 0 [0,3,4] (K0 k a0) n0
def K1 (n0:Nat):Ex→St→Rs:=runK (E k) (B0 k a0 n0) [.blk 2,.blk 1,.code (at_ (bt 8 203) (body Tryz.f111))]
def V0 (n0:Nat):T0:=fun x0 x1 x2=>loopN (exec (E k) (at_ (bt 6 11) (body Tryz.f111))) (canon 0 [0,3,4]) (K0 k a0) n0 (mk 32 0 [(0,.str x0),(3,.int .u32 x1),(4,.int .i64 x2)] [])
def V1 (n0 n1:Nat):T1:=fun x0 x1 x2 x3=>loopN (exec (E k) (at_ (bt 13 1611) (body Tryz.f111))) (canon 0 [0,3,4,18]) (K1 k a0 n0) n1 (mk 32 0 [(0,.str x0),(3,.int .u32 x1),(4,.int .i64 x2),(18,.int .i64 x3)] [])
theorem s0 (n0:Nat):V0 k a0 (n0+1)=b0 k (V1 k a0 n0 k) (V0 k a0 n0):=by kernel_rfl
theorem s1 (n0 n1:Nat):V1 k a0 n0 (n1+1)=b1 k (V0 k a0 n0) (V1 k a0 n0 n1):=by kernel_rfl
theorem e1 (n0:Nat):V1 k a0 n0=l1 k (V0 k a0 n0):=loop_eq rfl (s1 k a0 n0) fun _=>rfl
theorem e0 (n0:Nat):V0 k a0 n0=l0 k n0:=by
 induction n0 with
 | zero=>rfl
 | succ n0 ih =>
  have h:V0 k a0 (n0+1)=b0 k (V1 k a0 n0 k) (V0 k a0 n0):=s0 k a0 n0
  rw [h,e1,ih]
  rfl
end
theorem eq (k:Nat) (a0:ByteArray):rn (E k) Tryz.f111 (C k) (a0,())=f k a0:=(show _=t k (V0 k a0 k) a0 by kernel_rfl).trans (by rw [e0];rfl)
theorem ctr (k:Nat):Cp 111 (C k):=rc rfl [] (by kernel_rfl) Tryz.func111 (by kernel_rfl) rfl fun ⟨a0,_⟩ r h=>(eq k a0).trans h
end impl_Crc
namespace impl_Fixed
def C (k:Nat):Cn:=⟨[.val (.int .i64),.val (.int .i64)],[.str],true,false,fun x=>f k x.1 x.2.1⟩
def D (k:Nat):List Ce:=[q (impl_in.ctr k)]
def E (k:Nat):Env:=en (D k) [(5,[0,5,6])] 0 [] k
section
variable (k:Nat) (a0:Int) (a1:Int)
def K0:Ex→St→Rs:=runK (E k) (eK (E k) Tryz.f110 (C k) (a0,a1,())) [.blk 0,.code (at_ (bt 4 15) (body Tryz.f110))]
def V0 (n0:Nat):T0:=fun x0 x1 x2=>loopN (exec (E k) (at_ (bt 7 23) (body Tryz.f110))) (canon 0 [0,5,6]) (K0 k a0 a1) n0 (mk 35 1 [(0,.int .i64 x0),(5,.ref 0),(6,.int .i64 x1)] [(0,.own false (.int .u8) x2)])
theorem s0 (n0:Nat):V0 k a0 a1 (n0+1)=b0 k (V0 k a0 a1 n0):=by kernel_rfl
theorem e0:V0 k a0 a1=l0 k:=loop_eq rfl (s0 k a0 a1) fun _=>rfl
end
theorem eq (k:Nat) (a0:Int) (a1:Int):rn (E k) Tryz.f110 (C k) (a0,a1,())=f k a0 a1:=(show _=t k (V0 k a0 a1 k) a0 a1 by kernel_rfl).trans (by rw [e0];rfl)
theorem ctr (k:Nat):Cp 110 (C k):=rc rfl (D k) (by kernel_rfl) Tryz.func110 (by kernel_rfl) rfl fun ⟨a0,a1,_⟩ r h=>(eq k a0 a1).trans h
end impl_Fixed
namespace impl_Frame
def C (k:Nat):Cn:=⟨[.val .str],[.str],true,false,fun x=>f k x.1⟩
def D (k:Nat):List Ce:=[q (impl_textOf.ctr k),q (impl_Crc.ctr k),q (impl_Fixed.ctr k)]
def E (k:Nat):Env:=en (D k) [] 0 [] k
theorem eq (k:Nat) (a0:ByteArray):rn (E k) Tryz.f67 (C k) (a0,())=f k a0:=by kernel_rfl
theorem ctr (k:Nat):Cp 67 (C k):=rc rfl (D k) (by kernel_rfl) Tryz.func67 (by kernel_rfl) rfl fun ⟨a0,_⟩ r h=>(eq k a0).trans h
end impl_Frame
namespace impl_Unframe
def C (k:Nat):Cn:=⟨[.val .str],[.str,(.int .i64)],true,false,fun x=>f k x.1⟩
def D (k:Nat):List Ce:=[q (impl_ReadVar.ctr k),q (impl_Frame.ctr k)]
def E (k:Nat):Env:=en (D k) [] 0 [] k
theorem eq (k:Nat) (a0:ByteArray):rn (E k) Tryz.f44 (C k) (a0,())=f k a0:=by kernel_rfl
theorem ctr (k:Nat):Cp 44 (C k):=rc rfl (D k) (by kernel_rfl) Tryz.func44 (by kernel_rfl) rfl fun ⟨a0,_⟩ r h=>(eq k a0).trans h
end impl_Unframe
namespace impl_scanner__num
def C (k:Nat):Cn:=⟨[.io true Tscanner],[(.int .i64)],true,false,fun x=>f k x.1⟩
def D (k:Nat):List Ce:=[q (impl_ReadVar.ctr k)]
def E (k:Nat):Env:=en (D k) [] 1 [] k
theorem eq (k:Nat) (a0:Ty.den Tscanner):rn (E k) Tryz.f68 (C k) (a0,())=f k a0:=by kernel_rfl
theorem ctr (k:Nat):Cp 68 (C k):=rc rfl (D k) (by kernel_rfl) Tryz.func68 (by kernel_rfl) rfl fun ⟨a0,_⟩ r h=>(eq k a0).trans h
end impl_scanner__num
namespace impl_scanner__bytes
def C (k:Nat):Cn:=⟨[.io true Tscanner,.val (.int .i64)],[.str],true,false,fun x=>f k x.1 x.2.1⟩
def E (k:Nat):Env:=en [] [] 1 [] k
theorem eq (k:Nat) (a0:Ty.den Tscanner) (a1:Int):rn (E k) Tryz.f71 (C k) (a0,a1,())=f k a0 a1:=by kernel_rfl
theorem ctr (k:Nat):Cp 71 (C k):=rc rfl [] (by kernel_rfl) Tryz.func71 (by kernel_rfl) rfl fun ⟨a0,a1,_⟩ r h=>(eq k a0 a1).trans h
end impl_scanner__bytes
namespace impl_scanner__text
def C (k:Nat):Cn:=⟨[.io true Tscanner],[.str],true,false,fun x=>f k x.1⟩
def D (k:Nat):List Ce:=[q (impl_scanner__num.ctr k),q (impl_scanner__bytes.ctr k)]
def E (k:Nat):Env:=en (D k) [] 1 [] k
theorem eq (k:Nat) (a0:Ty.den Tscanner):rn (E k) Tryz.f69 (C k) (a0,())=f k a0:=by kernel_rfl
theorem ctr (k:Nat):Cp 69 (C k):=rc rfl (D k) (by kernel_rfl) Tryz.func69 (by kernel_rfl) rfl fun ⟨a0,_⟩ r h=>(eq k a0).trans h
end impl_scanner__text
namespace impl_KeyOk
def C (k:Nat):Cn:=⟨[.val .str],[.bool],true,false,fun x=>f k x.1⟩
def D (k:Nat):List Ce:=[q (impl_in.ctr k)]
def E (k:Nat):Env:=en (D k) [] 0 [] k
theorem eq (k:Nat) (a0:ByteArray):rn (E k) Tryz.f112 (C k) (a0,())=f k a0:=by kernel_rfl
theorem ctr (k:Nat):Cp 112 (C k):=rc rfl (D k) (by kernel_rfl) Tryz.func112 (by kernel_rfl) rfl fun ⟨a0,_⟩ r h=>(eq k a0).trans h
end impl_KeyOk
namespace impl_RecOk
def C (k:Nat):Cn:=⟨[.val TRec],[.bool],true,false,fun x=>f k x.1⟩
def D (k:Nat):List Ce:=[q (impl_KeyOk.ctr k),q (impl_in.ctr k)]
def E (k:Nat):Env:=en (D k) [] 0 [] k
theorem eq (k:Nat) (a0:Ty.den TRec):rn (E k) Tryz.f72 (C k) (a0,())=f k a0:=by kernel_rfl
theorem ctr (k:Nat):Cp 72 (C k):=rc rfl (D k) (by kernel_rfl) Tryz.func72 (by kernel_rfl) rfl fun ⟨a0,_⟩ r h=>(eq k a0).trans h
end impl_RecOk
namespace impl_ReadFixed
def C (k:Nat):Cn:=⟨[.val .str,.val (.int .i64)],[(.int .i64),.bool],true,false,fun x=>f k x.1 x.2.1⟩
def D (k:Nat):List Ce:=[q (impl_in.ctr k)]
def E (k:Nat):Env:=en (D k) [(5,[0,6,17,18])] 0 [] k
section
variable (k:Nat) (a0:ByteArray) (a1:Int)
def K0:Ex→St→Rs:=runK (E k) (eK (E k) Tryz.f70 (C k) (a0,a1,())) [.blk 0,.code (at_ (bt 4 15) (body Tryz.f70))]
def V0 (n0:Nat):T0:=fun x0 x1 x2 x3=>loopN (exec (E k) (at_ (bt 7 23) (body Tryz.f70))) (canon 0 [0,6,17,18]) (K0 k a0 a1) n0 (mk 30 0 [(0,.str x0),(6,.int .i64 x1),(17,.int .i64 x2),(18,.int .i64 x3)] [])
theorem s0 (n0:Nat):V0 k a0 a1 (n0+1)=b0 k (V0 k a0 a1 n0):=by kernel_rfl
theorem e0:V0 k a0 a1=l0 k:=loop_eq rfl (s0 k a0 a1) fun _=>rfl
end
theorem eq (k:Nat) (a0:ByteArray) (a1:Int):rn (E k) Tryz.f70 (C k) (a0,a1,())=f k a0 a1:=(show _=t k (V0 k a0 a1 k) a0 a1 by kernel_rfl).trans (by rw [e0];rfl)
theorem ctr (k:Nat):Cp 70 (C k):=rc rfl (D k) (by kernel_rfl) Tryz.func70 (by kernel_rfl) rfl fun ⟨a0,a1,_⟩ r h=>(eq k a0 a1).trans h
end impl_ReadFixed
namespace impl_ReadRec
def C (k:Nat):Cn:=⟨[.val .str],[TRec,.bool],true,false,fun x=>f k x.1⟩
def D (k:Nat):List Ce:=[q (impl_scanner__num.ctr k),q (impl_scanner__text.ctr k),q (impl_RecOk.ctr k),q (impl_scanner__bytes.ctr k),q (impl_ReadFixed.ctr k)]
def E (k:Nat):Env:=en (D k) [] 0 [] k
theorem eq (k:Nat) (a0:ByteArray):rn (E k) Tryz.f45 (C k) (a0,())=f k a0:=by kernel_rfl
theorem ctr (k:Nat):Cp 45 (C k):=rc rfl (D k) (by kernel_rfl) Tryz.func45 (by kernel_rfl) rfl fun ⟨a0,_⟩ r h=>(eq k a0).trans h
end impl_ReadRec
namespace impl_ScanRecs
def C (k:Nat):Cn:=⟨[.val .str],[(.slice TSpot),(.int .i64)],true,false,fun x=>f k x.1⟩
def D (k:Nat):List Ce:=[q (impl_Unframe.ctr k),q (impl_ReadRec.ctr k)]
def E (k:Nat):Env:=en (D k) [(3,[0,4,5])] 0 [] k
section
variable (k:Nat) (a0:ByteArray)
def K0:Ex→St→Rs:=runK (E k) (eK (E k) Tryz.f26 (C k) (a0,())) [.blk 0]
def V0 (n0:Nat):T0:=fun x0 x1 x2=>loopN (exec (E k) (at_ (bt 5 7) (body Tryz.f26))) (canon 0 [0,4,5]) (K0 k a0) n0 (mk 40 1 [(0,.str x0),(4,.ref 0),(5,.int .i64 x1)] [(0,.own false TSpot x2)])
theorem s0 (n0:Nat):V0 k a0 (n0+1)=b0 k (V0 k a0 n0):=by kernel_rfl
theorem e0:V0 k a0=l0 k:=loop_eq rfl (s0 k a0) fun _=>rfl
end
theorem eq (k:Nat) (a0:ByteArray):rn (E k) Tryz.f26 (C k) (a0,())=f k a0:=(show _=t k (V0 k a0 k) a0 by kernel_rfl).trans (by rw [e0];rfl)
theorem ctr (k:Nat):Cp 26 (C k):=rc rfl (D k) (by kernel_rfl) Tryz.func26 (by kernel_rfl) rfl fun ⟨a0,_⟩ r h=>(eq k a0).trans h
end impl_ScanRecs
namespace impl_placed
def C (k:Nat):Cn:=⟨[.val (.int .i64),.val (.slice TSpot)],[(.slice TPlace)],true,false,fun x=>f k x.1 x.2.1⟩
def E (k:Nat):Env:=en [] [(3,[0,5,8,9,10])] 0 [] k
section
variable (k:Nat) (a0:Int) (a1:List (Ty.den TSpot))
def K0:Ex→St→Rs:=runK (E k) (eK (E k) Tryz.f27 (C k) (a0,a1,())) [.blk 0,.code (at_ (bt 3 7) (body Tryz.f27))]
def V0 (n0:Nat):T0:=fun x0 x1 x2 x3 x4=>loopN (exec (E k) (at_ (bt 6 11) (body Tryz.f27))) (canon 0 [0,5,8,9,10]) (K0 k a0 a1) n0 (mk 27 1 [(0,.int .i64 x0),(5,.ref 0),(8,.sl true TSpot x1),(9,.int .i64 x2),(10,.int .i64 x3)] [(0,.own false TPlace x4)])
theorem s0 (n0:Nat):V0 k a0 a1 (n0+1)=b0 k (V0 k a0 a1 n0):=by kernel_rfl
theorem e0:V0 k a0 a1=l0 k:=loop_eq rfl (s0 k a0 a1) fun _=>rfl
end
theorem eq (k:Nat) (a0:Int) (a1:List (Ty.den TSpot)):rn (E k) Tryz.f27 (C k) (a0,a1,())=f k a0 a1:=(show _=t k (V0 k a0 a1 k) a0 a1 by kernel_rfl).trans (by rw [e0];rfl)
theorem ctr (k:Nat):Cp 27 (C k):=rc rfl [] (by kernel_rfl) Tryz.func27 (by kernel_rfl) rfl fun ⟨a0,a1,_⟩ r h=>(eq k a0 a1).trans h
end impl_placed
namespace impl_copyDir
def C (k:Nat):Cn:=⟨[.val (.slice TEntry)],[(.slice TEntry)],true,false,fun x=>f k x.1⟩
def E (k:Nat):Env:=en [] [] 0 [] k
theorem eq (k:Nat) (a0:List (Ty.den TEntry)):rn (E k) Tryz.f46 (C k) (a0,())=f k a0:=by kernel_rfl
theorem ctr (k:Nat):Cp 46 (C k):=rc rfl [] (by kernel_rfl) Tryz.func46 (by kernel_rfl) rfl fun ⟨a0,_⟩ r h=>(eq k a0).trans h
end impl_copyDir
namespace impl_ownOf
def C (k:Nat):Cn:=⟨[.val (.slice TPlace),.val TRec],[(.slice TPlace)],true,false,fun x=>f k x.1 x.2.1⟩
def E (k:Nat):Env:=en [] [(3,[3,5,9,10,11])] 0 [] k
section
variable (k:Nat) (a0:List (Ty.den TPlace)) (a1:Ty.den TRec)
def K0:Ex→St→Rs:=runK (E k) (eK (E k) Tryz.f47 (C k) (a0,a1,())) [.blk 0,.code (at_ (bt 3 7) (body Tryz.f47))]
def V0 (n0:Nat):T0:=fun x0 x1 x2 x3 x4 x5 x6 x7 x8 x9=>loopN (exec (E k) (at_ (bt 6 11) (body Tryz.f47))) (canon 0 [3,5,9,10,11]) (K0 k a0 a1) n0 (mk 62 2 [(3,.ptr 0 0 0),(5,.ref 1),(9,.sl true TPlace x0),(10,.int .i64 x1),(11,.int .i64 x2)] [(0,.box [.int .i64 x3,.int .i64 x4,.str x5,.str x6,.int .i64 x7,.int .i64 x8]),(1,.own false TPlace x9)])
theorem s0 (n0:Nat):V0 k a0 a1 (n0+1)=b0 k (V0 k a0 a1 n0):=by kernel_rfl
theorem e0:V0 k a0 a1=l0 k:=loop_eq rfl (s0 k a0 a1) fun _=>rfl
end
theorem eq (k:Nat) (a0:List (Ty.den TPlace)) (a1:Ty.den TRec):rn (E k) Tryz.f47 (C k) (a0,a1,())=f k a0 a1:=(show _=t k (V0 k a0 a1 k) a0 a1 by kernel_rfl).trans (by rw [e0];rfl)
theorem ctr (k:Nat):Cp 47 (C k):=rc rfl [] (by kernel_rfl) Tryz.func47 (by kernel_rfl) rfl fun ⟨a0,a1,_⟩ r h=>(eq k a0 a1).trans h
end impl_ownOf
namespace impl_vars
def C (k:Nat):Cn:=⟨[.val (.slice (.int .i64))],[.str],true,false,fun x=>f k x.1⟩
def D (k:Nat):List Ce:=[q (impl_Var.ctr k)]
def E (k:Nat):Env:=en (D k) [(3,[3,6,7,8])] 0 [] k
section
variable (k:Nat) (a0:List Int)
def K0:Ex→St→Rs:=runK (E k) (eK (E k) Tryz.f137 (C k) (a0,())) [.blk 0,.code (at_ (bt 3 7) (body Tryz.f137))]
def V0 (n0:Nat):T0:=fun x0 x1 x2 x3=>loopN (exec (E k) (at_ (bt 6 11) (body Tryz.f137))) (canon 0 [3,6,7,8]) (K0 k a0) n0 (mk 18 0 [(3,.str x0),(6,.sl true (.int .i64) x1),(7,.int .i64 x2),(8,.int .i64 x3)] [])
theorem s0 (n0:Nat):V0 k a0 (n0+1)=b0 k (V0 k a0 n0):=by kernel_rfl
theorem e0:V0 k a0=l0 k:=loop_eq rfl (s0 k a0) fun _=>rfl
end
theorem eq (k:Nat) (a0:List Int):rn (E k) Tryz.f137 (C k) (a0,())=f k a0:=(show _=t k (V0 k a0 k) a0 by kernel_rfl).trans (by rw [e0];rfl)
theorem ctr (k:Nat):Cp 137 (C k):=rc rfl (D k) (by kernel_rfl) Tryz.func137 (by kernel_rfl) rfl fun ⟨a0,_⟩ r h=>(eq k a0).trans h
end impl_vars
namespace impl_ShowRec
def C (k:Nat):Cn:=⟨[.val TRec],[.str],true,false,fun x=>f k x.1⟩
def D (k:Nat):List Ce:=[q (impl_RecOk.ctr k),q (impl_vars.ctr k),q (impl_textOf.ctr k),q (impl_Var.ctr k),q (impl_Fixed.ctr k)]
def E (k:Nat):Env:=en (D k) [] 0 [] k
theorem eq (k:Nat) (a0:Ty.den TRec):rn (E k) Tryz.f113 (C k) (a0,())=f k a0:=by kernel_rfl
theorem ctr (k:Nat):Cp 113 (C k):=rc rfl (D k) (by kernel_rfl) Tryz.func113 (by kernel_rfl) rfl fun ⟨a0,_⟩ r h=>(eq k a0).trans h
end impl_ShowRec
namespace impl_SumOf
def C (k:Nat):Cn:=⟨[.val (.slice TRec)],[(.int .i64)],true,false,fun x=>f k x.1⟩
def D (k:Nat):List Ce:=[q (impl_ShowRec.ctr k),q (impl_Crc.ctr k)]
def E (k:Nat):Env:=en (D k) [(3,[3,6,7,8])] 0 [] k
section
variable (k:Nat) (a0:List (Ty.den TRec))
def K0:Ex→St→Rs:=runK (E k) (eK (E k) Tryz.f73 (C k) (a0,())) [.blk 0,.code (at_ (bt 3 7) (body Tryz.f73))]
def V0 (n0:Nat):T0:=fun x0 x1 x2 x3=>loopN (exec (E k) (at_ (bt 6 11) (body Tryz.f73))) (canon 0 [3,6,7,8]) (K0 k a0) n0 (mk 19 0 [(3,.str x0),(6,.sl true TRec x1),(7,.int .i64 x2),(8,.int .i64 x3)] [])
theorem s0 (n0:Nat):V0 k a0 (n0+1)=b0 k (V0 k a0 n0):=by kernel_rfl
theorem e0:V0 k a0=l0 k:=loop_eq rfl (s0 k a0) fun _=>rfl
end
theorem eq (k:Nat) (a0:List (Ty.den TRec)):rn (E k) Tryz.f73 (C k) (a0,())=f k a0:=(show _=t k (V0 k a0 k) a0 by kernel_rfl).trans (by rw [e0];rfl)
theorem ctr (k:Nat):Cp 73 (C k):=rc rfl (D k) (by kernel_rfl) Tryz.func73 (by kernel_rfl) rfl fun ⟨a0,_⟩ r h=>(eq k a0).trans h
end impl_SumOf
namespace impl_fits
def C (k:Nat):Cn:=⟨[.val TRec,.val (.slice TPlace)],[.bool],true,false,fun x=>f k x.1 x.2.1⟩
def D (k:Nat):List Ce:=[q (impl_SumOf.ctr k)]
def E (k:Nat):Env:=en (D k) [(3,[2,5,8,9,10])] 0 [] k
section
variable (k:Nat) (a0:Ty.den TRec) (a1:List (Ty.den TPlace))
def K0:Ex→St→Rs:=runK (E k) (eK (E k) Tryz.f48 (C k) (a0,a1,())) [.blk 0,.code (at_ (bt 3 7) (body Tryz.f48))]
def V0 (n0:Nat):T0:=fun x0 x1 x2 x3 x4 x5 x6 x7 x8 x9=>loopN (exec (E k) (at_ (bt 6 11) (body Tryz.f48))) (canon 0 [2,5,8,9,10]) (K0 k a0 a1) n0 (mk 32 2 [(2,.ptr 0 0 0),(5,.ref 1),(8,.sl true TPlace x0),(9,.int .i64 x1),(10,.int .i64 x2)] [(0,.box [.int .i64 x3,.int .i64 x4,.str x5,.str x6,.int .i64 x7,.int .i64 x8]),(1,.own false TRec x9)])
theorem s0 (n0:Nat):V0 k a0 a1 (n0+1)=b0 k (V0 k a0 a1 n0):=by kernel_rfl
theorem e0:V0 k a0 a1=l0 k:=loop_eq rfl (s0 k a0 a1) fun _=>rfl
end
theorem eq (k:Nat) (a0:Ty.den TRec) (a1:List (Ty.den TPlace)):rn (E k) Tryz.f48 (C k) (a0,a1,())=f k a0 a1:=(show _=t k (V0 k a0 a1 k) a0 a1 by kernel_rfl).trans (by rw [e0];rfl)
theorem ctr (k:Nat):Cp 48 (C k):=rc rfl (D k) (by kernel_rfl) Tryz.func48 (by kernel_rfl) rfl fun ⟨a0,a1,_⟩ r h=>(eq k a0 a1).trans h
end impl_fits
namespace impl_DirDrop
def C (k:Nat):Cn:=⟨[.val (.slice TEntry),.val .str],[(.slice TEntry)],true,false,fun x=>f k x.1 x.2.1⟩
def E (k:Nat):Env:=en [] [(3,[1,5,8,9,10])] 0 [] k
section
variable (k:Nat) (a0:List (Ty.den TEntry)) (a1:ByteArray)
def K0:Ex→St→Rs:=runK (E k) (eK (E k) Tryz.f74 (C k) (a0,a1,())) [.blk 0,.code (at_ (bt 3 7) (body Tryz.f74))]
def V0 (n0:Nat):T0:=fun x0 x1 x2 x3 x4=>loopN (exec (E k) (at_ (bt 6 11) (body Tryz.f74))) (canon 0 [1,5,8,9,10]) (K0 k a0 a1) n0 (mk 24 1 [(1,.str x0),(5,.ref 0),(8,.sl true TEntry x1),(9,.int .i64 x2),(10,.int .i64 x3)] [(0,.own false TEntry x4)])
theorem s0 (n0:Nat):V0 k a0 a1 (n0+1)=b0 k (V0 k a0 a1 n0):=by kernel_rfl
theorem e0:V0 k a0 a1=l0 k:=loop_eq rfl (s0 k a0 a1) fun _=>rfl
end
theorem eq (k:Nat) (a0:List (Ty.den TEntry)) (a1:ByteArray):rn (E k) Tryz.f74 (C k) (a0,a1,())=f k a0 a1:=(show _=t k (V0 k a0 a1 k) a0 a1 by kernel_rfl).trans (by rw [e0];rfl)
theorem ctr (k:Nat):Cp 74 (C k):=rc rfl [] (by kernel_rfl) Tryz.func74 (by kernel_rfl) rfl fun ⟨a0,a1,_⟩ r h=>(eq k a0 a1).trans h
end impl_DirDrop
namespace impl_DirPut
def C (k:Nat):Cn:=⟨[.val (.slice TEntry),.val TEntry],[(.slice TEntry)],true,false,fun x=>f k x.1 x.2.1⟩
def D (k:Nat):List Ce:=[q (impl_DirDrop.ctr k),q (impl_copyDir.ctr k)]
def E (k:Nat):Env:=en (D k) [(3,[3,5,6])] 0 [] k
section
variable (k:Nat) (a0:List (Ty.den TEntry)) (a1:Ty.den TEntry)
def K0:Ex→St→Rs:=runK (E k) (eK (E k) Tryz.f75 (C k) (a0,a1,())) [.blk 0,.code (at_ (bt 4 15) (body Tryz.f75))]
def V0 (n0:Nat):T0:=fun x0 x1 x2 x3 x4 x5 x6=>loopN (exec (E k) (at_ (bt 6 7) (body Tryz.f75))) (canon 0 [3,5,6]) (K0 k a0 a1) n0 (mk 38 2 [(3,.ptr 0 0 0),(5,.ref 1),(6,.int .i64 x0)] [(0,.box [.str x1,.int .i64 x2,.int .i64 x3,.int .i64 x4,.int .i64 x5]),(1,.own false TEntry x6)])
theorem s0 (n0:Nat):V0 k a0 a1 (n0+1)=b0 k (V0 k a0 a1 n0):=by kernel_rfl
theorem e0:V0 k a0 a1=l0 k:=loop_eq rfl (s0 k a0 a1) fun _=>rfl
end
theorem eq (k:Nat) (a0:List (Ty.den TEntry)) (a1:Ty.den TEntry):rn (E k) Tryz.f75 (C k) (a0,a1,())=f k a0 a1:=(show _=t k (V0 k a0 a1 k) a0 a1 by kernel_rfl).trans (by rw [e0];rfl)
theorem ctr (k:Nat):Cp 75 (C k):=rc rfl (D k) (by kernel_rfl) Tryz.func75 (by kernel_rfl) rfl fun ⟨a0,a1,_⟩ r h=>(eq k a0 a1).trans h
end impl_DirPut
namespace impl_Group__apply
def C (k:Nat):Cn:=⟨[.io true TGroup,.val (.slice TPlace)],[],true,false,fun x=>f k x.1 x.2.1⟩
def D (k:Nat):List Ce:=[q (impl_DirDrop.ctr k),q (impl_DirPut.ctr k)]
def E (k:Nat):Env:=en (D k) [(1,[0,6,7,8])] 1 [] k
section
variable (k:Nat) (a0:Ty.den TGroup) (a1:List (Ty.den TPlace))
def K0:Ex→St→Rs:=runK (E k) (eK (E k) Tryz.f49 (C k) (a0,a1,())) [.blk 0,.code (at_ (bt 1 1) (body Tryz.f49))]
def V0 (n0:Nat):T0:=fun x0 x1 x2 x3 x4 x5=>loopN (exec (E k) (at_ (bt 4 2) (body Tryz.f49))) (canon 1 [0,6,7,8]) (K0 k a0 a1) n0 (mk 58 2 [(0,.ptr 0 0 0),(6,.sl true TPlace x0),(7,.int .i64 x1),(8,.int .i64 x2)] [(1,.own false TEntry x3),(0,.box [.ref 1,.int .i64 x4,.int .i64 x5])])
theorem s0 (n0:Nat):V0 k a0 a1 (n0+1)=b0 k (V0 k a0 a1 n0):=by kernel_rfl
theorem e0:V0 k a0 a1=l0 k:=loop_eq rfl (s0 k a0 a1) fun _=>rfl
end
theorem eq (k:Nat) (a0:Ty.den TGroup) (a1:List (Ty.den TPlace)):rn (E k) Tryz.f49 (C k) (a0,a1,())=f k a0 a1:=(show _=t k (V0 k a0 a1 k) a0 a1 by kernel_rfl).trans (by rw [e0];rfl)
theorem ctr (k:Nat):Cp 49 (C k):=rc rfl (D k) (by kernel_rfl) Tryz.func49 (by kernel_rfl) rfl fun ⟨a0,a1,_⟩ r h=>(eq k a0 a1).trans h
end impl_Group__apply
namespace impl_Regroup
def C (k:Nat):Cn:=⟨[.val TGroup,.val (.slice TPlace)],[TGroup],true,false,fun x=>f k x.1 x.2.1⟩
def D (k:Nat):List Ce:=[q (impl_copyDir.ctr k),q (impl_ownOf.ctr k),q (impl_fits.ctr k),q (impl_Group__apply.ctr k)]
def E (k:Nat):Env:=en (D k) [(3,[1,4,5,17,18,19])] 0 [] k
section
variable (k:Nat) (a0:Ty.den TGroup) (a1:List (Ty.den TPlace))
def K0:Ex→St→Rs:=runK (E k) (eK (E k) Tryz.f28 (C k) (a0,a1,())) [.blk 0,.code (at_ (bt 3 7) (body Tryz.f28))]
def V0 (n0:Nat):T0:=fun x0 x1 x2 x3 x4 x5 x6 x7 x8 x9=>loopN (exec (E k) (at_ (bt 6 11) (body Tryz.f28))) (canon 0 [1,4,5,17,18,19]) (K0 k a0 a1) n0 (mk 77 4 [(1,.sl true TPlace x0),(4,.ptr 0 0 0),(5,.ptr 2 0 0),(17,.sl true TPlace x1),(18,.int .i64 x2),(19,.int .i64 x3)] [(1,.own false TEntry x4),(0,.box [.ref 1,.int .i64 x5,.int .i64 x6]),(3,.own false TEntry x7),(2,.box [.ref 3,.int .i64 x8,.int .i64 x9])])
theorem s0 (n0:Nat):V0 k a0 a1 (n0+1)=b0 k (V0 k a0 a1 n0):=by kernel_rfl
theorem e0:V0 k a0 a1=l0 k:=loop_eq rfl (s0 k a0 a1) fun _=>rfl
end
theorem eq (k:Nat) (a0:Ty.den TGroup) (a1:List (Ty.den TPlace)):rn (E k) Tryz.f28 (C k) (a0,a1,())=f k a0 a1:=(show _=t k (V0 k a0 a1 k) a0 a1 by kernel_rfl).trans (by rw [e0];rfl)
theorem ctr (k:Nat):Cp 28 (C k):=rc rfl (D k) (by kernel_rfl) Tryz.func28 (by kernel_rfl) rfl fun ⟨a0,a1,_⟩ r h=>(eq k a0 a1).trans h
end impl_Regroup
namespace impl_RecAt
def C (k:Nat):Cn:=⟨[.val .str,.val (.int .i64),.val (.int .i64)],[TRec,.bool],true,false,fun x=>f k x.1 x.2.1 x.2.2.1⟩
def D (k:Nat):List Ce:=[q (impl_in.ctr k),q (impl_Unframe.ctr k),q (impl_ReadRec.ctr k)]
def E (k:Nat):Env:=en (D k) [] 0 [] k
theorem eq (k:Nat) (a0:ByteArray) (a1:Int) (a2:Int):rn (E k) Tryz.f29 (C k) (a0,a1,a2,())=f k a0 a1 a2:=by kernel_rfl
theorem ctr (k:Nat):Cp 29 (C k):=rc rfl (D k) (by kernel_rfl) Tryz.func29 (by kernel_rfl) rfl fun ⟨a0,a1,a2,_⟩ r h=>(eq k a0 a1 a2).trans h
end impl_RecAt
namespace impl_FollowMap
def C (k:Nat):Cn:=⟨[.val TFollower],[(.slice TPair),.bool],true,false,fun x=>f k x.1⟩
def D (k:Nat):List Ce:=[q (impl_ScanRecs.ctr k),q (impl_placed.ctr k),q (impl_Regroup.ctr k),q (impl_has.ctr k),q (impl_RecAt.ctr k)]
def E (k:Nat):Env:=en (D k) [(3,[1,4,16,17,18]),(15,[1,10,47,48,49])] 0 [] k
section
variable (k:Nat) (a0:Ty.den TFollower)
def K0:Ex→St→Rs:=runK (E k) (eK (E k) Tryz.f9 (C k) (a0,())) [.blk 0,.code (at_ (bt 3 7) (body Tryz.f9))]
def K1:Ex→St→Rs:=runK (E k) (eK (E k) Tryz.f9 (C k) (a0,())) [.blk 2,.code (at_ (bt 7 127) (body Tryz.f9))]
def V0 (n0:Nat):T0:=fun x0 x1 x2 x3 x4 x5=>loopN (exec (E k) (at_ (bt 6 11) (body Tryz.f9))) (canon 0 [1,4,16,17,18]) (K0 k a0) n0 (mk 79 2 [(1,.ptr 0 0 0),(4,.ref 1),(16,.sl true TPiece x0),(17,.int .i64 x1),(18,.int .i64 x2)] [(0,.box [.int .i64 x3,.sl true TPiece x4]),(1,.own false TPlace x5)])
def V1 (n1:Nat):T1:=fun x0 x1 x2 x3 x4 x5=>loopN (exec (E k) (at_ (bt 10 191) (body Tryz.f9))) (canon 0 [1,10,47,48,49]) (K1 k a0) n1 (mk 79 3 [(1,.ptr 0 0 0),(10,.ref 1),(47,.ref 2),(48,.int .i64 x0),(49,.int .i64 x1)] [(0,.box [.int .i64 x2,.sl true TPiece x3]),(1,.own false TPair x4),(2,.own false TEntry x5)])
theorem s0 (n0:Nat):V0 k a0 (n0+1)=b0 k (V1 k a0 k) (V0 k a0 n0):=by kernel_rfl
theorem s1 (n1:Nat):V1 k a0 (n1+1)=b1 k (V1 k a0 n1):=by kernel_rfl
theorem e1:V1 k a0=l1 k:=loop_eq rfl (s1 k a0) fun _=>rfl
theorem e0 (n0:Nat):V0 k a0 n0=l0 k n0:=by
 induction n0 with
 | zero=>rfl
 | succ n0 ih =>
  have h:V0 k a0 (n0+1)=b0 k (V1 k a0 k) (V0 k a0 n0):=s0 k a0 n0
  rw [h,e1,ih]
  rfl
end
theorem eq (k:Nat) (a0:Ty.den TFollower):rn (E k) Tryz.f9 (C k) (a0,())=f k a0:=(show _=t k (V0 k a0 k) a0 by kernel_rfl).trans (by rw [e0];rfl)
theorem ctr (k:Nat):Cp 9 (C k):=rc rfl (D k) (by kernel_rfl) Tryz.func9 (by kernel_rfl) rfl fun ⟨a0,_⟩ r h=>(eq k a0).trans h
end impl_FollowMap
namespace spec_FollowMap
def C (k:Nat):Cn:=⟨[.val TFollower],[(.slice TPair),.bool],true,false,fun x=>f k x.1⟩
def D (k:Nat):List Ce:=[q (spec_ScanRecs.ctr k),q (spec_l11Places.ctr k),q (spec_Regroup.ctr k),q (spec_l27Text.ctr k),q (spec_RecAt.ctr k)]
def E (k:Nat):Env:=en (D k) [(4,[1,4,5,6]),(15,[1,4,9,10,11])] 0 [] k
section
variable (k:Nat) (a0:Ty.den TFollower)
def K0:Ex→St→Rs:=runK (E k) (eK (E k) Tryz.f11 (C k) (a0,())) [.blk 0,.code (at_ (bt 4 15) (body Tryz.f11))]
def K1:Ex→St→Rs:=runK (E k) (eK (E k) Tryz.f11 (C k) (a0,())) [.blk 2,.code (at_ (bt 8 255) (body Tryz.f11))]
def V0 (n0:Nat):T0:=fun x0 x1 x2 x3 x4=>loopN (exec (E k) (at_ (bt 7 23) (body Tryz.f11))) (canon 0 [1,4,5,6]) (K0 k a0) n0 (mk 111 3 [(1,.ptr 0 0 0),(4,.ref 1),(5,.ref 2),(6,.int .i64 x0)] [(0,.box [.int .i64 x1,.sl true TPiece x2]),(1,.own false TPair x3),(2,.own false TPlace x4)])
def V1 (n1:Nat):T1:=fun x0 x1 x2 x3 x4 x5 x6 x7=>loopN (exec (E k) (at_ (bt 11 383) (body Tryz.f11))) (canon 0 [1,4,9,10,11]) (K1 k a0) n1 (mk 111 5 [(1,.ptr 0 0 0),(4,.ref 1),(9,.ptr 2 0 0),(10,.ref 4),(11,.int .i64 x0)] [(0,.box [.int .i64 x1,.sl true TPiece x2]),(1,.own false TPair x3),(3,.own false TEntry x4),(2,.box [.ref 3,.int .i64 x5,.int .i64 x6]),(4,.own false TPair x7)])
theorem s0 (n0:Nat):V0 k a0 (n0+1)=b0 k (V1 k a0 k) (V0 k a0 n0):=by kernel_rfl
theorem s1 (n1:Nat):V1 k a0 (n1+1)=b1 k (V1 k a0 n1):=by kernel_rfl
theorem e1:V1 k a0=l1 k:=loop_eq rfl (s1 k a0) fun _=>rfl
theorem e0 (n0:Nat):V0 k a0 n0=l0 k n0:=by
 induction n0 with
 | zero=>rfl
 | succ n0 ih =>
  have h:V0 k a0 (n0+1)=b0 k (V1 k a0 k) (V0 k a0 n0):=s0 k a0 n0
  rw [h,e1,ih]
  rfl
end
theorem eq (k:Nat) (a0:Ty.den TFollower):rn (E k) Tryz.f11 (C k) (a0,())=f k a0:=(show _=t k (V0 k a0 k) a0 by kernel_rfl).trans (by rw [e0];rfl)
theorem ctr (k:Nat):Cp 11 (C k):=rc rfl (D k) (by kernel_rfl) Tryz.func11 (by kernel_rfl) rfl fun ⟨a0,_⟩ r h=>(eq k a0).trans h
end spec_FollowMap
namespace spec_SamePairs
def C (k:Nat):Cn:=⟨[.val (.slice TPair),.val (.slice TPair)],[.bool],true,false,fun x=>f k x.1 x.2.1⟩
def E (k:Nat):Env:=en [] [(4,[0,1,5])] 0 [] k
section
variable (k:Nat) (a0:List (Ty.den TPair)) (a1:List (Ty.den TPair))
def K0:Ex→St→Rs:=runK (E k) (eK (E k) Tryz.f12 (C k) (a0,a1,())) [.blk 0,.code (at_ (bt 3 7) (body Tryz.f12))]
def V0 (n0:Nat):T0:=fun x0 x1 x2=>loopN (exec (E k) (at_ (bt 6 11) (body Tryz.f12))) (canon 0 [0,1,5]) (K0 k a0 a1) n0 (mk 26 0 [(0,.sl true TPair x0),(1,.sl true TPair x1),(5,.int .i64 x2)] [])
theorem s0 (n0:Nat):V0 k a0 a1 (n0+1)=b0 k (V0 k a0 a1 n0):=by kernel_rfl
theorem e0:V0 k a0 a1=l0 k:=loop_eq rfl (s0 k a0 a1) fun _=>rfl
end
theorem eq (k:Nat) (a0:List (Ty.den TPair)) (a1:List (Ty.den TPair)):rn (E k) Tryz.f12 (C k) (a0,a1,())=f k a0 a1:=(show _=t k (V0 k a0 a1 k) a0 a1 by kernel_rfl).trans (by rw [e0];rfl)
theorem ctr (k:Nat):Cp 12 (C k):=rc rfl [] (by kernel_rfl) Tryz.func12 (by kernel_rfl) rfl fun ⟨a0,a1,_⟩ r h=>(eq k a0 a1).trans h
end spec_SamePairs
namespace impl_ParcelBytes
def C (k:Nat):Cn:=⟨[.val TParcel],[(.int .i64)],true,false,fun x=>f k x.1⟩
def E (k:Nat):Env:=en [] [(3,[3,7,8,9])] 0 [] k
section
variable (k:Nat) (a0:Ty.den TParcel)
def K0:Ex→St→Rs:=runK (E k) (eK (E k) Tryz.f13 (C k) (a0,())) [.blk 0,.code (at_ (bt 3 7) (body Tryz.f13))]
def V0 (n0:Nat):T0:=fun x0 x1 x2 x3=>loopN (exec (E k) (at_ (bt 6 11) (body Tryz.f13))) (canon 0 [3,7,8,9]) (K0 k a0) n0 (mk 20 0 [(3,.int .i64 x0),(7,.sl true TBit x1),(8,.int .i64 x2),(9,.int .i64 x3)] [])
theorem s0 (n0:Nat):V0 k a0 (n0+1)=b0 k (V0 k a0 n0):=by kernel_rfl
theorem e0:V0 k a0=l0 k:=loop_eq rfl (s0 k a0) fun _=>rfl
end
theorem eq (k:Nat) (a0:Ty.den TParcel):rn (E k) Tryz.f13 (C k) (a0,())=f k a0:=(show _=t k (V0 k a0 k) a0 by kernel_rfl).trans (by rw [e0];rfl)
theorem ctr (k:Nat):Cp 13 (C k):=rc rfl [] (by kernel_rfl) Tryz.func13 (by kernel_rfl) rfl fun ⟨a0,_⟩ r h=>(eq k a0).trans h
end impl_ParcelBytes
namespace spec_ParcelBytes
def C (k:Nat):Cn:=⟨[.val TParcel],[(.int .i64)],true,false,fun x=>f k x.1⟩
def E (k:Nat):Env:=en [] [(3,[1,3,4])] 0 [] k
section
variable (k:Nat) (a0:Ty.den TParcel)
def K0:Ex→St→Rs:=runK (E k) (eK (E k) Tryz.f14 (C k) (a0,())) [.blk 0,.code (at_ (bt 3 7) (body Tryz.f14))]
def V0 (n0:Nat):T0:=fun x0 x1 x2 x3=>loopN (exec (E k) (at_ (bt 6 11) (body Tryz.f14))) (canon 0 [1,3,4]) (K0 k a0) n0 (mk 22 1 [(1,.ptr 0 0 0),(3,.int .i64 x0),(4,.int .i64 x1)] [(0,.box [.int .i64 x2,.sl true TBit x3])])
theorem s0 (n0:Nat):V0 k a0 (n0+1)=b0 k (V0 k a0 n0):=by kernel_rfl
theorem e0:V0 k a0=l0 k:=loop_eq rfl (s0 k a0) fun _=>rfl
end
theorem eq (k:Nat) (a0:Ty.den TParcel):rn (E k) Tryz.f14 (C k) (a0,())=f k a0:=(show _=t k (V0 k a0 k) a0 by kernel_rfl).trans (by rw [e0];rfl)
theorem ctr (k:Nat):Cp 14 (C k):=rc rfl [] (by kernel_rfl) Tryz.func14 (by kernel_rfl) rfl fun ⟨a0,_⟩ r h=>(eq k a0).trans h
end spec_ParcelBytes
namespace laws_FnParcels
def C (k:Nat):Cn:=⟨[.val (.slice (.int .u8))],[.bool],true,false,fun x=>f k x.1⟩
def D (k:Nat):List Ce:=[q (laws_big.ctr k),q (spec_DrawReceive.ctr k),q (impl_Receive.ctr k),q (spec_Receive.ctr k),q (spec_SameFollower.ctr k),q (spec_DrawFollowMap.ctr k),q (impl_FollowMap.ctr k),q (spec_FollowMap.ctr k),q (spec_SamePairs.ctr k),q (impl_ParcelBytes.ctr k),q (spec_ParcelBytes.ctr k)]
def E (k:Nat):Env:=en (D k) [] 0 [] k
theorem eq (k:Nat) (a0:List Int):rn (E k) Tryz.f3 (C k) (a0,())=f k a0:=by kernel_rfl
theorem ctr (k:Nat):Cp 3 (C k):=rc rfl (D k) (by kernel_rfl) Tryz.func3 (by kernel_rfl) rfl fun ⟨a0,_⟩ r h=>(eq k a0).trans h
end laws_FnParcels
end
end Go.Proofs.YtmakghhmpgfboaaGreat.G
