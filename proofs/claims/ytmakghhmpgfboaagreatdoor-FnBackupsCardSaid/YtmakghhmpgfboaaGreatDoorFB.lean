/- Functions, as V runs them. -/
import Derived.Test.YtmakghhmpgfboaaGreatDoorVWords
import Derived.Test.YtmakghhmpgfboaaGreatDoorXLib
set_option linter.unusedVariables false
namespace Go.Proofs.YtmakghhmpgfboaaGreatDoor.G
open Go.V
abbrev TPair:Ty := .pair .str (.pair .str (.pair (.int .i64) .unit))
abbrev TDisk:Ty := .pair (.slice TPair) (.pair (.int .i64) (.pair (.int .i64) (.pair .bool .unit)))
abbrev TEntry:Ty := .pair .str (.pair (.int .i64) (.pair (.int .i64) (.pair (.int .i64) (.pair (.int .i64) .unit))))
abbrev TGroup:Ty := .pair (.slice TEntry) (.pair (.int .i64) (.pair (.int .i64) .unit))
abbrev THint:Ty := .pair (.int .i64) (.pair (.int .i64) (.pair (.slice TEntry) .unit))
abbrev TLive:Ty := .pair (.int .i64) (.pair (.slice (.int .i64)) .unit)
abbrev TRec:Ty := .pair (.int .i64) (.pair (.int .i64) (.pair .str (.pair .str (.pair (.int .i64) (.pair (.int .i64) .unit)))))
abbrev TPlace:Ty := .pair (.int .i64) (.pair (.int .i64) (.pair (.int .i64) (.pair TRec .unit)))
abbrev TPut:Ty := .pair .str (.pair .bool (.pair .str .unit))
abbrev TSpot:Ty := .pair (.int .i64) (.pair (.int .i64) (.pair TRec .unit))
abbrev TStore:Ty := .pair TLive (.pair (.slice TEntry) (.pair (.int .i64) (.pair (.int .i64) (.pair (.int .i64) .unit))))
abbrev Tl1Cur:Ty := .pair (.slice (.int .u8)) (.pair (.int .i64) (.pair (.int .i64) .unit))
abbrev Tscanner:Ty := .pair .str (.pair .bool .unit)
abbrev Tworker:Ty := .pair TDisk (.pair (.int .i64) .unit)
abbrev TFile:Ty:=TPair
namespace laws_big
abbrev Rs:Type:=Option (Bool × Unit)
def t (k:Nat) (a0:List Int):Rs :=
 (some ((decide ((List.length a0:Int) > 1048576)),()))
def f (k:Nat):=t k
end laws_big
namespace spec_l1New
abbrev Rs:Type:=Option (Unit × (Ty.den Tl1Cur) × Unit)
abbrev T0:Type:=List Int→Int→Int→Rs
def b0 (k:Nat) (L0:T0):T0:=fun x0 x1 x2 =>
 (bif (decide (x2<(x0.length:Int))) then
 (bif (decide (x2<4000)) then
 (inb x2 (x0.length:Int)
 (L0 x0 (w64 (((BitVec.ofInt (IntKind.bits .i64) (w64 ((w64 ((w64 (x1*131))+(w64 (List.getD x0 (Int.toNat x2) (Ty.dflt (.int .u8))))))+7)) &&& BitVec.ofInt (IntKind.bits .i64) 1073741823).toNat:Int))) (w64 (x2+1))))
 else
 (some ((),((x0,(0,(x1,()))),()))))
 else
 (some ((),((x0,(0,(x1,()))),()))))
def l0 (k:Nat):Nat→T0
 | 0=>fun _ _ _=>none
 | n+1=>b0 k (l0 k n)
def t (k:Nat) (L0:T0) (a0:List Int):Rs :=
 (L0 a0 (w64 (10101+(List.length a0:Int))) 0)
def f (k:Nat):=t k (l0 k k)
end spec_l1New
namespace spec_l1Byte
abbrev Rs:Type:=Option ((Ty.den Tl1Cur) × Int × Unit)
def t (k:Nat) (a0:Ty.den Tl1Cur):Rs :=
 (bif (decide (a0.2.1<(List.length a0.1:Int))) then
 (inb a0.2.1 (List.length a0.1:Int)
 (some ((a0.1,((w64 (a0.2.1+1)),((w64 ((w64 (a0.2.2.1*6364136223846793005))+1442695040888963407)),()))),((w64 (((BitVec.ofInt (IntKind.bits .i64) (w64 ((w64 (((BitVec.ofInt (IntKind.bits .i64) (w64 (((BitVec.ofInt (IntKind.bits .i64) (Int.fdiv (w64 ((w64 (a0.2.2.1*6364136223846793005))+1442695040888963407)) (2 ^ (Int.toNat 33))) ^^^ BitVec.ofInt (IntKind.bits .i64) (Int.fdiv (w64 ((w64 (a0.2.2.1*6364136223846793005))+1442695040888963407)) (2 ^ (Int.toNat 45)))).toNat:Int))) &&& BitVec.ofInt (IntKind.bits .i64) 255).toNat:Int)))+(w64 (List.getD a0.1 (Int.toNat a0.2.1) (Ty.dflt (.int .u8)))))) &&& BitVec.ofInt (IntKind.bits .i64) 255).toNat:Int))),()))))
 else
 (some ((a0.1,(a0.2.1,((w64 ((w64 (a0.2.2.1*6364136223846793005))+1442695040888963407)),()))),((w64 (((BitVec.ofInt (IntKind.bits .i64) (w64 (((BitVec.ofInt (IntKind.bits .i64) (Int.fdiv (w64 ((w64 (a0.2.2.1*6364136223846793005))+1442695040888963407)) (2 ^ (Int.toNat 33))) ^^^ BitVec.ofInt (IntKind.bits .i64) (Int.fdiv (w64 ((w64 (a0.2.2.1*6364136223846793005))+1442695040888963407)) (2 ^ (Int.toNat 45)))).toNat:Int))) &&& BitVec.ofInt (IntKind.bits .i64) 255).toNat:Int))),()))))
def f (k:Nat):=t k
end spec_l1Byte
namespace spec_l1Below
abbrev Rs:Type:=Option ((Ty.den Tl1Cur) × Int × Unit)
def t (k:Nat) (a0:Ty.den Tl1Cur) (a1:Int):Rs :=
 (bif (decide (a1≤0)) then
 (some (a0,(0,())))
 else
 (bif (decide (a1≤256)) then
 ((spec_l1Byte.f k a0).bind fun r1 =>
 (bif (decide (a1=0)) then none else
 (some (r1.1,((Int.tmod r1.2.1 a1),())))))
 else
 ((spec_l1Byte.f k a0).bind fun r2 =>
 ((spec_l1Byte.f k r2.1).bind fun r3 =>
 ((spec_l1Byte.f k r3.1).bind fun r4 =>
 ((spec_l1Byte.f k r4.1).bind fun r5 =>
 (bif (decide (a1=0)) then none else
 (some (r5.1,((Int.tmod (w64 ((w64 ((w64 ((w64 (r2.2.1*16777216))+(w64 (r3.2.1*65536))))+(w64 (r4.2.1*256))))+r5.2.1)) a1),()))))))))))
def f (k:Nat):=t k
end spec_l1Below
namespace spec_l1Pick
abbrev Rs:Type:=Option ((Ty.den Tl1Cur) × ByteArray × Unit)
def t (k:Nat) (a0:Ty.den Tl1Cur) (a1:List ByteArray):Rs :=
 ((spec_l1Below.f k a0 (List.length a1:Int)).bind fun r1 =>
 (inb r1.2.1 (List.length a1:Int)
 (some (r1.1,((List.getD a1 (Int.toNat r1.2.1) (Ty.dflt .str)),())))))
def f (k:Nat):=t k
end spec_l1Pick
namespace spec_l5Key
abbrev Rs:Type:=Option ((Ty.den Tl1Cur) × ByteArray × Unit)
def t (k:Nat) (a0:Ty.den Tl1Cur):Rs :=
 ((spec_l1Pick.f k a0 [(⟨#[97]⟩:ByteArray),(⟨#[98]⟩:ByteArray),(⟨#[99]⟩:ByteArray),(⟨#[107,101,121]⟩:ByteArray),(⟨#[108,111,110,103,110,97,109,101]⟩:ByteArray)]).bind fun r1 =>
 (some r1))
def f (k:Nat):=t k
end spec_l5Key
namespace spec_l1Text
abbrev Rs:Type:=Option ((Ty.den Tl1Cur) × ByteArray × Unit)
abbrev T0:Type:=Int→Int→List Int→Int→Int→List Int→Rs
def b0 (k:Nat) (L0:T0):T0:=fun x0 x1 x2 x3 x4 x5 =>
 (bif (decide (x1 > 0)) then
 ((spec_l1Byte.f k (x2,(x3,(x4,())))).bind fun r3 =>
 (bif (x0==1) then
 (bif (x0==2) then
 (rm (Ty.bytes (.int .u8)) (List.length x5+1)
 (L0 x0 (w64 (x1-1)) r3.1.1 r3.1.2.1 r3.1.2.2.1 (x5++[(IntKind.wrap .u8 (w64 (97+(Int.tmod (Int.tmod r3.2.1 2) 4))))])))
 else
 (rm (Ty.bytes (.int .u8)) (List.length x5+1)
 (L0 x0 (w64 (x1-1)) r3.1.1 r3.1.2.1 r3.1.2.2.1 (x5++[(IntKind.wrap .u8 (Int.tmod r3.2.1 2))]))))
 else
 (bif (x0==2) then
 (rm (Ty.bytes (.int .u8)) (List.length x5+1)
 (L0 x0 (w64 (x1-1)) r3.1.1 r3.1.2.1 r3.1.2.2.1 (x5++[(IntKind.wrap .u8 (w64 (97+(Int.tmod r3.2.1 4))))])))
 else
 (rm (Ty.bytes (.int .u8)) (List.length x5+1)
 (L0 x0 (w64 (x1-1)) r3.1.1 r3.1.2.1 r3.1.2.2.1 (x5++[(IntKind.wrap .u8 r3.2.1)]))))))
 else
 (some ((x2,(x3,(x4,()))),((bytesOf x5),()))))
def l0 (k:Nat):Nat→T0
 | 0=>fun _ _ _ _ _ _=>none
 | n+1=>b0 k (l0 k n)
def t (k:Nat) (L0:T0) (a0:Ty.den Tl1Cur) (a1:Int):Rs :=
 ((spec_l1Below.f k a0 4).bind fun r1 =>
 ((spec_l1Below.f k r1.1 (w64 (a1+1))).bind fun r2 =>
 (L0 r1.2.1 r2.2.1 r2.1.1 r2.1.2.1 r2.1.2.2.1 [])))
def f (k:Nat):=t k (l0 k k)
end spec_l1Text
namespace spec_l13Set
abbrev Rs:Type:=Option ((List (Ty.den TPair)) × Unit)
abbrev T0:Type:=List (Ty.den TPair)→Bool→Int→ByteArray→ByteArray→Int→List (Ty.den TPair)→Rs
def b0 (k:Nat) (L0:T0):T0:=fun x0 x1 x2 x3 x4 x5 x6 =>
 (bif (decide (x2<(x0.length:Int))) then
 (inb x2 (x0.length:Int)
 (bif (seq (List.getD x0 (Int.toNat x2) (Ty.dflt TPair)).1 x3) then
 (L0 x0 x1 (w64 (x2+1)) x3 x4 x5 x6)
 else
 (bif (!x1) then
 (inb x2 (x0.length:Int)
 (bif (!((sls (List.getD x0 (Int.toNat x2) (Ty.dflt TPair)).1 x3)||(seq (List.getD x0 (Int.toNat x2) (Ty.dflt TPair)).1 x3))) then
 (rm (Ty.bytes TPair) (List.length x6+1)
 (inb x2 (x0.length:Int)
 (rm (Ty.bytes TPair) (List.length (x6++[(x3,(x4,(x5,())))])+1)
 (L0 x0 true (w64 (x2+1)) x3 x4 x5 ((x6++[(x3,(x4,(x5,())))])++[(List.getD x0 (Int.toNat x2) (Ty.dflt TPair))])))))
 else
 (inb x2 (x0.length:Int)
 (rm (Ty.bytes TPair) (List.length x6+1)
 (L0 x0 x1 (w64 (x2+1)) x3 x4 x5 (x6++[(List.getD x0 (Int.toNat x2) (Ty.dflt TPair))]))))))
 else
 (inb x2 (x0.length:Int)
 (rm (Ty.bytes TPair) (List.length x6+1)
 (L0 x0 x1 (w64 (x2+1)) x3 x4 x5 (x6++[(List.getD x0 (Int.toNat x2) (Ty.dflt TPair))])))))))
 else
 (bif (!x1) then
 (rm (Ty.bytes TPair) (List.length x6+1)
 (some ((x6++[(x3,(x4,(x5,())))]),())))
 else
 (some (x6,()))))
def l0 (k:Nat):Nat→T0
 | 0=>fun _ _ _ _ _ _ _=>none
 | n+1=>b0 k (l0 k n)
def t (k:Nat) (L0:T0) (a0:List (Ty.den TPair)) (a1:Ty.den TPair) (a2:Bool):Rs :=
 (L0 a0 a2 0 a1.1 a1.2.1 a1.2.2.1 [])
def f (k:Nat):=t k (l0 k k)
end spec_l13Set
namespace spec_l13Pairs
abbrev Rs:Type:=Option ((Ty.den Tl1Cur) × (List (Ty.den TPair)) × Unit)
abbrev T0:Type:=Int→List Int→Int→Int→List (Ty.den TPair)→Rs
def b0 (k:Nat) (L0:T0):T0:=fun x0 x1 x2 x3 x4 =>
 (bif (decide (x0 > 0)) then
 ((spec_l5Key.f k (x1,(x2,(x3,())))).bind fun r2 =>
 ((spec_l1Text.f k r2.1 4).bind fun r3 =>
 ((spec_l1Below.f k r3.1 9).bind fun r4 =>
 ((spec_l13Set.f k x4 (r2.2.1,(r3.2.1,((w64 (1+r4.2.1)),()))) false).bind fun r5 =>
 (L0 (w64 (x0-1)) r4.1.1 r4.1.2.1 r4.1.2.2.1 r5.1)))))
 else
 (some ((x1,(x2,(x3,()))),(x4,()))))
def l0 (k:Nat):Nat→T0
 | 0=>fun _ _ _ _ _=>none
 | n+1=>b0 k (l0 k n)
def t (k:Nat) (L0:T0) (a0:Ty.den Tl1Cur):Rs :=
 ((spec_l1Below.f k a0 6).bind fun r1 =>
 (L0 r1.2.1 r1.1.1 r1.1.2.1 r1.1.2.2.1 []))
def f (k:Nat):=t k (l0 k k)
end spec_l13Pairs
namespace spec_Dec
abbrev Rs:Type:=Option (ByteArray × Unit)
abbrev T0:Type:=Int→ByteArray→Bool→Rs
def b0 (k:Nat) (L0:T0):T0:=fun x0 x1 x2 =>
 (bif (x0 != 0) then
 (bif (decide ((Int.tmod x0 10)<0)) then
 (cat (bytesOf [(IntKind.wrap .u8 (w64 (48+(w64 (0-(Int.tmod x0 10))))))]) x1
 (L0 (w64 (Int.tdiv x0 10)) ((bytesOf [(IntKind.wrap .u8 (w64 (48+(w64 (0-(Int.tmod x0 10))))))])++x1) x2))
 else
 (cat (bytesOf [(IntKind.wrap .u8 (w64 (48+(Int.tmod x0 10))))]) x1
 (L0 (w64 (Int.tdiv x0 10)) ((bytesOf [(IntKind.wrap .u8 (w64 (48+(Int.tmod x0 10))))])++x1) x2)))
 else
 (bif x2 then
 (cat (⟨#[45]⟩:ByteArray) x1
 (some (((⟨#[45]⟩:ByteArray)++x1),())))
 else
 (some (x1,()))))
def l0 (k:Nat):Nat→T0
 | 0=>fun _ _ _=>none
 | n+1=>b0 k (l0 k n)
def t (k:Nat) (L0:T0) (a0:Int):Rs :=
 (bif (a0==0) then
 (some ((⟨#[48]⟩:ByteArray),()))
 else
 (L0 a0 (⟨#[]⟩:ByteArray) (decide (a0<0))))
def f (k:Nat):=t k (l0 k k)
end spec_Dec
namespace spec_l1PickInt
abbrev Rs:Type:=Option ((Ty.den Tl1Cur) × Int × Unit)
def t (k:Nat) (a0:Ty.den Tl1Cur) (a1:List Int):Rs :=
 ((spec_l1Below.f k a0 (List.length a1:Int)).bind fun r1 =>
 (inb r1.2.1 (List.length a1:Int)
 (some (r1.1,((List.getD a1 (Int.toNat r1.2.1) (Ty.dflt (.int .i64))),())))))
def f (k:Nat):=t k
end spec_l1PickInt
namespace spec_l24Any
abbrev Rs:Type:=Option ((Ty.den Tl1Cur) × (List (Ty.den TPair)) × Unit)
abbrev T0:Type:=Int→List Int→Int→Int→List (Ty.den TPair)→Rs
def b0 (k:Nat) (L0:T0):T0:=fun x0 x1 x2 x3 x4 =>
 ((spec_l1Below.f k (x1,(x2,(x3,()))) 2).bind fun r4 =>
 (bif (decide ((x4.length:Int)<(w64 (20+r4.2.1)))) then
 (bif (decide (x0<40)) then
 ((spec_Dec.f k (w64 (100+x0))).bind fun r5 =>
 (cat (⟨#[122]⟩:ByteArray) r5.1
 (rm (Ty.bytes TPair) (List.length x4+1)
 (L0 (w64 (x0+1)) r4.1.1 r4.1.2.1 r4.1.2.2.1 (x4++[(((⟨#[122]⟩:ByteArray)++r5.1),(ByteArray.empty,(1,())))])))))
 else
 (some (r4.1,(x4,()))))
 else
 (some (r4.1,(x4,())))))
def l0 (k:Nat):Nat→T0
 | 0=>fun _ _ _ _ _=>none
 | n+1=>b0 k (l0 k n)
def t (k:Nat) (L0:T0) (a0:Ty.den Tl1Cur):Rs :=
 ((spec_l13Pairs.f k a0).bind fun r1 =>
 ((spec_l1Below.f k r1.1 10).bind fun r2 =>
 (bif (r2.2.1==0) then
 ((spec_l1Pick.f k r2.1 [(⟨#[]⟩:ByteArray),(⟨#[97]⟩:ByteArray),(⟨#[110,105,110,101,98,121,116,101,115]⟩:ByteArray),(⟨#[122,122]⟩:ByteArray)]).bind fun r3 =>
 (rm (Ty.bytes TPair) (List.length r1.2.1+1)
 (some (r3.1,((r1.2.1++[(r3.2.1,(ByteArray.empty,(1,())))]),())))))
 else
 (bif (r2.2.1==1) then
 (L0 0 r2.1.1 r2.1.2.1 r2.1.2.2.1 r1.2.1)
 else
 (bif (r2.2.1==2) then
 (bif (decide ((List.length r1.2.1:Int) > 0)) then
 ((spec_l1PickInt.f k r2.1 [0,1000001]).bind fun r6 =>
 (inb 0 (List.length r1.2.1:Int)
 (let l7:=(List.set r1.2.1 0 ((List.getD r1.2.1 0 (Ty.dflt TPair)).1,((List.getD r1.2.1 0 (Ty.dflt TPair)).2.1,r6.2)));
 (some (r6.1,(l7,()))))))
 else
 (some (r2.1,r1.2)))
 else
 (some (r2.1,r1.2)))))))
def f (k:Nat):=t k (l0 k k)
end spec_l24Any
namespace spec_DrawShowPairs
abbrev Rs:Type:=Option ((List (Ty.den TPair)) × Unit)
def t (k:Nat) (a0:List Int):Rs :=
 ((spec_l1New.f k a0).bind fun r1 =>
 ((spec_l24Any.f k r1.2.1).bind fun r2 =>
 (some r2.2)))
def f (k:Nat):=t k
end spec_DrawShowPairs
namespace impl_in
abbrev Rs:Type:=Option (Bool × Unit)
def t (k:Nat) (a0:Int) (a1:Int) (a2:Int):Rs :=
 (bif (decide (a0≥a1)) then
 (some ((decide (a0≤a2)),()))
 else
 (some (false,())))
def f (k:Nat):=t k
end impl_in
namespace impl_KeyOk
abbrev Rs:Type:=Option (Bool × Unit)
def t (k:Nat) (a0:ByteArray):Rs :=
 ((impl_in.f k (ByteArray.size a0:Int) 1 8).bind fun r1 =>
 (some r1))
def f (k:Nat):=t k
end impl_KeyOk
namespace impl_PairsOk
abbrev Rs:Type:=Option (Bool × Unit)
abbrev T0:Type:=List (Ty.den TPair)→List (Ty.den TPair)→Int→Int→Rs
def b0 (k:Nat) (L0:T0):T0:=fun x0 x1 x2 x3 =>
 (bif (decide (x3<x2)) then
 (inb x3 (x1.length:Int)
 ((impl_KeyOk.f k (List.getD x1 (Int.toNat x3) (Ty.dflt TPair)).1).bind fun r1 =>
 (bif (!r1.1) then
 (some (false,()))
 else
 (bif (decide ((ByteArray.size (List.getD x1 (Int.toNat x3) (Ty.dflt TPair)).2.1:Int) > 24)) then
 (some (false,()))
 else
 ((impl_in.f k (List.getD x1 (Int.toNat x3) (Ty.dflt TPair)).2.2.1 1 1000000).bind fun r2 =>
 (bif (!r2.1) then
 (some (false,()))
 else
 (bif (decide (x3 > 0)) then
 (inb (w64 (x3-1)) (x0.length:Int)
 (bif (!(sls (List.getD x0 (Int.toNat (w64 (x3-1))) (Ty.dflt TPair)).1 (List.getD x1 (Int.toNat x3) (Ty.dflt TPair)).1)) then
 (some (false,()))
 else
 (L0 x0 x1 x2 (w64 (x3+1)))))
 else
 (L0 x0 x1 x2 (w64 (x3+1))))))))))
 else
 (some ((decide ((x0.length:Int)≤20)),())))
def l0 (k:Nat):Nat→T0
 | 0=>fun _ _ _ _=>none
 | n+1=>b0 k (l0 k n)
def t (k:Nat) (L0:T0) (a0:List (Ty.den TPair)):Rs :=
 (L0 a0 a0 (List.length a0:Int) 0)
def f (k:Nat):=t k (l0 k k)
end impl_PairsOk
namespace impl_RecOk
abbrev Rs:Type:=Option (Bool × Unit)
def t (k:Nat) (a0:Ty.den TRec):Rs :=
 (bif (a0.1==1) then
 (bif (a0.1==1) then
 ((impl_KeyOk.f k a0.2.2.1).bind fun r1 =>
 (bif r1.1 then
 (bif (decide ((ByteArray.size a0.2.2.2.1:Int)≤24)) then
 ((impl_in.f k a0.2.1 1 1000000).bind fun r2 =>
 (bif r2.1 then
 (some (((a0.1==a0.1)&&((a0.2.1==a0.2.1)&&((seq a0.2.2.1 a0.2.2.1)&&((seq a0.2.2.2.1 a0.2.2.2.1)&&((a0.2.2.2.2.1==0)&&(a0.2.2.2.2.2.1==0)))))),()))
 else
 (some (false,()))))
 else
 (some (false,())))
 else
 (some (false,()))))
 else
 (bif (a0.1==2) then
 ((impl_KeyOk.f k a0.2.2.1).bind fun r3 =>
 (bif r3.1 then
 ((impl_in.f k a0.2.1 1 1000000).bind fun r4 =>
 (bif r4.1 then
 (some (((a0.1==a0.1)&&((a0.2.1==a0.2.1)&&((seq a0.2.2.1 a0.2.2.1)&&((seq a0.2.2.2.1 ByteArray.empty)&&((a0.2.2.2.2.1==0)&&(a0.2.2.2.2.2.1==0)))))),()))
 else
 (some (false,()))))
 else
 (some (false,()))))
 else
 (bif (a0.1==3) then
 ((impl_in.f k a0.2.2.2.2.1 0 8).bind fun r5 =>
 (bif r5.1 then
 ((impl_in.f k a0.2.2.2.2.2.1 0 4294967295).bind fun r6 =>
 (bif r6.1 then
 ((impl_in.f k a0.2.1 1 1000000).bind fun r7 =>
 (bif r7.1 then
 (some (((a0.1==a0.1)&&((a0.2.1==a0.2.1)&&((seq a0.2.2.1 ByteArray.empty)&&((seq a0.2.2.2.1 ByteArray.empty)&&((a0.2.2.2.2.1==a0.2.2.2.2.1)&&(a0.2.2.2.2.2.1==a0.2.2.2.2.2.1)))))),()))
 else
 (some (false,()))))
 else
 (some (false,()))))
 else
 (some (false,()))))
 else
 (bif (a0.1==5) then
 ((impl_in.f k a0.2.2.2.2.1 0 20).bind fun r8 =>
 (bif r8.1 then
 ((impl_in.f k a0.2.2.2.2.2.1 0 4294967295).bind fun r9 =>
 (bif r9.1 then
 ((impl_in.f k a0.2.1 0 1000000).bind fun r10 =>
 (bif r10.1 then
 (some (((a0.1==a0.1)&&((a0.2.1==a0.2.1)&&((seq a0.2.2.1 ByteArray.empty)&&((seq a0.2.2.2.1 ByteArray.empty)&&((a0.2.2.2.2.1==a0.2.2.2.2.1)&&(a0.2.2.2.2.2.1==a0.2.2.2.2.2.1)))))),()))
 else
 (some (false,()))))
 else
 (some (false,()))))
 else
 (some (false,()))))
 else
 (some (false,()))))))
 else
 (bif (a0.1==4) then
 ((impl_KeyOk.f k a0.2.2.1).bind fun r11 =>
 (bif r11.1 then
 (bif (decide ((ByteArray.size a0.2.2.2.1:Int)≤24)) then
 ((impl_in.f k a0.2.1 1 1000000).bind fun r12 =>
 (bif r12.1 then
 (some (((a0.1==a0.1)&&((a0.2.1==a0.2.1)&&((seq a0.2.2.1 a0.2.2.1)&&((seq a0.2.2.2.1 a0.2.2.2.1)&&((a0.2.2.2.2.1==0)&&(a0.2.2.2.2.2.1==0)))))),()))
 else
 (some (false,()))))
 else
 (some (false,())))
 else
 (some (false,()))))
 else
 (bif (a0.1==2) then
 ((impl_KeyOk.f k a0.2.2.1).bind fun r13 =>
 (bif r13.1 then
 ((impl_in.f k a0.2.1 1 1000000).bind fun r14 =>
 (bif r14.1 then
 (some (((a0.1==a0.1)&&((a0.2.1==a0.2.1)&&((seq a0.2.2.1 a0.2.2.1)&&((seq a0.2.2.2.1 ByteArray.empty)&&((a0.2.2.2.2.1==0)&&(a0.2.2.2.2.2.1==0)))))),()))
 else
 (some (false,()))))
 else
 (some (false,()))))
 else
 (bif (a0.1==3) then
 ((impl_in.f k a0.2.2.2.2.1 0 8).bind fun r15 =>
 (bif r15.1 then
 ((impl_in.f k a0.2.2.2.2.2.1 0 4294967295).bind fun r16 =>
 (bif r16.1 then
 ((impl_in.f k a0.2.1 1 1000000).bind fun r17 =>
 (bif r17.1 then
 (some (((a0.1==a0.1)&&((a0.2.1==a0.2.1)&&((seq a0.2.2.1 ByteArray.empty)&&((seq a0.2.2.2.1 ByteArray.empty)&&((a0.2.2.2.2.1==a0.2.2.2.2.1)&&(a0.2.2.2.2.2.1==a0.2.2.2.2.2.1)))))),()))
 else
 (some (false,()))))
 else
 (some (false,()))))
 else
 (some (false,()))))
 else
 (bif (a0.1==5) then
 ((impl_in.f k a0.2.2.2.2.1 0 20).bind fun r18 =>
 (bif r18.1 then
 ((impl_in.f k a0.2.2.2.2.2.1 0 4294967295).bind fun r19 =>
 (bif r19.1 then
 ((impl_in.f k a0.2.1 0 1000000).bind fun r20 =>
 (bif r20.1 then
 (some (((a0.1==a0.1)&&((a0.2.1==a0.2.1)&&((seq a0.2.2.1 ByteArray.empty)&&((seq a0.2.2.2.1 ByteArray.empty)&&((a0.2.2.2.2.1==a0.2.2.2.2.1)&&(a0.2.2.2.2.2.1==a0.2.2.2.2.2.1)))))),()))
 else
 (some (false,()))))
 else
 (some (false,()))))
 else
 (some (false,()))))
 else
 (some (false,())))))))
def f (k:Nat):=t k
end impl_RecOk
namespace impl_Var
abbrev Rs:Type:=Option (ByteArray × Unit)
abbrev T0:Type:=Int→List Int→Rs
def b0 (k:Nat) (L0:T0):T0:=fun x0 x1 =>
 (bif (decide (x0 > 127)) then
 (rm (Ty.bytes (.int .u8)) (List.length x1+1)
 (L0 (w64 (Int.tdiv x0 128)) (x1++[(IntKind.wrap .u8 (w64 ((Int.tmod x0 128)+128)))])))
 else
 (rm (Ty.bytes (.int .u8)) (List.length x1+1)
 (some ((bytesOf (x1++[(IntKind.wrap .u8 x0)])),()))))
def l0 (k:Nat):Nat→T0
 | 0=>fun _ _=>none
 | n+1=>b0 k (l0 k n)
def t (k:Nat) (L0:T0) (a0:Int):Rs :=
 ((impl_in.f k a0 0 562949953421311).bind fun r1 =>
 (bif (!r1.1) then
 (some ((⟨#[]⟩:ByteArray),()))
 else
 (L0 a0 [])))
def f (k:Nat):=t k (l0 k k)
end impl_Var
namespace impl_vars
abbrev Rs:Type:=Option (ByteArray × Unit)
abbrev T0:Type:=ByteArray→List Int→Int→Int→Rs
def b0 (k:Nat) (L0:T0):T0:=fun x0 x1 x2 x3 =>
 (bif (decide (x3<x2)) then
 (inb x3 (x1.length:Int)
 ((impl_Var.f k (List.getD x1 (Int.toNat x3) (Ty.dflt (.int .i64)))).bind fun r1 =>
 (cat x0 r1.1
 (L0 (x0++r1.1) x1 x2 (w64 (x3+1))))))
 else
 (some (x0,())))
def l0 (k:Nat):Nat→T0
 | 0=>fun _ _ _ _=>none
 | n+1=>b0 k (l0 k n)
def t (k:Nat) (L0:T0) (a0:List Int):Rs :=
 (L0 (⟨#[]⟩:ByteArray) a0 (List.length a0:Int) 0)
def f (k:Nat):=t k (l0 k k)
end impl_vars
namespace impl_textOf
abbrev Rs:Type:=Option (ByteArray × Unit)
def t (k:Nat) (a0:ByteArray):Rs :=
 ((impl_Var.f k (ByteArray.size a0:Int)).bind fun r1 =>
 (cat r1.1 a0
 (some ((r1.1++a0),()))))
def f (k:Nat):=t k
end impl_textOf
namespace impl_Fixed
abbrev Rs:Type:=Option (ByteArray × Unit)
abbrev T0:Type:=Int→Int→List Int→Rs
def b0 (k:Nat) (L0:T0):T0:=fun x0 x1 x2 =>
 (bif (decide (x1≥0)) then
 (bif (decide ((w64 (8*x1))<0)) then none else
 (rm (Ty.bytes (.int .u8)) (List.length x2+1)
 (L0 x0 (w64 (x1-1)) (x2++[(IntKind.wrap .u8 (Int.fdiv x0 (2 ^ (min (Int.toNat (w64 (8*x1))) (IntKind.bits .i64)))))]))))
 else
 (some ((bytesOf x2),())))
def l0 (k:Nat):Nat→T0
 | 0=>fun _ _ _=>none
 | n+1=>b0 k (l0 k n)
def t (k:Nat) (L0:T0) (a0:Int) (a1:Int):Rs :=
 ((impl_in.f k a1 1 7).bind fun r1 =>
 (bif (!r1.1) then
 (some ((⟨#[]⟩:ByteArray),()))
 else
 (bif (decide ((w64 (8*a1))<0)) then none else
 ((impl_in.f k a0 0 (w64 ((w64 (1*2 ^ (min (Int.toNat (w64 (8*a1))) (IntKind.bits .i64))))-1))).bind fun r2 =>
 (bif (!r2.1) then
 (some ((⟨#[]⟩:ByteArray),()))
 else
 (L0 a0 (w64 (a1-1)) []))))))
def f (k:Nat):=t k (l0 k k)
end impl_Fixed
namespace impl_ShowRec
abbrev Rs:Type:=Option (ByteArray × Unit)
def t (k:Nat) (a0:Ty.den TRec):Rs :=
 ((impl_RecOk.f k a0).bind fun r1 =>
 (bif (!r1.1) then
 (some ((⟨#[]⟩:ByteArray),()))
 else
 ((impl_vars.f k [a0.1,a0.2.1]).bind fun r2 =>
 (bif (a0.1==1) then
 (bif (a0.1==1) then
 ((impl_textOf.f k a0.2.2.1).bind fun r3 =>
 (cat r2.1 r3.1
 ((impl_textOf.f k a0.2.2.2.1).bind fun r4 =>
 (cat (r2.1++r3.1) r4.1
 (some (((r2.1++r3.1)++r4.1),()))))))
 else
 (bif (a0.1==2) then
 ((impl_textOf.f k a0.2.2.1).bind fun r5 =>
 (cat r2.1 r5.1
 (some ((r2.1++r5.1),()))))
 else
 ((impl_Var.f k a0.2.2.2.2.1).bind fun r6 =>
 (cat r2.1 r6.1
 ((impl_Fixed.f k a0.2.2.2.2.2.1 4).bind fun r7 =>
 (cat (r2.1++r6.1) r7.1
 (some (((r2.1++r6.1)++r7.1),()))))))))
 else
 (bif (a0.1==4) then
 ((impl_textOf.f k a0.2.2.1).bind fun r8 =>
 (cat r2.1 r8.1
 ((impl_textOf.f k a0.2.2.2.1).bind fun r9 =>
 (cat (r2.1++r8.1) r9.1
 (some (((r2.1++r8.1)++r9.1),()))))))
 else
 (bif (a0.1==2) then
 ((impl_textOf.f k a0.2.2.1).bind fun r10 =>
 (cat r2.1 r10.1
 (some ((r2.1++r10.1),()))))
 else
 ((impl_Var.f k a0.2.2.2.2.1).bind fun r11 =>
 (cat r2.1 r11.1
 ((impl_Fixed.f k a0.2.2.2.2.2.1 4).bind fun r12 =>
 (cat (r2.1++r11.1) r12.1
 (some (((r2.1++r11.1)++r12.1),()))))))))))))
def f (k:Nat):=t k
end impl_ShowRec
namespace impl_Crc
abbrev Rs:Type:=Option (Int × Unit)
abbrev T1:Type:=ByteArray→Int→Int→Int→Rs
abbrev T0:Type:=ByteArray→Int→Int→Rs
def b1 (k:Nat) (L0:T0) (L1:T1):T1:=fun x0 x1 x2 x3 =>
 (bif (decide (x3<8)) then
 (bif ((IntKind.wrap .u32 (((BitVec.ofInt (IntKind.bits .u32) x1 &&& BitVec.ofInt (IntKind.bits .u32) 1).toNat:Int)))==1) then
 (L1 x0 (IntKind.wrap .u32 (((BitVec.ofInt (IntKind.bits .u32) (Int.fdiv x1 (2 ^ (Int.toNat 1))) ^^^ BitVec.ofInt (IntKind.bits .u32) 2197175160).toNat:Int))) x2 (w64 (x3+1)))
 else
 (L1 x0 (Int.fdiv x1 (2 ^ (Int.toNat 1))) x2 (w64 (x3+1))))
 else
 (L0 x0 x1 (w64 (x2+1))))
def l1 (k:Nat) (L0:T0):Nat→T1
 | 0=>fun _ _ _ _=>none
 | n+1=>b1 k L0 (l1 k L0 n)
def b0 (k:Nat) (L1:T1) (L0:T0):T0:=fun x0 x1 x2 =>
 (bif (decide (x2<(ByteArray.size x0:Int))) then
 (inb x2 (ByteArray.size x0:Int)
 (L1 x0 (IntKind.wrap .u32 (((BitVec.ofInt (IntKind.bits .u32) x1 ^^^ BitVec.ofInt (IntKind.bits .u32) (IntKind.wrap .u32 (byteAt x0 x2))).toNat:Int))) x2 0))
 else
 (some ((w64 (bitNot .u32 x1)),())))
def l0 (k:Nat):Nat→T0
 | 0=>fun _ _ _=>none
 | n+1=>b0 k (l1 k (l0 k n) k) (l0 k n)
def t (k:Nat) (L0:T0) (a0:ByteArray):Rs :=
 (L0 a0 4294967295 0)
def f (k:Nat):=t k (l0 k k)
end impl_Crc
namespace impl_SumOf
abbrev Rs:Type:=Option (Int × Unit)
abbrev T0:Type:=ByteArray→List (Ty.den TRec)→Int→Int→Rs
def b0 (k:Nat) (L0:T0):T0:=fun x0 x1 x2 x3 =>
 (bif (decide (x3<x2)) then
 (inb x3 (x1.length:Int)
 ((impl_ShowRec.f k (List.getD x1 (Int.toNat x3) (Ty.dflt TRec))).bind fun r1 =>
 (cat x0 r1.1
 (L0 (x0++r1.1) x1 x2 (w64 (x3+1))))))
 else
 ((impl_Crc.f k x0).bind fun r2 =>
 (some r2)))
def l0 (k:Nat):Nat→T0
 | 0=>fun _ _ _ _=>none
 | n+1=>b0 k (l0 k n)
def t (k:Nat) (L0:T0) (a0:List (Ty.den TRec)):Rs :=
 (L0 (⟨#[]⟩:ByteArray) a0 (List.length a0:Int) 0)
def f (k:Nat):=t k (l0 k k)
end impl_SumOf
namespace impl_keeps
abbrev Rs:Type:=Option ((List (Ty.den TRec)) × Unit)
abbrev T0:Type:=List (Ty.den TPair)→Int→List (Ty.den TPair)→Int→Int→List (Ty.den TRec)→Rs
def b0 (k:Nat) (L0:T0):T0:=fun x0 x1 x2 x3 x4 x5 =>
 (bif (decide (x4<x3)) then
 (inb x4 (x2.length:Int)
 (rm (Ty.bytes TRec) (List.length x5+1)
 (L0 x0 x1 x2 x3 (w64 (x4+1)) (x5++[(4,((List.getD x2 (Int.toNat x4) (Ty.dflt TPair)).2.2.1,((List.getD x2 (Int.toNat x4) (Ty.dflt TPair)).1,((List.getD x2 (Int.toNat x4) (Ty.dflt TPair)).2.1,(0,(0,()))))))]))))
 else
 ((impl_SumOf.f k x5).bind fun r1 =>
 (rm (Ty.bytes TRec) (List.length x5+1)
 (some ((x5++[(5,(x1,(ByteArray.empty,(ByteArray.empty,((x0.length:Int),r1)))))]),())))))
def l0 (k:Nat):Nat→T0
 | 0=>fun _ _ _ _ _ _=>none
 | n+1=>b0 k (l0 k n)
def t (k:Nat) (L0:T0) (a0:List (Ty.den TPair)) (a1:Int):Rs :=
 (L0 a0 a1 a0 (List.length a0:Int) 0 [])
def f (k:Nat):=t k (l0 k k)
end impl_keeps
namespace impl_Frame
abbrev Rs:Type:=Option (ByteArray × Unit)
def t (k:Nat) (a0:ByteArray):Rs :=
 (bif (decide ((ByteArray.size a0:Int) > 200)) then
 (some ((⟨#[]⟩:ByteArray),()))
 else
 ((impl_textOf.f k a0).bind fun r1 =>
 ((impl_Crc.f k r1.1).bind fun r2 =>
 ((impl_Fixed.f k r2.1 4).bind fun r3 =>
 (cat r3.1 r1.1
 (some ((r3.1++r1.1),())))))))
def f (k:Nat):=t k
end impl_Frame
namespace impl_ShowPairs
abbrev Rs:Type:=Option (ByteArray × Unit)
abbrev T0:Type:=ByteArray→Int→Int→List (Ty.den TRec)→Rs
def b0 (k:Nat) (L0:T0):T0:=fun x0 x1 x2 x3 =>
 (bif (decide (x2<x1)) then
 (inb x2 (x3.length:Int)
 ((impl_ShowRec.f k (List.getD x3 (Int.toNat x2) (Ty.dflt TRec))).bind fun r3 =>
 ((impl_Frame.f k r3.1).bind fun r4 =>
 (cat x0 r4.1
 (L0 (x0++r4.1) x1 (w64 (x2+1)) x3)))))
 else
 (some (x0,())))
def l0 (k:Nat):Nat→T0
 | 0=>fun _ _ _ _=>none
 | n+1=>b0 k (l0 k n)
def t (k:Nat) (L0:T0) (a0:List (Ty.den TPair)):Rs :=
 ((impl_PairsOk.f k a0).bind fun r1 =>
 (bif (!r1.1) then
 (some ((⟨#[]⟩:ByteArray),()))
 else
 ((impl_keeps.f k a0 0).bind fun r2 =>
 (L0 (⟨#[]⟩:ByteArray) (List.length r2.1:Int) 0 r2.1))))
def f (k:Nat):=t k (l0 k k)
end impl_ShowPairs
namespace impl_ReadVar
abbrev Rs:Type:=Option (Int × Int × Unit)
abbrev T0:Type:=ByteArray→Int→Int→Rs
def b0 (k:Nat) (L0:T0):T0:=fun x0 x1 x2 =>
 (bif (decide (x2<7)) then
 (bif (decide (x2<(ByteArray.size x0:Int))) then
 (inb x2 (ByteArray.size x0:Int)
 (bif (decide ((w64 (7*x2))<0)) then none else
 (bif (decide ((w64 (byteAt x0 x2))≥128)) then
 (L0 x0 (w64 (x1+(w64 ((Int.tmod (w64 (byteAt x0 x2)) 128)*2 ^ (min (Int.toNat (w64 (7*x2))) (IntKind.bits .i64)))))) (w64 (x2+1)))
 else
 (bif ((w64 (byteAt x0 x2))==0) then
 (bif (decide (x2 > 0)) then
 (some (0,(0,())))
 else
 (some ((w64 (x1+(w64 ((Int.tmod (w64 (byteAt x0 x2)) 128)*2 ^ (min (Int.toNat (w64 (7*x2))) (IntKind.bits .i64)))))),((w64 (x2+1)),()))))
 else
 (some ((w64 (x1+(w64 ((Int.tmod (w64 (byteAt x0 x2)) 128)*2 ^ (min (Int.toNat (w64 (7*x2))) (IntKind.bits .i64)))))),((w64 (x2+1)),())))))))
 else
 (some (0,(0,()))))
 else
 (some (0,(0,()))))
def l0 (k:Nat):Nat→T0
 | 0=>fun _ _ _=>none
 | n+1=>b0 k (l0 k n)
def t (k:Nat) (L0:T0) (a0:ByteArray):Rs :=
 (L0 a0 0 0)
def f (k:Nat):=t k (l0 k k)
end impl_ReadVar
namespace impl_Unframe
abbrev Rs:Type:=Option (ByteArray × Int × Unit)
def t (k:Nat) (a0:ByteArray):Rs :=
 (bif (decide ((ByteArray.size a0:Int)<4)) then
 (some ((⟨#[]⟩:ByteArray),(0,())))
 else
 (inc 4 (ByteArray.size a0:Int)
 ((impl_ReadVar.f k (ByteArray.extract a0 4 (ByteArray.size a0))).bind fun r1 =>
 (bif (r1.2.1==0) then
 (some ((⟨#[]⟩:ByteArray),(0,())))
 else
 (bif (decide (r1.1 > 200)) then
 (some ((⟨#[]⟩:ByteArray),(0,())))
 else
 (bif (decide (r1.1 > (w64 ((w64 ((ByteArray.size a0:Int)-4))-r1.2.1)))) then
 (some ((⟨#[]⟩:ByteArray),(0,())))
 else
 (inc2 (w64 (4+r1.2.1)) (w64 ((w64 (4+r1.2.1))+r1.1)) (ByteArray.size a0:Int)
 ((impl_Frame.f k (ByteArray.extract a0 (Int.toNat (w64 (4+r1.2.1))) (Int.toNat (w64 ((w64 (4+r1.2.1))+r1.1))))).bind fun r2 =>
 (inc (w64 ((w64 (4+r1.2.1))+r1.1)) (ByteArray.size a0:Int)
 (bif (!(seq r2.1 (ByteArray.extract a0 0 (Int.toNat (w64 ((w64 (4+r1.2.1))+r1.1)))))) then
 (some ((⟨#[]⟩:ByteArray),(0,())))
 else
 (some ((ByteArray.extract a0 (Int.toNat (w64 (4+r1.2.1))) (Int.toNat (w64 ((w64 (4+r1.2.1))+r1.1)))),((w64 ((w64 (4+r1.2.1))+r1.1)),())))))))))))))
def f (k:Nat):=t k
end impl_Unframe
namespace impl_scanner__num
abbrev Rs:Type:=Option ((Ty.den Tscanner) × Int × Unit)
def t (k:Nat) (a0:Ty.den Tscanner):Rs :=
 ((impl_ReadVar.f k a0.1).bind fun r1 =>
 (bif a0.2.1 then
 (some ((a0.1,(true,())),(0,())))
 else
 (bif (r1.2.1==0) then
 (some ((a0.1,(true,())),(0,())))
 else
 (inc r1.2.1 (ByteArray.size a0.1:Int)
 (some (((ByteArray.extract a0.1 (Int.toNat r1.2.1) (ByteArray.size a0.1)),a0.2),(r1.1,())))))))
def f (k:Nat):=t k
end impl_scanner__num
namespace impl_scanner__bytes
abbrev Rs:Type:=Option ((Ty.den Tscanner) × ByteArray × Unit)
def t (k:Nat) (a0:Ty.den Tscanner) (a1:Int):Rs :=
 (bif a0.2.1 then
 (some ((a0.1,(true,())),((⟨#[]⟩:ByteArray),())))
 else
 (bif (decide (a1 > (ByteArray.size a0.1:Int))) then
 (some ((a0.1,(true,())),((⟨#[]⟩:ByteArray),())))
 else
 (inc a1 (ByteArray.size a0.1:Int)
 (inc a1 (ByteArray.size a0.1:Int)
 (some (((ByteArray.extract a0.1 (Int.toNat a1) (ByteArray.size a0.1)),a0.2),((ByteArray.extract a0.1 0 (Int.toNat a1)),())))))))
def f (k:Nat):=t k
end impl_scanner__bytes
namespace impl_scanner__text
abbrev Rs:Type:=Option ((Ty.den Tscanner) × ByteArray × Unit)
def t (k:Nat) (a0:Ty.den Tscanner):Rs :=
 ((impl_scanner__num.f k a0).bind fun r1 =>
 ((impl_scanner__bytes.f k r1.1 r1.2.1).bind fun r2 =>
 (some r2)))
def f (k:Nat):=t k
end impl_scanner__text
namespace impl_ReadFixed
abbrev Rs:Type:=Option (Int × Bool × Unit)
abbrev T0:Type:=ByteArray→Int→Int→Int→Rs
def b0 (k:Nat) (L0:T0):T0:=fun x0 x1 x2 x3 =>
 (bif (decide (x3<x2)) then
 (inb x3 (ByteArray.size x0:Int)
 (L0 x0 (w64 (((BitVec.ofInt (IntKind.bits .i64) (w64 (x1*2 ^ (min (Int.toNat 8) (IntKind.bits .i64)))) ||| BitVec.ofInt (IntKind.bits .i64) (w64 (byteAt x0 x3))).toNat:Int))) x2 (w64 (x3+1))))
 else
 (some (x1,(true,()))))
def l0 (k:Nat):Nat→T0
 | 0=>fun _ _ _ _=>none
 | n+1=>b0 k (l0 k n)
def t (k:Nat) (L0:T0) (a0:ByteArray) (a1:Int):Rs :=
 ((impl_in.f k a1 1 7).bind fun r1 =>
 (bif (!r1.1) then
 (some (0,(false,())))
 else
 (bif (decide ((ByteArray.size a0:Int)<a1)) then
 (some (0,(false,())))
 else
 (L0 a0 0 a1 0))))
def f (k:Nat):=t k (l0 k k)
end impl_ReadFixed
namespace impl_ReadRec
abbrev Rs:Type:=Option ((Ty.den TRec) × Bool × Unit)
def t (k:Nat) (a0:ByteArray):Rs :=
 ((impl_scanner__num.f k (a0,(false,()))).bind fun r1 =>
 ((impl_scanner__num.f k r1.1).bind fun r2 =>
 (bif (r1.2.1==1) then
 (bif (r1.2.1==1) then
 ((impl_scanner__text.f k r2.1).bind fun r3 =>
 ((impl_scanner__text.f k r3.1).bind fun r4 =>
 (bif r4.1.2.1 then
 (some ((0,(0,(ByteArray.empty,(ByteArray.empty,(0,(0,())))))),(false,())))
 else
 (bif (!(seq r4.1.1 (⟨#[]⟩:ByteArray))) then
 (some ((0,(0,(ByteArray.empty,(ByteArray.empty,(0,(0,())))))),(false,())))
 else
 ((impl_RecOk.f k (r1.2.1,(r2.2.1,(r3.2.1,(r4.2.1,(0,(0,()))))))).bind fun r5 =>
 (bif (!r5.1) then
 (some ((0,(0,(ByteArray.empty,(ByteArray.empty,(0,(0,())))))),(false,())))
 else
 (some ((r1.2.1,(r2.2.1,(r3.2.1,(r4.2.1,(0,(0,())))))),(true,())))))))))
 else
 (bif (r1.2.1==2) then
 ((impl_scanner__text.f k r2.1).bind fun r6 =>
 (bif r6.1.2.1 then
 (some ((0,(0,(ByteArray.empty,(ByteArray.empty,(0,(0,())))))),(false,())))
 else
 (bif (!(seq r6.1.1 (⟨#[]⟩:ByteArray))) then
 (some ((0,(0,(ByteArray.empty,(ByteArray.empty,(0,(0,())))))),(false,())))
 else
 ((impl_RecOk.f k (r1.2.1,(r2.2.1,(r6.2.1,(ByteArray.empty,(0,(0,()))))))).bind fun r7 =>
 (bif (!r7.1) then
 (some ((0,(0,(ByteArray.empty,(ByteArray.empty,(0,(0,())))))),(false,())))
 else
 (some ((r1.2.1,(r2.2.1,(r6.2.1,(ByteArray.empty,(0,(0,())))))),(true,()))))))))
 else
 ((impl_scanner__num.f k r2.1).bind fun r8 =>
 ((impl_scanner__bytes.f k r8.1 4).bind fun r9 =>
 ((impl_ReadFixed.f k r9.2.1 4).bind fun r10 =>
 (bif r9.1.2.1 then
 (some ((0,(0,(ByteArray.empty,(ByteArray.empty,(0,(0,())))))),(false,())))
 else
 (bif (!(seq r9.1.1 (⟨#[]⟩:ByteArray))) then
 (some ((0,(0,(ByteArray.empty,(ByteArray.empty,(0,(0,())))))),(false,())))
 else
 ((impl_RecOk.f k (r1.2.1,(r2.2.1,(ByteArray.empty,(ByteArray.empty,(r8.2.1,(r10.1,()))))))).bind fun r11 =>
 (bif (!r11.1) then
 (some ((0,(0,(ByteArray.empty,(ByteArray.empty,(0,(0,())))))),(false,())))
 else
 (some ((r1.2.1,(r2.2.1,(ByteArray.empty,(ByteArray.empty,(r8.2.1,(r10.1,())))))),(true,()))))))))))))
 else
 (bif (r1.2.1==4) then
 ((impl_scanner__text.f k r2.1).bind fun r12 =>
 ((impl_scanner__text.f k r12.1).bind fun r13 =>
 (bif r13.1.2.1 then
 (some ((0,(0,(ByteArray.empty,(ByteArray.empty,(0,(0,())))))),(false,())))
 else
 (bif (!(seq r13.1.1 (⟨#[]⟩:ByteArray))) then
 (some ((0,(0,(ByteArray.empty,(ByteArray.empty,(0,(0,())))))),(false,())))
 else
 ((impl_RecOk.f k (r1.2.1,(r2.2.1,(r12.2.1,(r13.2.1,(0,(0,()))))))).bind fun r14 =>
 (bif (!r14.1) then
 (some ((0,(0,(ByteArray.empty,(ByteArray.empty,(0,(0,())))))),(false,())))
 else
 (some ((r1.2.1,(r2.2.1,(r12.2.1,(r13.2.1,(0,(0,())))))),(true,())))))))))
 else
 (bif (r1.2.1==2) then
 ((impl_scanner__text.f k r2.1).bind fun r15 =>
 (bif r15.1.2.1 then
 (some ((0,(0,(ByteArray.empty,(ByteArray.empty,(0,(0,())))))),(false,())))
 else
 (bif (!(seq r15.1.1 (⟨#[]⟩:ByteArray))) then
 (some ((0,(0,(ByteArray.empty,(ByteArray.empty,(0,(0,())))))),(false,())))
 else
 ((impl_RecOk.f k (r1.2.1,(r2.2.1,(r15.2.1,(ByteArray.empty,(0,(0,()))))))).bind fun r16 =>
 (bif (!r16.1) then
 (some ((0,(0,(ByteArray.empty,(ByteArray.empty,(0,(0,())))))),(false,())))
 else
 (some ((r1.2.1,(r2.2.1,(r15.2.1,(ByteArray.empty,(0,(0,())))))),(true,()))))))))
 else
 ((impl_scanner__num.f k r2.1).bind fun r17 =>
 ((impl_scanner__bytes.f k r17.1 4).bind fun r18 =>
 ((impl_ReadFixed.f k r18.2.1 4).bind fun r19 =>
 (bif r18.1.2.1 then
 (some ((0,(0,(ByteArray.empty,(ByteArray.empty,(0,(0,())))))),(false,())))
 else
 (bif (!(seq r18.1.1 (⟨#[]⟩:ByteArray))) then
 (some ((0,(0,(ByteArray.empty,(ByteArray.empty,(0,(0,())))))),(false,())))
 else
 ((impl_RecOk.f k (r1.2.1,(r2.2.1,(ByteArray.empty,(ByteArray.empty,(r17.2.1,(r19.1,()))))))).bind fun r20 =>
 (bif (!r20.1) then
 (some ((0,(0,(ByteArray.empty,(ByteArray.empty,(0,(0,())))))),(false,())))
 else
 (some ((r1.2.1,(r2.2.1,(ByteArray.empty,(ByteArray.empty,(r17.2.1,(r19.1,())))))),(true,())))))))))))))))
def f (k:Nat):=t k
end impl_ReadRec
namespace impl_ScanRecs
abbrev Rs:Type:=Option ((List (Ty.den TSpot)) × Int × Unit)
abbrev T0:Type:=ByteArray→Int→List (Ty.den TSpot)→Rs
def b0 (k:Nat) (L0:T0):T0:=fun x0 x1 x2 =>
 (inc x1 (ByteArray.size x0:Int)
 ((impl_Unframe.f k (ByteArray.extract x0 (Int.toNat x1) (ByteArray.size x0))).bind fun r1 =>
 ((impl_ReadRec.f k r1.1).bind fun r2 =>
 (bif (r1.2.1==0) then
 (some (x2,(x1,())))
 else
 (bif (!r2.2.1) then
 (some (x2,(x1,())))
 else
 (rm (Ty.bytes TSpot) (List.length x2+1)
 (L0 x0 (w64 (x1+r1.2.1)) (x2++[(x1,(r1.2.1,(r2.1,())))]))))))))
def l0 (k:Nat):Nat→T0
 | 0=>fun _ _ _=>none
 | n+1=>b0 k (l0 k n)
def t (k:Nat) (L0:T0) (a0:ByteArray):Rs :=
 (L0 a0 0 [])
def f (k:Nat):=t k (l0 k k)
end impl_ScanRecs
namespace impl_ReadPairs
abbrev Rs:Type:=Option ((List (Ty.den TPair)) × Bool × Unit)
abbrev T0:Type:=ByteArray→Int→Int→List (Ty.den TPair)→List (Ty.den TSpot)→Rs
def b0 (k:Nat) (L0:T0):T0:=fun x0 x1 x2 x3 x4 =>
 (bif (decide (x2<x1)) then
 (inb x2 (x4.length:Int)
 (bif ((List.getD x4 (Int.toNat x2) (Ty.dflt TSpot)).2.2.1.1==4) then
 (rm (Ty.bytes TPair) (List.length x3+1)
 (L0 x0 x1 (w64 (x2+1)) (x3++[((List.getD x4 (Int.toNat x2) (Ty.dflt TSpot)).2.2.1.2.2.1,((List.getD x4 (Int.toNat x2) (Ty.dflt TSpot)).2.2.1.2.2.2.1,((List.getD x4 (Int.toNat x2) (Ty.dflt TSpot)).2.2.1.2.1,())))]) x4))
 else
 (L0 x0 x1 (w64 (x2+1)) x3 x4)))
 else
 ((impl_ShowPairs.f k x3).bind fun r2 =>
 (bif (seq r2.1 (⟨#[]⟩:ByteArray)) then
 (some ([],(false,())))
 else
 (bif (!(seq r2.1 x0)) then
 (some ([],(false,())))
 else
 (some (x3,(true,())))))))
def l0 (k:Nat):Nat→T0
 | 0=>fun _ _ _ _ _=>none
 | n+1=>b0 k (l0 k n)
def t (k:Nat) (L0:T0) (a0:ByteArray):Rs :=
 ((impl_ScanRecs.f k a0).bind fun r1 =>
 (L0 a0 (List.length r1.1:Int) 0 [] r1.1))
def f (k:Nat):=t k (l0 k k)
end impl_ReadPairs
namespace spec_l1In
abbrev Rs:Type:=Option (Bool × Unit)
def t (k:Nat) (a0:Int) (a1:Int) (a2:Int):Rs :=
 (bif (decide (a0≥a1)) then
 (some ((decide (a0≤a2)),()))
 else
 (some (false,())))
def f (k:Nat):=t k
end spec_l1In
namespace spec_KeyOk
abbrev Rs:Type:=Option (Bool × Unit)
def t (k:Nat) (a0:ByteArray):Rs :=
 ((spec_l1In.f k (ByteArray.size a0:Int) 1 8).bind fun r1 =>
 (some r1))
def f (k:Nat):=t k
end spec_KeyOk
namespace spec_PairsOk
abbrev Rs:Type:=Option (Bool × Unit)
abbrev T0:Type:=List (Ty.den TPair)→Int→Rs
def b0 (k:Nat) (L0:T0):T0:=fun x0 x1 =>
 (bif (decide (x1<(x0.length:Int))) then
 (inb x1 (x0.length:Int)
 ((spec_KeyOk.f k (List.getD x0 (Int.toNat x1) (Ty.dflt TPair)).1).bind fun r1 =>
 (bif (!r1.1) then
 (some (false,()))
 else
 (inb x1 (x0.length:Int)
 (bif (decide ((ByteArray.size (List.getD x0 (Int.toNat x1) (Ty.dflt TPair)).2.1:Int) > 24)) then
 (some (false,()))
 else
 (inb x1 (x0.length:Int)
 ((spec_l1In.f k (List.getD x0 (Int.toNat x1) (Ty.dflt TPair)).2.2.1 1 1000000).bind fun r2 =>
 (bif (!r2.1) then
 (some (false,()))
 else
 (bif (decide (x1 > 0)) then
 (inb x1 (x0.length:Int)
 (inb (w64 (x1-1)) (x0.length:Int)
 (bif ((sls (List.getD x0 (Int.toNat x1) (Ty.dflt TPair)).1 (List.getD x0 (Int.toNat (w64 (x1-1))) (Ty.dflt TPair)).1)||(seq (List.getD x0 (Int.toNat x1) (Ty.dflt TPair)).1 (List.getD x0 (Int.toNat (w64 (x1-1))) (Ty.dflt TPair)).1)) then
 (some (false,()))
 else
 (L0 x0 (w64 (x1+1))))))
 else
 (L0 x0 (w64 (x1+1))))))))))))
 else
 (some (true,())))
def l0 (k:Nat):Nat→T0
 | 0=>fun _ _=>none
 | n+1=>b0 k (l0 k n)
def t (k:Nat) (L0:T0) (a0:List (Ty.den TPair)):Rs :=
 (bif (decide ((List.length a0:Int) > 20)) then
 (some (false,()))
 else
 (L0 a0 0))
def f (k:Nat):=t k (l0 k k)
end spec_PairsOk
namespace spec_SamePairs
abbrev Rs:Type:=Option (Bool × Unit)
abbrev T0:Type:=List (Ty.den TPair)→List (Ty.den TPair)→Int→Rs
def b0 (k:Nat) (L0:T0):T0:=fun x0 x1 x2 =>
 (bif (decide (x2<(x0.length:Int))) then
 (inb x2 (x0.length:Int)
 (inb x2 (x1.length:Int)
 (bif (!((seq (List.getD x0 (Int.toNat x2) (Ty.dflt TPair)).1 (List.getD x1 (Int.toNat x2) (Ty.dflt TPair)).1)&&((seq (List.getD x0 (Int.toNat x2) (Ty.dflt TPair)).2.1 (List.getD x1 (Int.toNat x2) (Ty.dflt TPair)).2.1)&&((List.getD x0 (Int.toNat x2) (Ty.dflt TPair)).2.2.1==(List.getD x1 (Int.toNat x2) (Ty.dflt TPair)).2.2.1)))) then
 (some (false,()))
 else
 (L0 x0 x1 (w64 (x2+1))))))
 else
 (some (true,())))
def l0 (k:Nat):Nat→T0
 | 0=>fun _ _ _=>none
 | n+1=>b0 k (l0 k n)
def t (k:Nat) (L0:T0) (a0:List (Ty.den TPair)) (a1:List (Ty.den TPair)):Rs :=
 (bif ((List.length a0:Int) != (List.length a1:Int)) then
 (some (false,()))
 else
 (L0 a0 a1 0))
def f (k:Nat):=t k (l0 k k)
end spec_SamePairs
namespace impl_DiskNew
abbrev Rs:Type:=Option ((Ty.den TDisk) × Unit)
def t (k:Nat) (a0:Int):Rs :=
 ((impl_in.f k a0 0 100000).bind fun r1 =>
 (bif (!r1.1) then
 (some (([],(0,(0,(false,())))),()))
 else
 (some (([],(a0,((-1),(false,())))),()))))
def f (k:Nat):=t k
end impl_DiskNew
namespace impl_copyDisk
abbrev Rs:Type:=Option ((Ty.den TDisk) × Unit)
def t (k:Nat) (a0:Ty.den TDisk):Rs :=
 (rm (Ty.bytes TPair) (List.length a0.1)
 (some (a0,())))
def f (k:Nat):=t k
end impl_copyDisk
namespace impl_NameOk
abbrev Rs:Type:=Option (Bool × Unit)
abbrev T0:Type:=ByteArray→Int→Rs
def b0 (k:Nat) (L0:T0):T0:=fun x0 x1 =>
 (bif (decide (x1<(ByteArray.size x0:Int))) then
 (inb x1 (ByteArray.size x0:Int)
 (bif (decide ((byteAt x0 x1)≥97)) then
 (inb x1 (ByteArray.size x0:Int)
 (bif (!(decide ((byteAt x0 x1)≤122))) then
 (inb x1 (ByteArray.size x0:Int)
 (bif (decide ((byteAt x0 x1)≥48)) then
 (inb x1 (ByteArray.size x0:Int)
 (bif (!(decide ((byteAt x0 x1)≤57))) then
 (some (false,()))
 else
 (L0 x0 (w64 (x1+1)))))
 else
 (some (false,()))))
 else
 (L0 x0 (w64 (x1+1)))))
 else
 (inb x1 (ByteArray.size x0:Int)
 (bif (decide ((byteAt x0 x1)≥48)) then
 (inb x1 (ByteArray.size x0:Int)
 (bif (!(decide ((byteAt x0 x1)≤57))) then
 (some (false,()))
 else
 (L0 x0 (w64 (x1+1)))))
 else
 (some (false,()))))))
 else
 ((impl_in.f k (ByteArray.size x0:Int) 1 12).bind fun r1 =>
 (some r1)))
def l0 (k:Nat):Nat→T0
 | 0=>fun _ _=>none
 | n+1=>b0 k (l0 k n)
def t (k:Nat) (L0:T0) (a0:ByteArray):Rs :=
 (L0 a0 0)
def f (k:Nat):=t k (l0 k k)
end impl_NameOk
namespace impl_DiskOk
abbrev Rs:Type:=Option (Bool × Unit)
abbrev T0:Type:=Int→List (Ty.den TPair)→Int→Int→List (Ty.den TPair)→Int→Int→Bool→Rs
def b0 (k:Nat) (L0:T0):T0:=fun x0 x1 x2 x3 x4 x5 x6 x7 =>
 (bif (decide (x3<x2)) then
 (inb x3 (x1.length:Int)
 ((impl_NameOk.f k (List.getD x1 (Int.toNat x3) (Ty.dflt TPair)).1).bind fun r3 =>
 (bif (!r3.1) then
 (some (false,()))
 else
 ((impl_in.f k (List.getD x1 (Int.toNat x3) (Ty.dflt TPair)).2.2.1 0 (ByteArray.size (List.getD x1 (Int.toNat x3) (Ty.dflt TPair)).2.1:Int)).bind fun r4 =>
 (bif (!r4.1) then
 (some (false,()))
 else
 (bif (decide (x3 > 0)) then
 (inb (w64 (x3-1)) (x4.length:Int)
 (bif (!(sls (List.getD x4 (Int.toNat (w64 (x3-1))) (Ty.dflt TPair)).1 (List.getD x1 (Int.toNat x3) (Ty.dflt TPair)).1)) then
 (some (false,()))
 else
 (L0 (w64 (x0+(ByteArray.size (List.getD x1 (Int.toNat x3) (Ty.dflt TPair)).2.1:Int))) x1 x2 (w64 (x3+1)) x4 x5 x6 x7)))
 else
 (L0 (w64 (x0+(ByteArray.size (List.getD x1 (Int.toNat x3) (Ty.dflt TPair)).2.1:Int))) x1 x2 (w64 (x3+1)) x4 x5 x6 x7)))))))
 else
 (some ((decide (x0≤x5)),())))
def l0 (k:Nat):Nat→T0
 | 0=>fun _ _ _ _ _ _ _ _=>none
 | n+1=>b0 k (l0 k n)
def t (k:Nat) (L0:T0) (a0:Ty.den TDisk):Rs :=
 (bif (decide ((List.length a0.1:Int) > 130)) then
 (some (false,()))
 else
 ((impl_in.f k a0.2.1 0 100000).bind fun r1 =>
 (bif (!r1.1) then
 (some (false,()))
 else
 ((impl_in.f k a0.2.2.1 (-1) 100000).bind fun r2 =>
 (bif (!r2.1) then
 (some (false,()))
 else
 (L0 0 a0.1 (List.length a0.1:Int) 0 a0.1 a0.2.1 a0.2.2.1 a0.2.2.2.1))))))
def f (k:Nat):=t k (l0 k k)
end impl_DiskOk
namespace impl_fileAt
abbrev Rs:Type:=Option (Int × Unit)
abbrev T0:Type:=ByteArray→List (Ty.den TPair)→Int→Int→Rs
def b0 (k:Nat) (L0:T0):T0:=fun x0 x1 x2 x3 =>
 (bif (decide (x3<x2)) then
 (inb x3 (x1.length:Int)
 (bif (seq (List.getD x1 (Int.toNat x3) (Ty.dflt TPair)).1 x0) then
 (some (x3,()))
 else
 (L0 x0 x1 x2 (w64 (x3+1)))))
 else
 (some ((-1),())))
def l0 (k:Nat):Nat→T0
 | 0=>fun _ _ _ _=>none
 | n+1=>b0 k (l0 k n)
def t (k:Nat) (L0:T0) (a0:Ty.den TDisk) (a1:ByteArray):Rs :=
 (L0 a1 a0.1 (List.length a0.1:Int) 0)
def f (k:Nat):=t k (l0 k k)
end impl_fileAt
namespace impl_FileText
abbrev Rs:Type:=Option (ByteArray × Bool × Unit)
def t (k:Nat) (a0:Ty.den TDisk) (a1:ByteArray):Rs :=
 ((impl_fileAt.f k a0 a1).bind fun r1 =>
 (bif (decide (r1.1<0)) then
 (some ((⟨#[]⟩:ByteArray),(false,())))
 else
 ((impl_DiskOk.f k a0).bind fun r2 =>
 (bif (!r2.1) then
 (some ((⟨#[]⟩:ByteArray),(false,())))
 else
 (inb r1.1 (List.length a0.1:Int)
 (some ((List.getD a0.1 (Int.toNat r1.1) (Ty.dflt TPair)).2.1,(true,()))))))))
def f (k:Nat):=t k
end impl_FileText
namespace impl_LiveOk
abbrev Rs:Type:=Option (Bool × Unit)
abbrev T0:Type:=List Int→Int→Int→Int→List Int→Rs
def b0 (k:Nat) (L0:T0):T0:=fun x0 x1 x2 x3 x4 =>
 (bif (decide (x2<x1)) then
 (inb x2 (x0.length:Int)
 ((impl_in.f k (List.getD x0 (Int.toNat x2) (Ty.dflt (.int .i64))) 1 (w64 (x3-1))).bind fun r1 =>
 (bif (!r1.1) then
 (some (false,()))
 else
 (bif (decide (x2 > 0)) then
 (inb (w64 (x2-1)) (x4.length:Int)
 (bif (decide ((List.getD x4 (Int.toNat (w64 (x2-1))) (Ty.dflt (.int .i64)))≥(List.getD x0 (Int.toNat x2) (Ty.dflt (.int .i64))))) then
 (some (false,()))
 else
 (L0 x0 x1 (w64 (x2+1)) x3 x4)))
 else
 (L0 x0 x1 (w64 (x2+1)) x3 x4)))))
 else
 ((impl_in.f k x3 1 100000).bind fun r2 =>
 (bif r2.1 then
 ((impl_in.f k (x4.length:Int) 1 60).bind fun r3 =>
 (some r3))
 else
 (some (false,())))))
def l0 (k:Nat):Nat→T0
 | 0=>fun _ _ _ _ _=>none
 | n+1=>b0 k (l0 k n)
def t (k:Nat) (L0:T0) (a0:Ty.den TLive):Rs :=
 (L0 a0.2.1 (List.length a0.2.1:Int) 0 a0.1 a0.2.1)
def f (k:Nat):=t k (l0 k k)
end impl_LiveOk
namespace impl_ReadLive
abbrev Rs:Type:=Option ((Ty.den TLive) × Bool × Unit)
abbrev T0:Type:=ByteArray→Int→Int→Int→List Int→Int→ByteArray→Bool→List Int→Int→Rs
def b0 (k:Nat) (L0:T0):T0:=fun x0 x1 x2 x3 x4 x5 x6 x7 x8 x9 =>
 (bif (decide (x3<x2)) then
 (bif (!x7) then
 ((impl_scanner__num.f k (x6,(x7,()))).bind fun r4 =>
 (rm (Ty.bytes (.int .i64)) (List.length x8+1)
 (L0 x0 x1 x2 (w64 (x3+1)) x4 x5 r4.1.1 r4.1.2.1 (x8++[r4.2.1]) x9)))
 else
 (bif (x1==0) then
 (some ((0,([],())),(false,())))
 else
 (bif (x1 != (ByteArray.size x0:Int)) then
 (some ((0,([],())),(false,())))
 else
 (bif x7 then
 (some ((0,([],())),(false,())))
 else
 (bif (!(seq x6 (⟨#[]⟩:ByteArray))) then
 (some ((0,([],())),(false,())))
 else
 ((impl_LiveOk.f k (x9,(x8,()))).bind fun r5 =>
 (bif (!r5.1) then
 (some ((0,([],())),(false,())))
 else
 (some ((x9,(x8,())),(true,()))))))))))
 else
 (bif (x1==0) then
 (some ((0,([],())),(false,())))
 else
 (bif (x1 != (ByteArray.size x0:Int)) then
 (some ((0,([],())),(false,())))
 else
 (bif x7 then
 (some ((0,([],())),(false,())))
 else
 (bif (!(seq x6 (⟨#[]⟩:ByteArray))) then
 (some ((0,([],())),(false,())))
 else
 ((impl_LiveOk.f k (x9,(x8,()))).bind fun r6 =>
 (bif (!r6.1) then
 (some ((0,([],())),(false,())))
 else
 (some ((x9,(x8,())),(true,()))))))))))
def l0 (k:Nat):Nat→T0
 | 0=>fun _ _ _ _ _ _ _ _ _ _=>none
 | n+1=>b0 k (l0 k n)
def t (k:Nat) (L0:T0) (a0:ByteArray):Rs :=
 ((impl_Unframe.f k a0).bind fun r1 =>
 ((impl_scanner__num.f k (r1.1,(false,()))).bind fun r2 =>
 ((impl_scanner__num.f k r2.1).bind fun r3 =>
 (L0 a0 r1.2.1 r3.2.1 0 [] 0 r3.1.1 r3.1.2.1 [] r2.2.1))))
def f (k:Nat):=t k (l0 k k)
end impl_ReadLive
namespace impl_Dec
abbrev Rs:Type:=Option (ByteArray × Unit)
def t (k:Nat) (a0:Int):Rs :=
 ((lib_Itoa.f k a0).bind fun r1 =>
 (some r1))
def f (k:Nat):=t k
end impl_Dec
namespace impl_named
abbrev Rs:Type:=Option (ByteArray × Unit)
def t (k:Nat) (a0:ByteArray) (a1:Int):Rs :=
 ((impl_in.f k a1 1 100000).bind fun r1 =>
 (bif (!r1.1) then
 (some ((⟨#[]⟩:ByteArray),()))
 else
 ((impl_Dec.f k a1).bind fun r2 =>
 (cat a0 r2.1
 (some ((a0++r2.1),()))))))
def f (k:Nat):=t k
end impl_named
namespace impl_SegName
abbrev Rs:Type:=Option (ByteArray × Unit)
def t (k:Nat) (a0:Int):Rs :=
 ((impl_named.f k (⟨#[115,101,103]⟩:ByteArray) a0).bind fun r1 =>
 (some r1))
def f (k:Nat):=t k
end impl_SegName
namespace impl_placed
abbrev Rs:Type:=Option ((List (Ty.den TPlace)) × Unit)
abbrev T0:Type:=Int→List (Ty.den TSpot)→Int→Int→List (Ty.den TPlace)→Rs
def b0 (k:Nat) (L0:T0):T0:=fun x0 x1 x2 x3 x4 =>
 (bif (decide (x3<x2)) then
 (inb x3 (x1.length:Int)
 (rm (Ty.bytes TPlace) (List.length x4+1)
 (L0 x0 x1 x2 (w64 (x3+1)) (x4++[(x0,(List.getD x1 (Int.toNat x3) (Ty.dflt TSpot)))]))))
 else
 (some (x4,())))
def l0 (k:Nat):Nat→T0
 | 0=>fun _ _ _ _ _=>none
 | n+1=>b0 k (l0 k n)
def t (k:Nat) (L0:T0) (a0:Int) (a1:List (Ty.den TSpot)):Rs :=
 (L0 a0 a1 (List.length a1:Int) 0 [])
def f (k:Nat):=t k (l0 k k)
end impl_placed
namespace impl_worker__scanAll
abbrev Rs:Type:=Option ((Ty.den Tworker) × (List (List (Ty.den TPlace))) × Int × Bool × Unit)
abbrev T0:Type:=Int→List Int→Int→Int→List (Ty.den TPair)→Int→Int→Bool→Int→Int→List Int→List (List (Ty.den TPlace))→Rs
def b0 (k:Nat) (L0:T0):T0:=fun x0 x1 x2 x3 x4 x5 x6 x7 x8 x9 x10 x11 =>
 (bif (decide (x3<x2)) then
 (inb x3 (x1.length:Int)
 ((impl_SegName.f k (List.getD x1 (Int.toNat x3) (Ty.dflt (.int .i64)))).bind fun r1 =>
 ((impl_FileText.f k (x4,(x5,(x6,(x7,())))) r1.1).bind fun r2 =>
 ((impl_ScanRecs.f k r2.1).bind fun r3 =>
 (bif (!r2.2.1) then
 (some (((x4,(x5,(x6,(x7,())))),(x8,())),([],(0,(false,())))))
 else
 (bif (decide (x3<(w64 ((x10.length:Int)-1)))) then
 (bif (r3.2.1 != (ByteArray.size r2.1:Int)) then
 (some (((x4,(x5,(x6,(x7,())))),(x8,())),([],(0,(false,())))))
 else
 ((impl_placed.f k (List.getD x1 (Int.toNat x3) (Ty.dflt (.int .i64))) r3.1).bind fun r4 =>
 (rm (Ty.bytes (.slice TPlace)) (List.length x11+1)
 (L0 r3.2.1 x1 x2 (w64 (x3+1)) x4 x5 x6 x7 x8 x9 x10 (x11++[r4.1])))))
 else
 ((impl_placed.f k (List.getD x1 (Int.toNat x3) (Ty.dflt (.int .i64))) r3.1).bind fun r5 =>
 (rm (Ty.bytes (.slice TPlace)) (List.length x11+1)
 (L0 r3.2.1 x1 x2 (w64 (x3+1)) x4 x5 x6 x7 x8 x9 x10 (x11++[r5.1]))))))))))
 else
 (some (((x4,(x5,(x6,(x7,())))),(x8,())),(x11,(x0,(true,()))))))
def l0 (k:Nat):Nat→T0
 | 0=>fun _ _ _ _ _ _ _ _ _ _ _ _=>none
 | n+1=>b0 k (l0 k n)
def t (k:Nat) (L0:T0) (a0:Ty.den Tworker) (a1:Ty.den TLive):Rs :=
 (L0 0 a1.2.1 (List.length a1.2.1:Int) 0 a0.1.1 a0.1.2.1 a0.1.2.2.1 a0.1.2.2.2.1 a0.2.1 a1.1 a1.2.1 [])
def f (k:Nat):=t k (l0 k k)
end impl_worker__scanAll
namespace impl_Truncate_1
abbrev Rs:Type:=Option ((Ty.den TDisk) × ByteArray × Int × Int × Unit)
def t (k:Nat) (a0:Ty.den TDisk) (a1:ByteArray) (a2:Int):Rs :=
 ((impl_fileAt.f k a0 a1).bind fun r1 =>
 (bif (decide (r1.1<0)) then
 (some (a0,(a1,(a2,(3,())))))
 else
 (inb r1.1 (List.length a0.1:Int)
 ((impl_in.f k a2 0 (ByteArray.size (List.getD a0.1 (Int.toNat r1.1) (Ty.dflt TPair)).2.1:Int)).bind fun r2 =>
 (bif (!r2.1) then
 (some (a0,(a1,(a2,(5,())))))
 else
 (inc a2 (ByteArray.size (List.getD a0.1 (Int.toNat r1.1) (Ty.dflt TPair)).2.1:Int)
 (let l3:=(List.set a0.1 (Int.toNat r1.1) ((List.getD a0.1 (Int.toNat r1.1) (Ty.dflt TPair)).1,((ByteArray.extract (List.getD a0.1 (Int.toNat r1.1) (Ty.dflt TPair)).2.1 0 (Int.toNat a2)),(List.getD a0.1 (Int.toNat r1.1) (Ty.dflt TPair)).2.2)));
 (let l4:=(List.set l3 (Int.toNat r1.1) ((List.getD l3 (Int.toNat r1.1) (Ty.dflt TPair)).1,((List.getD l3 (Int.toNat r1.1) (Ty.dflt TPair)).2.1,((if a2<(List.getD a0.1 (Int.toNat r1.1) (Ty.dflt TPair)).2.2.1 then a2 else (List.getD a0.1 (Int.toNat r1.1) (Ty.dflt TPair)).2.2.1),(List.getD l3 (Int.toNat r1.1) (Ty.dflt TPair)).2.2.2))));
 (some ((l4,a0.2),(a1,(a2,(0,())))))))))))))
def f (k:Nat):=t k
end impl_Truncate_1
namespace impl_step_Truncate_1
abbrev Rs:Type:=Option (ByteArray × Int × (Ty.den TDisk) × Int × Unit)
def t (k:Nat) (a0:Ty.den TDisk) (a1:ByteArray) (a2:Int):Rs :=
 ((impl_copyDisk.f k a0).bind fun r1 =>
 ((impl_DiskOk.f k a0).bind fun r2 =>
 (bif (!r2.1) then
 (some (a1,(a2,(r1.1,(5,())))))
 else
 (bif a0.2.2.2.1 then
 (some (a1,(a2,((r1.1.1,(r1.1.2.1,(r1.1.2.2.1,(true,())))),(1,())))))
 else
 (bif (a0.2.2.1==0) then
 (some (a1,(a2,((r1.1.1,(r1.1.2.1,(r1.1.2.2.1,(true,())))),(1,())))))
 else
 (bif (decide (a0.2.2.1 > 0)) then
 ((impl_Truncate_1.f k (r1.1.1,(r1.1.2.1,((w64 (r1.1.2.2.1-1)),r1.1.2.2.2))) a1 a2).bind fun r3 =>
 (some (r3.2.1,(r3.2.2.1,(r3.1,r3.2.2.2)))))
 else
 ((impl_Truncate_1.f k r1.1 a1 a2).bind fun r4 =>
 (some (r4.2.1,(r4.2.2.1,(r4.1,r4.2.2.2)))))))))))
def f (k:Nat):=t k
end impl_step_Truncate_1
namespace impl_Truncate
abbrev Rs:Type:=Option ((Ty.den TDisk) × Int × Unit)
def t (k:Nat) (a0:Ty.den TDisk) (a1:ByteArray) (a2:Int):Rs :=
 ((impl_step_Truncate_1.f k a0 a1 a2).bind fun r1 =>
 (some r1.2.2))
def f (k:Nat):=t k
end impl_Truncate
namespace impl_told
abbrev Rs:Type:=Option (Int × Unit)
def t (k:Nat) (a0:Int):Rs :=
 (bif (a0==0) then
 (some (0,()))
 else
 (bif (a0==1) then
 (some (1,()))
 else
 (bif (a0==2) then
 (some (2,()))
 else
 (some (3,())))))
def f (k:Nat):=t k
end impl_told
namespace impl_worker__took_g1
abbrev Rs:Type:=Option ((Ty.den Tworker) × Unit)
def t (k:Nat) (a0:Ty.den Tworker) (a1:Ty.den TDisk) (a2:Int):Rs :=
 ((impl_told.f k a2).bind fun r1 =>
 (some ((a1,r1),())))
def f (k:Nat):=t k
end impl_worker__took_g1
namespace impl_Sync_1
abbrev Rs:Type:=Option ((Ty.den TDisk) × ByteArray × Int × Unit)
def t (k:Nat) (a0:Ty.den TDisk) (a1:ByteArray):Rs :=
 ((impl_fileAt.f k a0 a1).bind fun r1 =>
 (bif (decide (r1.1<0)) then
 (some (a0,(a1,(3,()))))
 else
 (inb r1.1 (List.length a0.1:Int)
 (inb r1.1 (List.length a0.1:Int)
 (let l2:=(List.set a0.1 (Int.toNat r1.1) ((List.getD a0.1 (Int.toNat r1.1) (Ty.dflt TPair)).1,((List.getD a0.1 (Int.toNat r1.1) (Ty.dflt TPair)).2.1,((ByteArray.size (List.getD a0.1 (Int.toNat r1.1) (Ty.dflt TPair)).2.1:Int),(List.getD a0.1 (Int.toNat r1.1) (Ty.dflt TPair)).2.2.2))));
 (some ((l2,a0.2),(a1,(0,())))))))))
def f (k:Nat):=t k
end impl_Sync_1
namespace impl_step_Sync_1
abbrev Rs:Type:=Option (ByteArray × (Ty.den TDisk) × Int × Unit)
def t (k:Nat) (a0:Ty.den TDisk) (a1:ByteArray):Rs :=
 ((impl_copyDisk.f k a0).bind fun r1 =>
 ((impl_DiskOk.f k a0).bind fun r2 =>
 (bif (!r2.1) then
 (some (a1,(r1.1,(5,()))))
 else
 (bif a0.2.2.2.1 then
 (some (a1,((r1.1.1,(r1.1.2.1,(r1.1.2.2.1,(true,())))),(1,()))))
 else
 (bif (a0.2.2.1==0) then
 (some (a1,((r1.1.1,(r1.1.2.1,(r1.1.2.2.1,(true,())))),(1,()))))
 else
 (bif (decide (a0.2.2.1 > 0)) then
 ((impl_Sync_1.f k (r1.1.1,(r1.1.2.1,((w64 (r1.1.2.2.1-1)),r1.1.2.2.2))) a1).bind fun r3 =>
 (some (r3.2.1,(r3.1,r3.2.2))))
 else
 ((impl_Sync_1.f k r1.1 a1).bind fun r4 =>
 (some (r4.2.1,(r4.1,r4.2.2))))))))))
def f (k:Nat):=t k
end impl_step_Sync_1
namespace impl_Sync
abbrev Rs:Type:=Option ((Ty.den TDisk) × Int × Unit)
def t (k:Nat) (a0:Ty.den TDisk) (a1:ByteArray):Rs :=
 ((impl_step_Sync_1.f k a0 a1).bind fun r1 =>
 (some r1.2))
def f (k:Nat):=t k
end impl_Sync
namespace impl_worker__sync
abbrev Rs:Type:=Option ((Ty.den Tworker) × Unit)
def t (k:Nat) (a0:Ty.den Tworker) (a1:ByteArray):Rs :=
 (bif (a0.2.1==0) then
 ((impl_Sync.f k a0.1 a1).bind fun r1 =>
 ((impl_worker__took_g1.f k a0 r1.1 r1.2.1).bind fun r2 =>
 (some r2)))
 else
 (some (a0,())))
def f (k:Nat):=t k
end impl_worker__sync
namespace impl_HintName
abbrev Rs:Type:=Option (ByteArray × Unit)
def t (k:Nat) (a0:Int):Rs :=
 ((impl_named.f k (⟨#[104,105,110,116]⟩:ByteArray) a0).bind fun r1 =>
 (some r1))
def f (k:Nat):=t k
end impl_HintName
namespace impl_DirOk
abbrev Rs:Type:=Option (Bool × Unit)
abbrev T0:Type:=List (Ty.den TEntry)→List (Ty.den TEntry)→Int→Int→Rs
def b0 (k:Nat) (L0:T0):T0:=fun x0 x1 x2 x3 =>
 (bif (decide (x3<x2)) then
 (inb x3 (x1.length:Int)
 ((impl_KeyOk.f k (List.getD x1 (Int.toNat x3) (Ty.dflt TEntry)).1).bind fun r1 =>
 (bif (!r1.1) then
 (some (false,()))
 else
 ((impl_in.f k (List.getD x1 (Int.toNat x3) (Ty.dflt TEntry)).2.1 1 100000).bind fun r2 =>
 (bif (!r2.1) then
 (some (false,()))
 else
 (bif (decide ((List.getD x1 (Int.toNat x3) (Ty.dflt TEntry)).2.2.1<0)) then
 (some (false,()))
 else
 ((impl_in.f k (List.getD x1 (Int.toNat x3) (Ty.dflt TEntry)).2.2.2.1 1 210).bind fun r3 =>
 (bif (!r3.1) then
 (some (false,()))
 else
 ((impl_in.f k (List.getD x1 (Int.toNat x3) (Ty.dflt TEntry)).2.2.2.2.1 1 1000000).bind fun r4 =>
 (bif (!r4.1) then
 (some (false,()))
 else
 (bif (decide (x3 > 0)) then
 (inb (w64 (x3-1)) (x0.length:Int)
 (bif (!(sls (List.getD x0 (Int.toNat (w64 (x3-1))) (Ty.dflt TEntry)).1 (List.getD x1 (Int.toNat x3) (Ty.dflt TEntry)).1)) then
 (some (false,()))
 else
 (L0 x0 x1 x2 (w64 (x3+1)))))
 else
 (L0 x0 x1 x2 (w64 (x3+1))))))))))))))
 else
 (some ((decide ((x0.length:Int)≤20)),())))
def l0 (k:Nat):Nat→T0
 | 0=>fun _ _ _ _=>none
 | n+1=>b0 k (l0 k n)
def t (k:Nat) (L0:T0) (a0:List (Ty.den TEntry)):Rs :=
 (L0 a0 a0 (List.length a0:Int) 0)
def f (k:Nat):=t k (l0 k k)
end impl_DirOk
namespace impl_hintOk
abbrev Rs:Type:=Option (Bool × Unit)
abbrev T0:Type:=List (Ty.den TEntry)→Int→Int→Int→Int→List (Ty.den TEntry)→Rs
def b0 (k:Nat) (L0:T0):T0:=fun x0 x1 x2 x3 x4 x5 =>
 (bif (decide (x2<x1)) then
 (inb x2 (x0.length:Int)
 (inb 0 (x5.length:Int)
 (bif ((List.getD x0 (Int.toNat x2) (Ty.dflt TEntry)).2.1 != (List.getD x5 0 (Ty.dflt TEntry)).2.1) then
 (some (false,()))
 else
 (bif (decide ((List.getD x0 (Int.toNat x2) (Ty.dflt TEntry)).2.2.1 > 100000)) then
 (some (false,()))
 else
 (L0 x0 x1 (w64 (x2+1)) x3 x4 x5)))))
 else
 ((impl_in.f k x3 0 100000).bind fun r1 =>
 (bif r1.1 then
 ((impl_in.f k x4 0 1000000).bind fun r2 =>
 (bif r2.1 then
 ((impl_DirOk.f k x5).bind fun r3 =>
 (some r3))
 else
 (some (false,()))))
 else
 (some (false,())))))
def l0 (k:Nat):Nat→T0
 | 0=>fun _ _ _ _ _ _=>none
 | n+1=>b0 k (l0 k n)
def t (k:Nat) (L0:T0) (a0:Ty.den THint):Rs :=
 (L0 a0.2.2.1 (List.length a0.2.2.1:Int) 0 a0.1 a0.2.1 a0.2.2.1)
def f (k:Nat):=t k (l0 k k)
end impl_hintOk
namespace impl_ShowHint
abbrev Rs:Type:=Option (ByteArray × Unit)
abbrev T0:Type:=ByteArray→List (Ty.den TEntry)→Int→Int→Rs
def b0 (k:Nat) (L0:T0):T0:=fun x0 x1 x2 x3 =>
 (bif (decide (x3<x2)) then
 (inb x3 (x1.length:Int)
 ((impl_textOf.f k (List.getD x1 (Int.toNat x3) (Ty.dflt TEntry)).1).bind fun r3 =>
 ((impl_vars.f k [(List.getD x1 (Int.toNat x3) (Ty.dflt TEntry)).2.1,(List.getD x1 (Int.toNat x3) (Ty.dflt TEntry)).2.2.1,(List.getD x1 (Int.toNat x3) (Ty.dflt TEntry)).2.2.2.1,(List.getD x1 (Int.toNat x3) (Ty.dflt TEntry)).2.2.2.2.1]).bind fun r4 =>
 (cat r3.1 r4.1
 (cat x0 (r3.1++r4.1)
 (L0 (x0++(r3.1++r4.1)) x1 x2 (w64 (x3+1))))))))
 else
 ((impl_Crc.f k x0).bind fun r5 =>
 ((impl_Fixed.f k r5.1 4).bind fun r6 =>
 (cat r6.1 x0
 (some ((r6.1++x0),()))))))
def l0 (k:Nat):Nat→T0
 | 0=>fun _ _ _ _=>none
 | n+1=>b0 k (l0 k n)
def t (k:Nat) (L0:T0) (a0:Ty.den THint):Rs :=
 ((impl_hintOk.f k a0).bind fun r1 =>
 (bif (!r1.1) then
 (some ((⟨#[]⟩:ByteArray),()))
 else
 ((impl_vars.f k [a0.1,a0.2.1,(List.length a0.2.2.1:Int)]).bind fun r2 =>
 (L0 r2.1 a0.2.2.1 (List.length a0.2.2.1:Int) 0))))
def f (k:Nat):=t k (l0 k k)
end impl_ShowHint
namespace impl_ReadHint
abbrev Rs:Type:=Option ((Ty.den THint) × Bool × Unit)
abbrev T0:Type:=ByteArray→Int→Int→List (Ty.den TEntry)→Int→Int→ByteArray→Bool→List (Ty.den TEntry)→Int→Int→Rs
def b0 (k:Nat) (L0:T0):T0:=fun x0 x1 x2 x3 x4 x5 x6 x7 x8 x9 x10 =>
 (bif (decide (x2<x1)) then
 (bif (!x7) then
 ((impl_scanner__text.f k (x6,(x7,()))).bind fun r5 =>
 ((impl_scanner__num.f k r5.1).bind fun r6 =>
 ((impl_scanner__num.f k r6.1).bind fun r7 =>
 ((impl_scanner__num.f k r7.1).bind fun r8 =>
 ((impl_scanner__num.f k r8.1).bind fun r9 =>
 (rm (Ty.bytes TEntry) (List.length x8+1)
 (L0 x0 x1 (w64 (x2+1)) x3 x4 x5 r9.1.1 r9.1.2.1 (x8++[(r5.2.1,(r6.2.1,(r7.2.1,(r8.2.1,r9.2))))]) x9 x10)))))))
 else
 (bif x7 then
 (some ((0,(0,([],()))),(false,())))
 else
 ((impl_hintOk.f k (x9,(x10,(x8,())))).bind fun r10 =>
 (bif (!r10.1) then
 (some ((0,(0,([],()))),(false,())))
 else
 ((impl_ShowHint.f k (x9,(x10,(x8,())))).bind fun r11 =>
 (bif (!(seq r11.1 x0)) then
 (some ((0,(0,([],()))),(false,())))
 else
 (some ((x9,(x10,(x8,()))),(true,())))))))))
 else
 (bif x7 then
 (some ((0,(0,([],()))),(false,())))
 else
 ((impl_hintOk.f k (x9,(x10,(x8,())))).bind fun r12 =>
 (bif (!r12.1) then
 (some ((0,(0,([],()))),(false,())))
 else
 ((impl_ShowHint.f k (x9,(x10,(x8,())))).bind fun r13 =>
 (bif (!(seq r13.1 x0)) then
 (some ((0,(0,([],()))),(false,())))
 else
 (some ((x9,(x10,(x8,()))),(true,())))))))))
def l0 (k:Nat):Nat→T0
 | 0=>fun _ _ _ _ _ _ _ _ _ _ _=>none
 | n+1=>b0 k (l0 k n)
def t (k:Nat) (L0:T0) (a0:ByteArray):Rs :=
 ((impl_scanner__bytes.f k (a0,(false,())) 4).bind fun r1 =>
 ((impl_scanner__num.f k r1.1).bind fun r2 =>
 ((impl_scanner__num.f k r2.1).bind fun r3 =>
 ((impl_scanner__num.f k r3.1).bind fun r4 =>
 (L0 a0 r4.2.1 0 [] 0 0 r4.1.1 r4.1.2.1 [] r2.2.1 r3.2.1)))))
def f (k:Nat):=t k (l0 k k)
end impl_ReadHint
namespace impl_fits
abbrev Rs:Type:=Option (Bool × Unit)
abbrev T0:Type:=List (Ty.den TPlace)→Int→Int→Int→Int→ByteArray→ByteArray→Int→Int→List (Ty.den TRec)→Rs
def b0 (k:Nat) (L0:T0):T0:=fun x0 x1 x2 x3 x4 x5 x6 x7 x8 x9 =>
 (bif (decide (x2<x1)) then
 (inb x2 (x0.length:Int)
 (rm (Ty.bytes TRec) (List.length x9+1)
 (L0 x0 x1 (w64 (x2+1)) x3 x4 x5 x6 x7 x8 (x9++[(List.getD x0 (Int.toNat x2) (Ty.dflt TPlace)).2.2.2.1]))))
 else
 (bif (x7==(x9.length:Int)) then
 ((impl_SumOf.f k x9).bind fun r1 =>
 (some ((x8==r1.1),())))
 else
 (some (false,()))))
def l0 (k:Nat):Nat→T0
 | 0=>fun _ _ _ _ _ _ _ _ _ _=>none
 | n+1=>b0 k (l0 k n)
def t (k:Nat) (L0:T0) (a0:Ty.den TRec) (a1:List (Ty.den TPlace)):Rs :=
 (L0 a1 (List.length a1:Int) 0 a0.1 a0.2.1 a0.2.2.1 a0.2.2.2.1 a0.2.2.2.2.1 a0.2.2.2.2.2.1 [])
def f (k:Nat):=t k (l0 k k)
end impl_fits
namespace impl_HintOf
abbrev Rs:Type:=Option ((Ty.den THint) × Bool × Unit)
abbrev T0:Type:=Int→List (Ty.den TSpot)→List (Ty.den TSpot)→Int→Int→List (Ty.den TEntry)→Int→Int→List (Ty.den TEntry)→Int→Int→Rs
def b0 (k:Nat) (L0:T0):T0:=fun x0 x1 x2 x3 x4 x5 x6 x7 x8 x9 x10 =>
 (bif (decide (x4<x3)) then
 (inb x4 (x2.length:Int)
 (bif ((List.getD x2 (Int.toNat x4) (Ty.dflt TSpot)).2.2.1.1 != 4) then
 (some ((0,(0,([],()))),(false,())))
 else
 (bif (decide ((List.getD x2 (Int.toNat x4) (Ty.dflt TSpot)).2.2.1.2.1 > x10)) then
 (some ((0,(0,([],()))),(false,())))
 else
 (bif (decide (x4 > 0)) then
 (inb (w64 (x4-1)) (x1.length:Int)
 (bif (!(sls (List.getD x1 (Int.toNat (w64 (x4-1))) (Ty.dflt TSpot)).2.2.1.2.2.1 (List.getD x2 (Int.toNat x4) (Ty.dflt TSpot)).2.2.1.2.2.1)) then
 (some ((0,(0,([],()))),(false,())))
 else
 (rm (Ty.bytes TEntry) (List.length x8+1)
 (L0 x0 x1 x2 x3 (w64 (x4+1)) x5 x6 x7 (x8++[((List.getD x2 (Int.toNat x4) (Ty.dflt TSpot)).2.2.1.2.2.1,(x0,((List.getD x2 (Int.toNat x4) (Ty.dflt TSpot)).1,((List.getD x2 (Int.toNat x4) (Ty.dflt TSpot)).2.1,((List.getD x2 (Int.toNat x4) (Ty.dflt TSpot)).2.2.1.2.1,())))))]) x9 x10))))
 else
 (rm (Ty.bytes TEntry) (List.length x8+1)
 (L0 x0 x1 x2 x3 (w64 (x4+1)) x5 x6 x7 (x8++[((List.getD x2 (Int.toNat x4) (Ty.dflt TSpot)).2.2.1.2.2.1,(x0,((List.getD x2 (Int.toNat x4) (Ty.dflt TSpot)).1,((List.getD x2 (Int.toNat x4) (Ty.dflt TSpot)).2.1,((List.getD x2 (Int.toNat x4) (Ty.dflt TSpot)).2.2.1.2.1,())))))]) x9 x10))))))
 else
 (some ((x9,(x10,(x8,()))),(true,()))))
def l0 (k:Nat):Nat→T0
 | 0=>fun _ _ _ _ _ _ _ _ _ _ _=>none
 | n+1=>b0 k (l0 k n)
def t (k:Nat) (L0:T0) (a0:Int) (a1:ByteArray):Rs :=
 ((impl_ScanRecs.f k a1).bind fun r1 =>
 (bif (decide ((w64 ((List.length r1.1:Int)-1))<0)) then
 (some ((0,(0,([],()))),(false,())))
 else
 (bif (r1.2.1 != (ByteArray.size a1:Int)) then
 (some ((0,(0,([],()))),(false,())))
 else
 ((impl_in.f k a0 1 100000).bind fun r2 =>
 (bif (!r2.1) then
 (some ((0,(0,([],()))),(false,())))
 else
 (inb (w64 ((List.length r1.1:Int)-1)) (List.length r1.1:Int)
 (bif ((List.getD r1.1 (Int.toNat (w64 ((List.length r1.1:Int)-1))) (Ty.dflt TSpot)).2.2.1.1 != 5) then
 (some ((0,(0,([],()))),(false,())))
 else
 (inb (w64 ((List.length r1.1:Int)-1)) (List.length r1.1:Int)
 (inc (w64 ((List.length r1.1:Int)-1)) (List.length r1.1:Int)
 ((impl_placed.f k a0 (List.take (Int.toNat (w64 ((List.length r1.1:Int)-1))) r1.1)).bind fun r3 =>
 ((impl_fits.f k (List.getD r1.1 (Int.toNat (w64 ((List.length r1.1:Int)-1))) (Ty.dflt TSpot)).2.2.1 r3.1).bind fun r4 =>
 (bif (!r4.1) then
 (some ((0,(0,([],()))),(false,())))
 else
 (inb (w64 ((List.length r1.1:Int)-1)) (List.length r1.1:Int)
 (inc (w64 ((List.length r1.1:Int)-1)) (List.length r1.1:Int)
 (L0 a0 r1.1 (List.take (Int.toNat (w64 ((List.length r1.1:Int)-1))) r1.1) (List.length (List.take (Int.toNat (w64 ((List.length r1.1:Int)-1))) r1.1):Int) 0 [] 0 0 [] r1.2.1 (List.getD r1.1 (Int.toNat (w64 ((List.length r1.1:Int)-1))) (Ty.dflt TSpot)).2.2.1.2.1)))))))))))))))
def f (k:Nat):=t k (l0 k k)
end impl_HintOf
namespace impl_SameDir
abbrev Rs:Type:=Option (Bool × Unit)
abbrev T0:Type:=List (Ty.den TEntry)→List (Ty.den TEntry)→Int→Int→Rs
def b0 (k:Nat) (L0:T0):T0:=fun x0 x1 x2 x3 =>
 (bif (decide (x3<x2)) then
 (inb x3 (x0.length:Int)
 (inb x3 (x1.length:Int)
 (bif (!((seq (List.getD x0 (Int.toNat x3) (Ty.dflt TEntry)).1 (List.getD x1 (Int.toNat x3) (Ty.dflt TEntry)).1)&&(((List.getD x0 (Int.toNat x3) (Ty.dflt TEntry)).2.1==(List.getD x1 (Int.toNat x3) (Ty.dflt TEntry)).2.1)&&(((List.getD x0 (Int.toNat x3) (Ty.dflt TEntry)).2.2.1==(List.getD x1 (Int.toNat x3) (Ty.dflt TEntry)).2.2.1)&&(((List.getD x0 (Int.toNat x3) (Ty.dflt TEntry)).2.2.2.1==(List.getD x1 (Int.toNat x3) (Ty.dflt TEntry)).2.2.2.1)&&((List.getD x0 (Int.toNat x3) (Ty.dflt TEntry)).2.2.2.2.1==(List.getD x1 (Int.toNat x3) (Ty.dflt TEntry)).2.2.2.2.1)))))) then
 (some (false,()))
 else
 (L0 x0 x1 x2 (w64 (x3+1))))))
 else
 (some (true,())))
def l0 (k:Nat):Nat→T0
 | 0=>fun _ _ _ _=>none
 | n+1=>b0 k (l0 k n)
def t (k:Nat) (L0:T0) (a0:List (Ty.den TEntry)) (a1:List (Ty.den TEntry)):Rs :=
 (bif ((List.length a0:Int) != (List.length a1:Int)) then
 (some (false,()))
 else
 (L0 a0 a1 (List.length a0:Int) 0))
def f (k:Nat):=t k (l0 k k)
end impl_SameDir
namespace impl_HintFits
abbrev Rs:Type:=Option (Bool × Unit)
def t (k:Nat) (a0:Int) (a1:ByteArray) (a2:Ty.den THint):Rs :=
 ((impl_HintOf.f k a0 a1).bind fun r1 =>
 (bif r1.2.1 then
 (bif (r1.1.1==a2.1) then
 (bif (r1.1.2.1==a2.2.1) then
 ((impl_SameDir.f k r1.1.2.2.1 a2.2.2.1).bind fun r2 =>
 (some r2))
 else
 (some (false,())))
 else
 (some (false,())))
 else
 (some (false,()))))
def f (k:Nat):=t k
end impl_HintFits
namespace impl_worker__hinted
abbrev Rs:Type:=Option ((Ty.den Tworker) × (Ty.den TGroup) × Bool × Unit)
def t (k:Nat) (a0:Ty.den Tworker) (a1:Int):Rs :=
 ((impl_HintName.f k a1).bind fun r1 =>
 ((impl_FileText.f k a0.1 r1.1).bind fun r2 =>
 ((impl_ReadHint.f k r2.1).bind fun r3 =>
 ((impl_SegName.f k a1).bind fun r4 =>
 ((impl_FileText.f k a0.1 r4.1).bind fun r5 =>
 (bif (!r2.2.1) then
 (some (a0,(([],(0,(0,()))),(false,()))))
 else
 (bif (!r3.2.1) then
 (some (a0,(([],(0,(0,()))),(false,()))))
 else
 ((impl_HintFits.f k a1 r5.1 r3.1).bind fun r6 =>
 (bif (!r6.1) then
 (some (a0,(([],(0,(0,()))),(false,()))))
 else
 (some (a0,((r3.1.2.2.1,(r3.1.2.1,(0,()))),(true,())))))))))))))
def f (k:Nat):=t k
end impl_worker__hinted
namespace impl_copyDir
abbrev Rs:Type:=Option ((List (Ty.den TEntry)) × Unit)
def t (k:Nat) (a0:List (Ty.den TEntry)):Rs :=
 (rm (Ty.bytes TEntry) (List.length a0)
 (some (a0,())))
def f (k:Nat):=t k
end impl_copyDir
namespace impl_ownOf
abbrev Rs:Type:=Option ((List (Ty.den TPlace)) × Unit)
abbrev T0:Type:=List (Ty.den TPlace)→Int→Int→Int→Int→ByteArray→ByteArray→Int→Int→List (Ty.den TPlace)→Rs
def b0 (k:Nat) (L0:T0):T0:=fun x0 x1 x2 x3 x4 x5 x6 x7 x8 x9 =>
 (bif (decide (x2<x1)) then
 (inb x2 (x0.length:Int)
 (bif (x3==3) then
 (bif ((List.getD x0 (Int.toNat x2) (Ty.dflt TPlace)).2.2.2.1.2.1 != x4) then
 (L0 x0 x1 (w64 (x2+1)) x3 x4 x5 x6 x7 x8 x9)
 else
 (bif ((List.getD x0 (Int.toNat x2) (Ty.dflt TPlace)).2.2.2.1.1==x3) then
 (L0 x0 x1 (w64 (x2+1)) x3 x4 x5 x6 x7 x8 [])
 else
 (bif (x3==3) then
 (bif ((List.getD x0 (Int.toNat x2) (Ty.dflt TPlace)).2.2.2.1.1==1) then
 (rm (Ty.bytes TPlace) (List.length x9+1)
 (L0 x0 x1 (w64 (x2+1)) x3 x4 x5 x6 x7 x8 (x9++[(List.getD x0 (Int.toNat x2) (Ty.dflt TPlace))])))
 else
 (bif ((List.getD x0 (Int.toNat x2) (Ty.dflt TPlace)).2.2.2.1.1==2) then
 (bif ((List.getD x0 (Int.toNat x2) (Ty.dflt TPlace)).2.2.2.1.1==2) then
 (rm (Ty.bytes TPlace) (List.length x9+1)
 (L0 x0 x1 (w64 (x2+1)) x3 x4 x5 x6 x7 x8 (x9++[(List.getD x0 (Int.toNat x2) (Ty.dflt TPlace))])))
 else
 (L0 x0 x1 (w64 (x2+1)) x3 x4 x5 x6 x7 x8 x9))
 else
 (bif (x3==5) then
 (bif ((List.getD x0 (Int.toNat x2) (Ty.dflt TPlace)).2.2.2.1.1==4) then
 (rm (Ty.bytes TPlace) (List.length x9+1)
 (L0 x0 x1 (w64 (x2+1)) x3 x4 x5 x6 x7 x8 (x9++[(List.getD x0 (Int.toNat x2) (Ty.dflt TPlace))])))
 else
 (L0 x0 x1 (w64 (x2+1)) x3 x4 x5 x6 x7 x8 x9))
 else
 (L0 x0 x1 (w64 (x2+1)) x3 x4 x5 x6 x7 x8 x9))))
 else
 (bif (x3==5) then
 (bif ((List.getD x0 (Int.toNat x2) (Ty.dflt TPlace)).2.2.2.1.1==4) then
 (rm (Ty.bytes TPlace) (List.length x9+1)
 (L0 x0 x1 (w64 (x2+1)) x3 x4 x5 x6 x7 x8 (x9++[(List.getD x0 (Int.toNat x2) (Ty.dflt TPlace))])))
 else
 (L0 x0 x1 (w64 (x2+1)) x3 x4 x5 x6 x7 x8 x9))
 else
 (L0 x0 x1 (w64 (x2+1)) x3 x4 x5 x6 x7 x8 x9)))))
 else
 (bif ((List.getD x0 (Int.toNat x2) (Ty.dflt TPlace)).2.2.2.1.1==x3) then
 (L0 x0 x1 (w64 (x2+1)) x3 x4 x5 x6 x7 x8 [])
 else
 (bif (x3==3) then
 (bif ((List.getD x0 (Int.toNat x2) (Ty.dflt TPlace)).2.2.2.1.1==1) then
 (rm (Ty.bytes TPlace) (List.length x9+1)
 (L0 x0 x1 (w64 (x2+1)) x3 x4 x5 x6 x7 x8 (x9++[(List.getD x0 (Int.toNat x2) (Ty.dflt TPlace))])))
 else
 (bif ((List.getD x0 (Int.toNat x2) (Ty.dflt TPlace)).2.2.2.1.1==2) then
 (bif ((List.getD x0 (Int.toNat x2) (Ty.dflt TPlace)).2.2.2.1.1==2) then
 (rm (Ty.bytes TPlace) (List.length x9+1)
 (L0 x0 x1 (w64 (x2+1)) x3 x4 x5 x6 x7 x8 (x9++[(List.getD x0 (Int.toNat x2) (Ty.dflt TPlace))])))
 else
 (L0 x0 x1 (w64 (x2+1)) x3 x4 x5 x6 x7 x8 x9))
 else
 (bif (x3==5) then
 (bif ((List.getD x0 (Int.toNat x2) (Ty.dflt TPlace)).2.2.2.1.1==4) then
 (rm (Ty.bytes TPlace) (List.length x9+1)
 (L0 x0 x1 (w64 (x2+1)) x3 x4 x5 x6 x7 x8 (x9++[(List.getD x0 (Int.toNat x2) (Ty.dflt TPlace))])))
 else
 (L0 x0 x1 (w64 (x2+1)) x3 x4 x5 x6 x7 x8 x9))
 else
 (L0 x0 x1 (w64 (x2+1)) x3 x4 x5 x6 x7 x8 x9))))
 else
 (bif (x3==5) then
 (bif ((List.getD x0 (Int.toNat x2) (Ty.dflt TPlace)).2.2.2.1.1==4) then
 (rm (Ty.bytes TPlace) (List.length x9+1)
 (L0 x0 x1 (w64 (x2+1)) x3 x4 x5 x6 x7 x8 (x9++[(List.getD x0 (Int.toNat x2) (Ty.dflt TPlace))])))
 else
 (L0 x0 x1 (w64 (x2+1)) x3 x4 x5 x6 x7 x8 x9))
 else
 (L0 x0 x1 (w64 (x2+1)) x3 x4 x5 x6 x7 x8 x9))))))
 else
 (some (x9,())))
def l0 (k:Nat):Nat→T0
 | 0=>fun _ _ _ _ _ _ _ _ _ _=>none
 | n+1=>b0 k (l0 k n)
def t (k:Nat) (L0:T0) (a0:List (Ty.den TPlace)) (a1:Ty.den TRec):Rs :=
 (L0 a0 (List.length a0:Int) 0 a1.1 a1.2.1 a1.2.2.1 a1.2.2.2.1 a1.2.2.2.2.1 a1.2.2.2.2.2.1 [])
def f (k:Nat):=t k (l0 k k)
end impl_ownOf
namespace impl_DirDrop
abbrev Rs:Type:=Option ((List (Ty.den TEntry)) × Unit)
abbrev T0:Type:=ByteArray→List (Ty.den TEntry)→Int→Int→List (Ty.den TEntry)→Rs
def b0 (k:Nat) (L0:T0):T0:=fun x0 x1 x2 x3 x4 =>
 (bif (decide (x3<x2)) then
 (inb x3 (x1.length:Int)
 (bif (!(seq (List.getD x1 (Int.toNat x3) (Ty.dflt TEntry)).1 x0)) then
 (rm (Ty.bytes TEntry) (List.length x4+1)
 (L0 x0 x1 x2 (w64 (x3+1)) (x4++[(List.getD x1 (Int.toNat x3) (Ty.dflt TEntry))])))
 else
 (L0 x0 x1 x2 (w64 (x3+1)) x4)))
 else
 (some (x4,())))
def l0 (k:Nat):Nat→T0
 | 0=>fun _ _ _ _ _=>none
 | n+1=>b0 k (l0 k n)
def t (k:Nat) (L0:T0) (a0:List (Ty.den TEntry)) (a1:ByteArray):Rs :=
 (L0 a1 a0 (List.length a0:Int) 0 [])
def f (k:Nat):=t k (l0 k k)
end impl_DirDrop
namespace impl_DirPut
abbrev Rs:Type:=Option ((List (Ty.den TEntry)) × Unit)
abbrev T0:Type:=Int→ByteArray→Int→Int→Int→Int→List (Ty.den TEntry)→Rs
def b0 (k:Nat) (L0:T0):T0:=fun x0 x1 x2 x3 x4 x5 x6 =>
 (bif (decide (x0<(x6.length:Int))) then
 (inb x0 (x6.length:Int)
 (bif ((sls (List.getD x6 (Int.toNat x0) (Ty.dflt TEntry)).1 x1)||(seq (List.getD x6 (Int.toNat x0) (Ty.dflt TEntry)).1 x1)) then
 (L0 (w64 (x0+1)) x1 x2 x3 x4 x5 x6)
 else
 (inc x0 (x6.length:Int)
 ((impl_copyDir.f k (List.take (Int.toNat x0) x6)).bind fun r2 =>
 (rm (Ty.bytes TEntry) (List.length r2.1+1)
 (inc x0 (x6.length:Int)
 (rm (Ty.bytes TEntry) (List.length (r2.1++[(x1,(x2,(x3,(x4,(x5,())))))])+List.length (List.drop (Int.toNat x0) x6))
 (some (((r2.1++[(x1,(x2,(x3,(x4,(x5,())))))])++(List.drop (Int.toNat x0) x6)),())))))))))
 else
 (inc x0 (x6.length:Int)
 ((impl_copyDir.f k (List.take (Int.toNat x0) x6)).bind fun r3 =>
 (rm (Ty.bytes TEntry) (List.length r3.1+1)
 (inc x0 (x6.length:Int)
 (rm (Ty.bytes TEntry) (List.length (r3.1++[(x1,(x2,(x3,(x4,(x5,())))))])+List.length (List.drop (Int.toNat x0) x6))
 (some (((r3.1++[(x1,(x2,(x3,(x4,(x5,())))))])++(List.drop (Int.toNat x0) x6)),()))))))))
def l0 (k:Nat):Nat→T0
 | 0=>fun _ _ _ _ _ _ _=>none
 | n+1=>b0 k (l0 k n)
def t (k:Nat) (L0:T0) (a0:List (Ty.den TEntry)) (a1:Ty.den TEntry):Rs :=
 ((impl_DirDrop.f k a0 a1.1).bind fun r1 =>
 (L0 0 a1.1 a1.2.1 a1.2.2.1 a1.2.2.2.1 a1.2.2.2.2.1 r1.1))
def f (k:Nat):=t k (l0 k k)
end impl_DirPut
namespace impl_Group__apply
abbrev Rs:Type:=Option ((Ty.den TGroup) × Unit)
abbrev T0:Type:=List (Ty.den TPlace)→Int→Int→List (Ty.den TEntry)→Int→Int→Rs
def b0 (k:Nat) (L0:T0):T0:=fun x0 x1 x2 x3 x4 x5 =>
 (bif (decide (x2<x1)) then
 (inb x2 (x0.length:Int)
 (bif ((List.getD x0 (Int.toNat x2) (Ty.dflt TPlace)).2.2.2.1.1==2) then
 ((impl_DirDrop.f k x3 (List.getD x0 (Int.toNat x2) (Ty.dflt TPlace)).2.2.2.1.2.2.1).bind fun r1 =>
 (L0 x0 x1 (w64 (x2+1)) r1.1 x4 x5))
 else
 ((impl_DirPut.f k x3 ((List.getD x0 (Int.toNat x2) (Ty.dflt TPlace)).2.2.2.1.2.2.1,((List.getD x0 (Int.toNat x2) (Ty.dflt TPlace)).1,((List.getD x0 (Int.toNat x2) (Ty.dflt TPlace)).2.1,((List.getD x0 (Int.toNat x2) (Ty.dflt TPlace)).2.2.1,((List.getD x0 (Int.toNat x2) (Ty.dflt TPlace)).2.2.2.1.2.1,())))))).bind fun r2 =>
 (L0 x0 x1 (w64 (x2+1)) r2.1 x4 x5))))
 else
 (bif (decide ((x3.length:Int) > 20)) then
 (some ((x3,(x4,(2,()))),()))
 else
 (some ((x3,(x4,(x5,()))),()))))
def l0 (k:Nat):Nat→T0
 | 0=>fun _ _ _ _ _ _=>none
 | n+1=>b0 k (l0 k n)
def t (k:Nat) (L0:T0) (a0:Ty.den TGroup) (a1:List (Ty.den TPlace)):Rs :=
 (L0 a1 (List.length a1:Int) 0 a0.1 a0.2.1 a0.2.2.1)
def f (k:Nat):=t k (l0 k k)
end impl_Group__apply
namespace impl_Regroup
abbrev Rs:Type:=Option ((Ty.den TGroup) × Unit)
abbrev T0:Type:=List (Ty.den TPlace)→List (Ty.den TPlace)→Int→Int→List (Ty.den TEntry)→Int→Int→List (Ty.den TEntry)→Int→Int→Rs
def b0 (k:Nat) (L0:T0):T0:=fun x0 x1 x2 x3 x4 x5 x6 x7 x8 x9 =>
 (bif (decide (x3<x2)) then
 (inb x3 (x1.length:Int)
 (bif (x9 != 0) then
 (some ((x7,(x8,(x9,()))),()))
 else
 (bif ((List.getD x1 (Int.toNat x3) (Ty.dflt TPlace)).2.2.2.1.1 != 3) then
 (bif ((List.getD x1 (Int.toNat x3) (Ty.dflt TPlace)).2.2.2.1.1 != 5) then
 (L0 x0 x1 x2 (w64 (x3+1)) x4 x5 x6 x7 (if (List.getD x1 (Int.toNat x3) (Ty.dflt TPlace)).2.2.2.1.2.1 > x8 then (List.getD x1 (Int.toNat x3) (Ty.dflt TPlace)).2.2.2.1.2.1 else x8) x9)
 else
 (inc x3 (x0.length:Int)
 ((impl_ownOf.f k (List.take (Int.toNat x3) x0) (List.getD x1 (Int.toNat x3) (Ty.dflt TPlace)).2.2.2.1).bind fun r2 =>
 ((impl_fits.f k (List.getD x1 (Int.toNat x3) (Ty.dflt TPlace)).2.2.2.1 r2.1).bind fun r3 =>
 (bif r3.1 then
 ((impl_Group__apply.f k (x7,((if (List.getD x1 (Int.toNat x3) (Ty.dflt TPlace)).2.2.2.1.2.1 > x8 then (List.getD x1 (Int.toNat x3) (Ty.dflt TPlace)).2.2.2.1.2.1 else x8),(x9,()))) r2.1).bind fun r4 =>
 (L0 x0 x1 x2 (w64 (x3+1)) x4 x5 x6 r4.1.1 r4.1.2.1 r4.1.2.2.1))
 else
 (bif ((List.getD x1 (Int.toNat x3) (Ty.dflt TPlace)).2.2.2.1.1==5) then
 (L0 x0 x1 x2 (w64 (x3+1)) x4 x5 x6 x7 (if (List.getD x1 (Int.toNat x3) (Ty.dflt TPlace)).2.2.2.1.2.1 > x8 then (List.getD x1 (Int.toNat x3) (Ty.dflt TPlace)).2.2.2.1.2.1 else x8) 1)
 else
 (L0 x0 x1 x2 (w64 (x3+1)) x4 x5 x6 x7 (if (List.getD x1 (Int.toNat x3) (Ty.dflt TPlace)).2.2.2.1.2.1 > x8 then (List.getD x1 (Int.toNat x3) (Ty.dflt TPlace)).2.2.2.1.2.1 else x8) x9)))))))
 else
 (inc x3 (x0.length:Int)
 ((impl_ownOf.f k (List.take (Int.toNat x3) x0) (List.getD x1 (Int.toNat x3) (Ty.dflt TPlace)).2.2.2.1).bind fun r5 =>
 ((impl_fits.f k (List.getD x1 (Int.toNat x3) (Ty.dflt TPlace)).2.2.2.1 r5.1).bind fun r6 =>
 (bif r6.1 then
 ((impl_Group__apply.f k (x7,((if (List.getD x1 (Int.toNat x3) (Ty.dflt TPlace)).2.2.2.1.2.1 > x8 then (List.getD x1 (Int.toNat x3) (Ty.dflt TPlace)).2.2.2.1.2.1 else x8),(x9,()))) r5.1).bind fun r7 =>
 (L0 x0 x1 x2 (w64 (x3+1)) x4 x5 x6 r7.1.1 r7.1.2.1 r7.1.2.2.1))
 else
 (bif ((List.getD x1 (Int.toNat x3) (Ty.dflt TPlace)).2.2.2.1.1==5) then
 (L0 x0 x1 x2 (w64 (x3+1)) x4 x5 x6 x7 (if (List.getD x1 (Int.toNat x3) (Ty.dflt TPlace)).2.2.2.1.2.1 > x8 then (List.getD x1 (Int.toNat x3) (Ty.dflt TPlace)).2.2.2.1.2.1 else x8) 1)
 else
 (L0 x0 x1 x2 (w64 (x3+1)) x4 x5 x6 x7 (if (List.getD x1 (Int.toNat x3) (Ty.dflt TPlace)).2.2.2.1.2.1 > x8 then (List.getD x1 (Int.toNat x3) (Ty.dflt TPlace)).2.2.2.1.2.1 else x8) x9)))))))))
 else
 (bif (x9==0) then
 ((impl_ownOf.f k x0 (5,(0,(ByteArray.empty,(ByteArray.empty,(0,(0,()))))))).bind fun r8 =>
 (bif (decide ((List.length r8.1:Int) > 0)) then
 (some ((x7,(x8,(1,()))),()))
 else
 (some ((x7,(x8,(x9,()))),()))))
 else
 (some ((x7,(x8,(x9,()))),()))))
def l0 (k:Nat):Nat→T0
 | 0=>fun _ _ _ _ _ _ _ _ _ _=>none
 | n+1=>b0 k (l0 k n)
def t (k:Nat) (L0:T0) (a0:Ty.den TGroup) (a1:List (Ty.den TPlace)):Rs :=
 ((impl_copyDir.f k a0.1).bind fun r1 =>
 (L0 a1 a1 (List.length a1:Int) 0 [] 0 0 r1.1 a0.2.1 a0.2.2.1))
def f (k:Nat):=t k (l0 k k)
end impl_Regroup
namespace impl_IdOf
abbrev Rs:Type:=Option (Int × Bool × Unit)
def t (k:Nat) (a0:ByteArray):Rs :=
 ((lib_CutPrefix.f k a0 (⟨#[115,101,103]⟩:ByteArray)).bind fun r1 =>
 (bif (!r1.2.1) then
 ((lib_CutPrefix.f k a0 (⟨#[104,105,110,116]⟩:ByteArray)).bind fun r2 =>
 ((impl_ReadDec.f k r2.1).bind fun r3 =>
 (bif (!r2.2.1) then
 (some (0,(false,())))
 else
 (bif (!r3.2.1) then
 (some (0,(false,())))
 else
 ((impl_in.f k r3.1 1 100000).bind fun r4 =>
 (bif (!r4.1) then
 (some (0,(false,())))
 else
 (some (r3.1,(true,())))))))))
 else
 ((impl_ReadDec.f k r1.1).bind fun r5 =>
 (bif (!r1.2.1) then
 (some (0,(false,())))
 else
 (bif (!r5.2.1) then
 (some (0,(false,())))
 else
 ((impl_in.f k r5.1 1 100000).bind fun r6 =>
 (bif (!r6.1) then
 (some (0,(false,())))
 else
 (some (r5.1,(true,()))))))))))
def f (k:Nat):=t k
end impl_IdOf
namespace impl_hasInt
abbrev Rs:Type:=Option (Bool × Unit)
abbrev T0:Type:=Int→List Int→Int→Int→Rs
def b0 (k:Nat) (L0:T0):T0:=fun x0 x1 x2 x3 =>
 (bif (decide (x3<x2)) then
 (inb x3 (x1.length:Int)
 (bif ((List.getD x1 (Int.toNat x3) (Ty.dflt (.int .i64)))==x0) then
 (some (true,()))
 else
 (L0 x0 x1 x2 (w64 (x3+1)))))
 else
 (some (false,())))
def l0 (k:Nat):Nat→T0
 | 0=>fun _ _ _ _=>none
 | n+1=>b0 k (l0 k n)
def t (k:Nat) (L0:T0) (a0:List Int) (a1:Int):Rs :=
 (L0 a1 a0 (List.length a0:Int) 0)
def f (k:Nat):=t k (l0 k k)
end impl_hasInt
namespace impl_Orphans
abbrev Rs:Type:=Option ((List ByteArray) × Unit)
abbrev T0:Type:=List (Ty.den TPair)→Int→Int→Int→List Int→List ByteArray→Rs
def b0 (k:Nat) (L0:T0):T0:=fun x0 x1 x2 x3 x4 x5 =>
 (bif (decide (x2<x1)) then
 (inb x2 (x0.length:Int)
 ((impl_IdOf.f k (List.getD x0 (Int.toNat x2) (Ty.dflt TPair)).1).bind fun r2 =>
 (bif (seq (List.getD x0 (Int.toNat x2) (Ty.dflt TPair)).1 (⟨#[116,101,109,112]⟩:ByteArray)) then
 (rm (Ty.bytes .str) (List.length x5+1)
 (L0 x0 x1 (w64 (x2+1)) x3 x4 (x5++[(List.getD x0 (Int.toNat x2) (Ty.dflt TPair)).1])))
 else
 (bif r2.2.1 then
 ((impl_hasInt.f k x4 r2.1).bind fun r3 =>
 (bif (!r3.1) then
 (rm (Ty.bytes .str) (List.length x5+1)
 (L0 x0 x1 (w64 (x2+1)) x3 x4 (x5++[(List.getD x0 (Int.toNat x2) (Ty.dflt TPair)).1])))
 else
 (L0 x0 x1 (w64 (x2+1)) x3 x4 x5)))
 else
 (L0 x0 x1 (w64 (x2+1)) x3 x4 x5)))))
 else
 (some (x5,())))
def l0 (k:Nat):Nat→T0
 | 0=>fun _ _ _ _ _ _=>none
 | n+1=>b0 k (l0 k n)
def t (k:Nat) (L0:T0) (a0:Ty.den TDisk) (a1:Ty.den TLive):Rs :=
 ((impl_DiskOk.f k a0).bind fun r1 =>
 (bif (!r1.1) then
 (some ([],()))
 else
 (L0 a0.1 (List.length a0.1:Int) 0 a1.1 a1.2.1 [])))
def f (k:Nat):=t k (l0 k k)
end impl_Orphans
namespace impl_Disk__drop
abbrev Rs:Type:=Option ((Ty.den TDisk) × Unit)
def t (k:Nat) (a0:Ty.den TDisk) (a1:ByteArray):Rs :=
 ((impl_fileAt.f k a0 a1).bind fun r1 =>
 (bif (decide (r1.1≥0)) then
 (inc r1.1 (List.length a0.1:Int)
 (rm (Ty.bytes TPair) (List.length (List.take (Int.toNat r1.1) a0.1))
 (inc (w64 (r1.1+1)) (List.length a0.1:Int)
 (rm (Ty.bytes TPair) (List.length (List.take (Int.toNat r1.1) a0.1)+List.length (List.drop (Int.toNat (w64 (r1.1+1))) a0.1))
 (some ((((List.take (Int.toNat r1.1) a0.1)++(List.drop (Int.toNat (w64 (r1.1+1))) a0.1)),a0.2),()))))))
 else
 (some (a0,()))))
def f (k:Nat):=t k
end impl_Disk__drop
namespace impl_Remove_1
abbrev Rs:Type:=Option ((Ty.den TDisk) × ByteArray × Int × Unit)
def t (k:Nat) (a0:Ty.den TDisk) (a1:ByteArray):Rs :=
 ((impl_fileAt.f k a0 a1).bind fun r1 =>
 (bif (decide (r1.1<0)) then
 (some (a0,(a1,(3,()))))
 else
 ((impl_Disk__drop.f k a0 a1).bind fun r2 =>
 (some (r2.1,(a1,(0,())))))))
def f (k:Nat):=t k
end impl_Remove_1
namespace impl_step_Remove_1
abbrev Rs:Type:=Option (ByteArray × (Ty.den TDisk) × Int × Unit)
def t (k:Nat) (a0:Ty.den TDisk) (a1:ByteArray):Rs :=
 ((impl_copyDisk.f k a0).bind fun r1 =>
 ((impl_DiskOk.f k a0).bind fun r2 =>
 (bif (!r2.1) then
 (some (a1,(r1.1,(5,()))))
 else
 (bif a0.2.2.2.1 then
 (some (a1,((r1.1.1,(r1.1.2.1,(r1.1.2.2.1,(true,())))),(1,()))))
 else
 (bif (a0.2.2.1==0) then
 (some (a1,((r1.1.1,(r1.1.2.1,(r1.1.2.2.1,(true,())))),(1,()))))
 else
 (bif (decide (a0.2.2.1 > 0)) then
 ((impl_Remove_1.f k (r1.1.1,(r1.1.2.1,((w64 (r1.1.2.2.1-1)),r1.1.2.2.2))) a1).bind fun r3 =>
 (some (r3.2.1,(r3.1,r3.2.2))))
 else
 ((impl_Remove_1.f k r1.1 a1).bind fun r4 =>
 (some (r4.2.1,(r4.1,r4.2.2))))))))))
def f (k:Nat):=t k
end impl_step_Remove_1
namespace impl_Remove
abbrev Rs:Type:=Option ((Ty.den TDisk) × Int × Unit)
def t (k:Nat) (a0:Ty.den TDisk) (a1:ByteArray):Rs :=
 ((impl_step_Remove_1.f k a0 a1).bind fun r1 =>
 (some r1.2))
def f (k:Nat):=t k
end impl_Remove
namespace impl_worker__gone
abbrev Rs:Type:=Option ((Ty.den Tworker) × Unit)
def t (k:Nat) (a0:Ty.den Tworker) (a1:ByteArray):Rs :=
 (bif (a0.2.1==0) then
 ((impl_fileAt.f k a0.1 a1).bind fun r1 =>
 (bif (decide (r1.1≥0)) then
 ((impl_Remove.f k a0.1 a1).bind fun r2 =>
 ((impl_worker__took_g1.f k a0 r2.1 r2.2.1).bind fun r3 =>
 (some r3)))
 else
 (some (a0,()))))
 else
 (some (a0,())))
def f (k:Nat):=t k
end impl_worker__gone
namespace impl_worker__orphans
abbrev Rs:Type:=Option ((Ty.den Tworker) × Unit)
abbrev T0:Type:=Int→Int→List (Ty.den TPair)→Int→Int→Bool→Int→List ByteArray→Rs
def b0 (k:Nat) (L0:T0):T0:=fun x0 x1 x2 x3 x4 x5 x6 x7 =>
 (bif (decide (x1<x0)) then
 (inb x1 (x7.length:Int)
 ((impl_worker__gone.f k ((x2,(x3,(x4,(x5,())))),(x6,())) (List.getD x7 (Int.toNat x1) (Ty.dflt .str))).bind fun r2 =>
 (L0 x0 (w64 (x1+1)) r2.1.1.1 r2.1.1.2.1 r2.1.1.2.2.1 r2.1.1.2.2.2.1 r2.1.2.1 x7)))
 else
 (some (((x2,(x3,(x4,(x5,())))),(x6,())),())))
def l0 (k:Nat):Nat→T0
 | 0=>fun _ _ _ _ _ _ _ _=>none
 | n+1=>b0 k (l0 k n)
def t (k:Nat) (L0:T0) (a0:Ty.den Tworker) (a1:Ty.den TLive):Rs :=
 ((impl_Orphans.f k a0.1 a1).bind fun r1 =>
 (L0 (List.length r1.1:Int) 0 a0.1.1 a0.1.2.1 a0.1.2.2.1 a0.1.2.2.2.1 a0.2.1 r1.1))
def f (k:Nat):=t k (l0 k k)
end impl_worker__orphans
namespace impl_worker__found
abbrev Rs:Type:=Option ((Ty.den Tworker) × (Ty.den TStore) × Unit)
abbrev T0:Type:=List (List (Ty.den TPlace))→Int→Int→List (Ty.den TPair)→Int→Int→Bool→Int→List Int→List (Ty.den TEntry)→Int→Int→Int→Int→List Int→Int→List (Ty.den TEntry)→Int→Int→Int→Int→List (Ty.den TEntry)→Int→Int→List (Ty.den TPlace)→Rs
abbrev T1:Type:=Int→Int→List (Ty.den TPair)→Int→Int→Bool→Int→List Int→List (Ty.den TEntry)→Int→Int→Int→Int→List Int→Int→List (Ty.den TEntry)→Int→Int→Int→Int→List (Ty.den TEntry)→Int→Int→List (Ty.den TPlace)→List (List (Ty.den TPlace))→Rs
abbrev T2:Type:=List (List (Ty.den TPlace))→Int→Int→List (Ty.den TPair)→Int→Int→Bool→Int→List Int→List (Ty.den TEntry)→Int→Int→Int→Int→List Int→Int→List (Ty.den TEntry)→Int→Int→Int→Int→List (Ty.den TEntry)→Int→Int→List (Ty.den TPlace)→Rs
abbrev T3:Type:=Int→Int→List (Ty.den TPair)→Int→Int→Bool→Int→List Int→List (Ty.den TEntry)→Int→Int→Int→Int→List Int→Int→List (Ty.den TEntry)→Int→Int→Int→Int→List (Ty.den TEntry)→Int→Int→List (Ty.den TPlace)→List (List (Ty.den TPlace))→Rs
def b0 (k:Nat) (L0:T0):T0:=fun x0 x1 x2 x3 x4 x5 x6 x7 x8 x9 x10 x11 x12 x13 x14 x15 x16 x17 x18 x19 x20 x21 x22 x23 x24 =>
 (bif (decide (x2<x1)) then
 (inb x2 (x0.length:Int)
 (rm (Ty.bytes TPlace) (List.length x24+List.length (List.getD x0 (Int.toNat x2) (Ty.dflt (.slice TPlace))))
 (L0 x0 x1 (w64 (x2+1)) x3 x4 x5 x6 x7 x8 x9 x10 x11 x12 x13 x14 x15 x16 x17 x18 x19 x20 x21 x22 x23 (x24++(List.getD x0 (Int.toNat x2) (Ty.dflt (.slice TPlace)))))))
 else
 ((impl_Regroup.f k (x21,(x22,(x23,()))) x24).bind fun r9 =>
 (bif (r9.1.2.2.1 != 0) then
 (some (((x3,(x4,(x5,(x6,())))),(3,())),(((0,([],())),([],(0,(0,(0,()))))),())))
 else
 ((impl_worker__orphans.f k ((x3,(x4,(x5,(x6,())))),(x7,())) (x15,(x14,()))).bind fun r10 =>
 (some (r10.1,(((x17,(x14,())),(r9.1.1,((w64 (r9.1.2.1+1)),(x19,(x20,()))))),())))))))
def l0 (k:Nat):Nat→T0
 | 0=>fun _ _ _ _ _ _ _ _ _ _ _ _ _ _ _ _ _ _ _ _ _ _ _ _ _=>none
 | n+1=>b0 k (l0 k n)
def b1 (k:Nat) (L1:T1):T1:=fun x0 x1 x2 x3 x4 x5 x6 x7 x8 x9 x10 x11 x12 x13 x14 x15 x16 x17 x18 x19 x20 x21 x22 x23 x24 =>
 (bif (decide (x1<x0)) then
 (inb x1 (x24.length:Int)
 (rm (Ty.bytes TPlace) (List.length x23+List.length (List.getD x24 (Int.toNat x1) (Ty.dflt (.slice TPlace))))
 (L1 x0 (w64 (x1+1)) x2 x3 x4 x5 x6 x7 x8 x9 x10 x11 x12 x13 x14 x15 x16 x17 x18 x19 x20 x21 x22 (x23++(List.getD x24 (Int.toNat x1) (Ty.dflt (.slice TPlace)))) x24)))
 else
 ((impl_Regroup.f k (x20,(x21,(x22,()))) x23).bind fun r11 =>
 (bif (r11.1.2.2.1 != 0) then
 (some (((x2,(x3,(x4,(x5,())))),(3,())),(((0,([],())),([],(0,(0,(0,()))))),())))
 else
 ((impl_worker__orphans.f k ((x2,(x3,(x4,(x5,())))),(x6,())) (x14,(x13,()))).bind fun r12 =>
 (some (r12.1,(((x16,(x13,())),(r11.1.1,((w64 (r11.1.2.1+1)),(x18,(x19,()))))),())))))))
def l1 (k:Nat):Nat→T1
 | 0=>fun _ _ _ _ _ _ _ _ _ _ _ _ _ _ _ _ _ _ _ _ _ _ _ _ _=>none
 | n+1=>b1 k (l1 k n)
def b2 (k:Nat) (L2:T2):T2:=fun x0 x1 x2 x3 x4 x5 x6 x7 x8 x9 x10 x11 x12 x13 x14 x15 x16 x17 x18 x19 x20 x21 x22 x23 x24 =>
 (bif (decide (x2<x1)) then
 (inb x2 (x0.length:Int)
 (rm (Ty.bytes TPlace) (List.length x24+List.length (List.getD x0 (Int.toNat x2) (Ty.dflt (.slice TPlace))))
 (L2 x0 x1 (w64 (x2+1)) x3 x4 x5 x6 x7 x8 x9 x10 x11 x12 x13 x14 x15 x16 x17 x18 x19 x20 x21 x22 x23 (x24++(List.getD x0 (Int.toNat x2) (Ty.dflt (.slice TPlace)))))))
 else
 ((impl_Regroup.f k (x21,(x22,(x23,()))) x24).bind fun r15 =>
 (bif (r15.1.2.2.1 != 0) then
 (some (((x3,(x4,(x5,(x6,())))),(3,())),(((0,([],())),([],(0,(0,(0,()))))),())))
 else
 ((impl_worker__orphans.f k ((x3,(x4,(x5,(x6,())))),(x7,())) (x15,(x14,()))).bind fun r16 =>
 (some (r16.1,(((x17,(x14,())),(r15.1.1,((w64 (r15.1.2.1+1)),(x19,(x20,()))))),())))))))
def l2 (k:Nat):Nat→T2
 | 0=>fun _ _ _ _ _ _ _ _ _ _ _ _ _ _ _ _ _ _ _ _ _ _ _ _ _=>none
 | n+1=>b2 k (l2 k n)
def b3 (k:Nat) (L3:T3):T3:=fun x0 x1 x2 x3 x4 x5 x6 x7 x8 x9 x10 x11 x12 x13 x14 x15 x16 x17 x18 x19 x20 x21 x22 x23 x24 =>
 (bif (decide (x1<x0)) then
 (inb x1 (x24.length:Int)
 (rm (Ty.bytes TPlace) (List.length x23+List.length (List.getD x24 (Int.toNat x1) (Ty.dflt (.slice TPlace))))
 (L3 x0 (w64 (x1+1)) x2 x3 x4 x5 x6 x7 x8 x9 x10 x11 x12 x13 x14 x15 x16 x17 x18 x19 x20 x21 x22 (x23++(List.getD x24 (Int.toNat x1) (Ty.dflt (.slice TPlace)))) x24)))
 else
 ((impl_Regroup.f k (x20,(x21,(x22,()))) x23).bind fun r17 =>
 (bif (r17.1.2.2.1 != 0) then
 (some (((x2,(x3,(x4,(x5,())))),(3,())),(((0,([],())),([],(0,(0,(0,()))))),())))
 else
 ((impl_worker__orphans.f k ((x2,(x3,(x4,(x5,())))),(x6,())) (x14,(x13,()))).bind fun r18 =>
 (some (r18.1,(((x16,(x13,())),(r17.1.1,((w64 (r17.1.2.1+1)),(x18,(x19,()))))),())))))))
def l3 (k:Nat):Nat→T3
 | 0=>fun _ _ _ _ _ _ _ _ _ _ _ _ _ _ _ _ _ _ _ _ _ _ _ _ _=>none
 | n+1=>b3 k (l3 k n)
def t (k:Nat) (L0:T0) (L1:T1) (L2:T2) (L3:T3) (a0:Ty.den Tworker) (a1:ByteArray):Rs :=
 ((impl_ReadLive.f k a1).bind fun r1 =>
 ((impl_worker__scanAll.f k a0 r1.1).bind fun r2 =>
 (bif (!r1.2.1) then
 (some ((r2.1.1,(3,())),(((0,([],())),([],(0,(0,(0,()))))),())))
 else
 (bif (!r2.2.2.2.1) then
 (some ((r2.1.1,(3,())),(((0,([],())),([],(0,(0,(0,()))))),())))
 else
 (inb (w64 ((List.length r1.1.2.1:Int)-1)) (List.length r1.1.2.1:Int)
 ((impl_SegName.f k (List.getD r1.1.2.1 (Int.toNat (w64 ((List.length r1.1.2.1:Int)-1))) (Ty.dflt (.int .i64)))).bind fun r3 =>
 ((impl_FileText.f k r2.1.1 r3.1).bind fun r4 =>
 (bif ((ByteArray.size r4.1:Int) != r2.2.2.1) then
 ((impl_Truncate.f k r2.1.1 r3.1 r2.2.2.1).bind fun r5 =>
 ((impl_worker__took_g1.f k r2.1 r5.1 r5.2.1).bind fun r6 =>
 ((impl_worker__sync.f k r6.1 r3.1).bind fun r7 =>
 (bif (r7.1.2.1 != 0) then
 (some (r7.1,(((0,([],())),([],(0,(0,(0,()))))),())))
 else
 (inb 0 (List.length r1.1.2.1:Int)
 ((impl_worker__hinted.f k r7.1 (List.getD r1.1.2.1 0 (Ty.dflt (.int .i64)))).bind fun r8 =>
 (bif r8.2.2.1 then
 (inb 0 (List.length r1.1.2.1:Int)
 (inc 1 (List.length r2.2.1:Int)
 (L0 (List.drop 1 r2.2.1) (List.length (List.drop 1 r2.2.1):Int) 0 r8.1.1.1 r8.1.1.2.1 r8.1.1.2.2.1 r8.1.1.2.2.2.1 r8.1.2.1 [] [] 0 0 0 0 r1.1.2.1 r1.1.1 [] r1.1.1 0 r2.2.2.1 (List.getD r1.1.2.1 0 (Ty.dflt (.int .i64))) r8.2.1.1 r8.2.1.2.1 r8.2.1.2.2.1 [])))
 else
 (L1 (List.length r2.2.1:Int) 0 r8.1.1.1 r8.1.1.2.1 r8.1.1.2.2.1 r8.1.1.2.2.2.1 r8.1.2.1 [] [] 0 0 0 0 r1.1.2.1 r1.1.1 [] r1.1.1 0 r2.2.2.1 0 r8.2.1.1 r8.2.1.2.1 r8.2.1.2.2.1 [] r2.2.1))))))))
 else
 ((impl_worker__sync.f k r2.1 r3.1).bind fun r13 =>
 (bif (r13.1.2.1 != 0) then
 (some (r13.1,(((0,([],())),([],(0,(0,(0,()))))),())))
 else
 (inb 0 (List.length r1.1.2.1:Int)
 ((impl_worker__hinted.f k r13.1 (List.getD r1.1.2.1 0 (Ty.dflt (.int .i64)))).bind fun r14 =>
 (bif r14.2.2.1 then
 (inb 0 (List.length r1.1.2.1:Int)
 (inc 1 (List.length r2.2.1:Int)
 (L2 (List.drop 1 r2.2.1) (List.length (List.drop 1 r2.2.1):Int) 0 r14.1.1.1 r14.1.1.2.1 r14.1.1.2.2.1 r14.1.1.2.2.2.1 r14.1.2.1 [] [] 0 0 0 0 r1.1.2.1 r1.1.1 [] r1.1.1 0 r2.2.2.1 (List.getD r1.1.2.1 0 (Ty.dflt (.int .i64))) r14.2.1.1 r14.2.1.2.1 r14.2.1.2.2.1 [])))
 else
 (L3 (List.length r2.2.1:Int) 0 r14.1.1.1 r14.1.1.2.1 r14.1.1.2.2.1 r14.1.1.2.2.2.1 r14.1.2.1 [] [] 0 0 0 0 r1.1.2.1 r1.1.1 [] r1.1.1 0 r2.2.2.1 0 r14.2.1.1 r14.2.1.2.1 r14.2.1.2.2.1 [] r2.2.1))))))))))))))
def f (k:Nat):=t k (l0 k k) (l1 k k) (l2 k k) (l3 k k)
end impl_worker__found
namespace impl_Disk__put
abbrev Rs:Type:=Option ((Ty.den TDisk) × Unit)
abbrev T0:Type:=Int→List (Ty.den TPair)→Int→Int→Bool→ByteArray→ByteArray→Int→Rs
def b0 (k:Nat) (L0:T0):T0:=fun x0 x1 x2 x3 x4 x5 x6 x7 =>
 (bif (decide (x0<(x1.length:Int))) then
 (inb x0 (x1.length:Int)
 (bif (sls (List.getD x1 (Int.toNat x0) (Ty.dflt TPair)).1 x5) then
 (L0 (w64 (x0+1)) x1 x2 x3 x4 x5 x6 x7)
 else
 (inc x0 (x1.length:Int)
 (rm (Ty.bytes TPair) (List.length (List.take (Int.toNat x0) x1))
 (rm (Ty.bytes TPair) (List.length (List.take (Int.toNat x0) x1)+1)
 (inc x0 (x1.length:Int)
 (rm (Ty.bytes TPair) (List.length ((List.take (Int.toNat x0) x1)++[(x5,(x6,(x7,())))])+List.length (List.drop (Int.toNat x0) x1))
 (some (((((List.take (Int.toNat x0) x1)++[(x5,(x6,(x7,())))])++(List.drop (Int.toNat x0) x1)),(x2,(x3,(x4,())))),())))))))))
 else
 (inc x0 (x1.length:Int)
 (rm (Ty.bytes TPair) (List.length (List.take (Int.toNat x0) x1))
 (rm (Ty.bytes TPair) (List.length (List.take (Int.toNat x0) x1)+1)
 (inc x0 (x1.length:Int)
 (rm (Ty.bytes TPair) (List.length ((List.take (Int.toNat x0) x1)++[(x5,(x6,(x7,())))])+List.length (List.drop (Int.toNat x0) x1))
 (some (((((List.take (Int.toNat x0) x1)++[(x5,(x6,(x7,())))])++(List.drop (Int.toNat x0) x1)),(x2,(x3,(x4,())))),()))))))))
def l0 (k:Nat):Nat→T0
 | 0=>fun _ _ _ _ _ _ _ _=>none
 | n+1=>b0 k (l0 k n)
def t (k:Nat) (L0:T0) (a0:Ty.den TDisk) (a1:Ty.den TPair):Rs :=
 (L0 0 a0.1 a0.2.1 a0.2.2.1 a0.2.2.2.1 a1.1 a1.2.1 a1.2.2.1)
def f (k:Nat):=t k (l0 k k)
end impl_Disk__put
namespace impl_Create_1
abbrev Rs:Type:=Option ((Ty.den TDisk) × ByteArray × Int × Unit)
def t (k:Nat) (a0:Ty.den TDisk) (a1:ByteArray):Rs :=
 ((impl_NameOk.f k a1).bind fun r1 =>
 (bif (!r1.1) then
 (some (a0,(a1,(5,()))))
 else
 ((impl_fileAt.f k a0 a1).bind fun r2 =>
 (bif (decide (r2.1≥0)) then
 (some (a0,(a1,(4,()))))
 else
 (bif (decide ((List.length a0.1:Int)≥130)) then
 (some (a0,(a1,(2,()))))
 else
 ((impl_Disk__put.f k a0 (a1,(ByteArray.empty,(0,())))).bind fun r3 =>
 (some (r3.1,(a1,(0,()))))))))))
def f (k:Nat):=t k
end impl_Create_1
namespace impl_step_Create_1
abbrev Rs:Type:=Option (ByteArray × (Ty.den TDisk) × Int × Unit)
def t (k:Nat) (a0:Ty.den TDisk) (a1:ByteArray):Rs :=
 ((impl_copyDisk.f k a0).bind fun r1 =>
 ((impl_DiskOk.f k a0).bind fun r2 =>
 (bif (!r2.1) then
 (some (a1,(r1.1,(5,()))))
 else
 (bif a0.2.2.2.1 then
 (some (a1,((r1.1.1,(r1.1.2.1,(r1.1.2.2.1,(true,())))),(1,()))))
 else
 (bif (a0.2.2.1==0) then
 (some (a1,((r1.1.1,(r1.1.2.1,(r1.1.2.2.1,(true,())))),(1,()))))
 else
 (bif (decide (a0.2.2.1 > 0)) then
 ((impl_Create_1.f k (r1.1.1,(r1.1.2.1,((w64 (r1.1.2.2.1-1)),r1.1.2.2.2))) a1).bind fun r3 =>
 (some (r3.2.1,(r3.1,r3.2.2))))
 else
 ((impl_Create_1.f k r1.1 a1).bind fun r4 =>
 (some (r4.2.1,(r4.1,r4.2.2))))))))))
def f (k:Nat):=t k
end impl_step_Create_1
namespace impl_Create
abbrev Rs:Type:=Option ((Ty.den TDisk) × Int × Unit)
def t (k:Nat) (a0:Ty.den TDisk) (a1:ByteArray):Rs :=
 ((impl_step_Create_1.f k a0 a1).bind fun r1 =>
 (some r1.2))
def f (k:Nat):=t k
end impl_Create
namespace impl_worker__create
abbrev Rs:Type:=Option ((Ty.den Tworker) × Unit)
def t (k:Nat) (a0:Ty.den Tworker) (a1:ByteArray):Rs :=
 (bif (a0.2.1==0) then
 ((impl_Create.f k a0.1 a1).bind fun r1 =>
 ((impl_worker__took_g1.f k a0 r1.1 r1.2.1).bind fun r2 =>
 (some r2)))
 else
 (some (a0,())))
def f (k:Nat):=t k
end impl_worker__create
namespace impl_ShowLive
abbrev Rs:Type:=Option (ByteArray × Unit)
def t (k:Nat) (a0:Ty.den TLive):Rs :=
 ((impl_LiveOk.f k a0).bind fun r1 =>
 (bif (!r1.1) then
 (some ((⟨#[]⟩:ByteArray),()))
 else
 ((impl_vars.f k [a0.1,(List.length a0.2.1:Int)]).bind fun r2 =>
 ((impl_vars.f k a0.2.1).bind fun r3 =>
 (cat r2.1 r3.1
 ((impl_Frame.f k (r2.1++r3.1)).bind fun r4 =>
 (some r4)))))))
def f (k:Nat):=t k
end impl_ShowLive
namespace impl_worker__anew
abbrev Rs:Type:=Option ((Ty.den Tworker) × Unit)
def t (k:Nat) (a0:Ty.den Tworker) (a1:ByteArray):Rs :=
 ((impl_worker__gone.f k a0 a1).bind fun r1 =>
 ((impl_worker__create.f k r1.1 a1).bind fun r2 =>
 (some r2)))
def f (k:Nat):=t k
end impl_worker__anew
namespace impl_used
abbrev Rs:Type:=Option (Int × Unit)
abbrev T0:Type:=Int→List (Ty.den TPair)→Int→Int→Rs
def b0 (k:Nat) (L0:T0):T0:=fun x0 x1 x2 x3 =>
 (bif (decide (x3<x2)) then
 (inb x3 (x1.length:Int)
 (L0 (w64 (x0+(ByteArray.size (List.getD x1 (Int.toNat x3) (Ty.dflt TPair)).2.1:Int))) x1 x2 (w64 (x3+1))))
 else
 (some (x0,())))
def l0 (k:Nat):Nat→T0
 | 0=>fun _ _ _ _=>none
 | n+1=>b0 k (l0 k n)
def t (k:Nat) (L0:T0) (a0:Ty.den TDisk):Rs :=
 (L0 0 a0.1 (List.length a0.1:Int) 0)
def f (k:Nat):=t k (l0 k k)
end impl_used
namespace impl_Append_1
abbrev Rs:Type:=Option ((Ty.den TDisk) × ByteArray × ByteArray × Int × Unit)
def t (k:Nat) (a0:Ty.den TDisk) (a1:ByteArray) (a2:ByteArray):Rs :=
 ((impl_fileAt.f k a0 a1).bind fun r1 =>
 (bif (decide (r1.1<0)) then
 (some (a0,(a1,(a2,(3,())))))
 else
 ((impl_used.f k a0).bind fun r2 =>
 (bif (decide ((ByteArray.size a2:Int) > (w64 (a0.2.1-r2.1)))) then
 (some (a0,(a1,(a2,(2,())))))
 else
 (inb r1.1 (List.length a0.1:Int)
 (cat (List.getD a0.1 (Int.toNat r1.1) (Ty.dflt TPair)).2.1 a2
 (inb r1.1 (List.length a0.1:Int)
 (let l3:=(List.set a0.1 (Int.toNat r1.1) ((List.getD a0.1 (Int.toNat r1.1) (Ty.dflt TPair)).1,(((List.getD a0.1 (Int.toNat r1.1) (Ty.dflt TPair)).2.1++a2),(List.getD a0.1 (Int.toNat r1.1) (Ty.dflt TPair)).2.2)));
 (some ((l3,a0.2),(a1,(a2,(0,())))))))))))))
def f (k:Nat):=t k
end impl_Append_1
namespace impl_step_Append_1
abbrev Rs:Type:=Option (ByteArray × ByteArray × (Ty.den TDisk) × Int × Unit)
def t (k:Nat) (a0:Ty.den TDisk) (a1:ByteArray) (a2:ByteArray):Rs :=
 ((impl_copyDisk.f k a0).bind fun r1 =>
 ((impl_DiskOk.f k a0).bind fun r2 =>
 (bif (!r2.1) then
 (some (a1,(a2,(r1.1,(5,())))))
 else
 (bif a0.2.2.2.1 then
 (some (a1,(a2,((r1.1.1,(r1.1.2.1,(r1.1.2.2.1,(true,())))),(1,())))))
 else
 (bif (a0.2.2.1==0) then
 (some (a1,(a2,((r1.1.1,(r1.1.2.1,(r1.1.2.2.1,(true,())))),(1,())))))
 else
 (bif (decide (a0.2.2.1 > 0)) then
 ((impl_Append_1.f k (r1.1.1,(r1.1.2.1,((w64 (r1.1.2.2.1-1)),r1.1.2.2.2))) a1 a2).bind fun r3 =>
 (some (r3.2.1,(r3.2.2.1,(r3.1,r3.2.2.2)))))
 else
 ((impl_Append_1.f k r1.1 a1 a2).bind fun r4 =>
 (some (r4.2.1,(r4.2.2.1,(r4.1,r4.2.2.2)))))))))))
def f (k:Nat):=t k
end impl_step_Append_1
namespace impl_Append
abbrev Rs:Type:=Option ((Ty.den TDisk) × Int × Unit)
def t (k:Nat) (a0:Ty.den TDisk) (a1:ByteArray) (a2:ByteArray):Rs :=
 ((impl_step_Append_1.f k a0 a1 a2).bind fun r1 =>
 (some r1.2.2))
def f (k:Nat):=t k
end impl_Append
namespace impl_worker__put
abbrev Rs:Type:=Option ((Ty.den Tworker) × Unit)
def t (k:Nat) (a0:Ty.den Tworker) (a1:ByteArray) (a2:ByteArray):Rs :=
 (bif (a0.2.1==0) then
 ((impl_Append.f k a0.1 a1 a2).bind fun r1 =>
 ((impl_worker__took_g1.f k a0 r1.1 r1.2.1).bind fun r2 =>
 (some r2)))
 else
 (some (a0,())))
def f (k:Nat):=t k
end impl_worker__put
namespace impl_worker__fileOf
abbrev Rs:Type:=Option ((Ty.den Tworker) × Unit)
def t (k:Nat) (a0:Ty.den Tworker) (a1:ByteArray) (a2:ByteArray):Rs :=
 ((impl_worker__anew.f k a0 a1).bind fun r1 =>
 ((impl_worker__put.f k r1.1 a1 a2).bind fun r2 =>
 ((impl_worker__sync.f k r2.1 a1).bind fun r3 =>
 (some r3))))
def f (k:Nat):=t k
end impl_worker__fileOf
namespace impl_Rename_1
abbrev Rs:Type:=Option ((Ty.den TDisk) × ByteArray × ByteArray × Int × Unit)
def t (k:Nat) (a0:Ty.den TDisk) (a1:ByteArray) (a2:ByteArray):Rs :=
 ((impl_fileAt.f k a0 a1).bind fun r1 =>
 ((impl_NameOk.f k a2).bind fun r2 =>
 (bif (!r2.1) then
 (some (a0,(a1,(a2,(5,())))))
 else
 (bif (decide (r1.1<0)) then
 (some (a0,(a1,(a2,(3,())))))
 else
 (inb r1.1 (List.length a0.1:Int)
 ((impl_Disk__drop.f k a0 a1).bind fun r3 =>
 ((impl_Disk__drop.f k r3.1 a2).bind fun r4 =>
 ((impl_Disk__put.f k r4.1 (a2,(List.getD a0.1 (Int.toNat r1.1) (Ty.dflt TPair)).2)).bind fun r5 =>
 (some (r5.1,(a1,(a2,(0,())))))))))))))
def f (k:Nat):=t k
end impl_Rename_1
namespace impl_step_Rename_1
abbrev Rs:Type:=Option (ByteArray × ByteArray × (Ty.den TDisk) × Int × Unit)
def t (k:Nat) (a0:Ty.den TDisk) (a1:ByteArray) (a2:ByteArray):Rs :=
 ((impl_copyDisk.f k a0).bind fun r1 =>
 ((impl_DiskOk.f k a0).bind fun r2 =>
 (bif (!r2.1) then
 (some (a1,(a2,(r1.1,(5,())))))
 else
 (bif a0.2.2.2.1 then
 (some (a1,(a2,((r1.1.1,(r1.1.2.1,(r1.1.2.2.1,(true,())))),(1,())))))
 else
 (bif (a0.2.2.1==0) then
 (some (a1,(a2,((r1.1.1,(r1.1.2.1,(r1.1.2.2.1,(true,())))),(1,())))))
 else
 (bif (decide (a0.2.2.1 > 0)) then
 ((impl_Rename_1.f k (r1.1.1,(r1.1.2.1,((w64 (r1.1.2.2.1-1)),r1.1.2.2.2))) a1 a2).bind fun r3 =>
 (some (r3.2.1,(r3.2.2.1,(r3.1,r3.2.2.2)))))
 else
 ((impl_Rename_1.f k r1.1 a1 a2).bind fun r4 =>
 (some (r4.2.1,(r4.2.2.1,(r4.1,r4.2.2.2)))))))))))
def f (k:Nat):=t k
end impl_step_Rename_1
namespace impl_Rename
abbrev Rs:Type:=Option ((Ty.den TDisk) × Int × Unit)
def t (k:Nat) (a0:Ty.den TDisk) (a1:ByteArray) (a2:ByteArray):Rs :=
 ((impl_step_Rename_1.f k a0 a1 a2).bind fun r1 =>
 (some r1.2.2))
def f (k:Nat):=t k
end impl_Rename
namespace impl_worker__rename
abbrev Rs:Type:=Option ((Ty.den Tworker) × Unit)
def t (k:Nat) (a0:Ty.den Tworker) (a1:ByteArray) (a2:ByteArray):Rs :=
 (bif (a0.2.1==0) then
 ((impl_Rename.f k a0.1 a1 a2).bind fun r1 =>
 ((impl_worker__took_g1.f k a0 r1.1 r1.2.1).bind fun r2 =>
 (some r2)))
 else
 (some (a0,())))
def f (k:Nat):=t k
end impl_worker__rename
namespace impl_worker__putLive
abbrev Rs:Type:=Option ((Ty.den Tworker) × Unit)
def t (k:Nat) (a0:Ty.den Tworker) (a1:Ty.den TLive):Rs :=
 ((impl_ShowLive.f k a1).bind fun r1 =>
 ((impl_worker__fileOf.f k a0 (⟨#[116,101,109,112]⟩:ByteArray) r1.1).bind fun r2 =>
 ((impl_worker__rename.f k r2.1 (⟨#[116,101,109,112]⟩:ByteArray) (⟨#[108,105,118,101]⟩:ByteArray)).bind fun r3 =>
 (some r3))))
def f (k:Nat):=t k
end impl_worker__putLive
namespace impl_worker__first
abbrev Rs:Type:=Option ((Ty.den Tworker) × (Ty.den TStore) × Unit)
def t (k:Nat) (a0:Ty.den Tworker):Rs :=
 ((impl_worker__orphans.f k a0 (0,([],()))).bind fun r1 =>
 ((impl_SegName.f k 1).bind fun r2 =>
 ((impl_worker__create.f k r1.1 r2.1).bind fun r3 =>
 ((impl_worker__putLive.f k r3.1 (2,([1],()))).bind fun r4 =>
 (some (r4.1,(((2,([1],())),([],(1,(0,(0,()))))),())))))))
def f (k:Nat):=t k
end impl_worker__first
namespace impl_Open
abbrev Rs:Type:=Option ((Ty.den TStore) × (Ty.den TDisk) × Int × Unit)
def t (k:Nat) (a0:Ty.den TDisk):Rs :=
 ((impl_copyDisk.f k a0).bind fun r1 =>
 ((impl_DiskOk.f k a0).bind fun r2 =>
 (bif (!r2.1) then
 (some (((0,([],())),([],(0,(0,(0,()))))),(r1.1,(4,()))))
 else
 (bif a0.2.2.2.1 then
 (some (((0,([],())),([],(0,(0,(0,()))))),(r1.1,(1,()))))
 else
 ((impl_FileText.f k a0 (⟨#[108,105,118,101]⟩:ByteArray)).bind fun r3 =>
 (bif r3.2.1 then
 ((impl_worker__found.f k (r1.1,(0,())) r3.1).bind fun r4 =>
 (bif (r4.1.2.1 != 0) then
 (some (((0,([],())),([],(0,(0,(0,()))))),r4.1))
 else
 (some (r4.2.1,(r4.1.1,(0,()))))))
 else
 ((impl_worker__first.f k (r1.1,(0,()))).bind fun r5 =>
 (bif (r5.1.2.1 != 0) then
 (some (((0,([],())),([],(0,(0,(0,()))))),r5.1))
 else
 (some (r5.2.1,(r5.1.1,(0,()))))))))))))
def f (k:Nat):=t k
end impl_Open
namespace impl_copyLive
abbrev Rs:Type:=Option ((Ty.den TLive) × Unit)
def t (k:Nat) (a0:Ty.den TLive):Rs :=
 (rm (Ty.bytes (.int .i64)) (List.length a0.2.1)
 (some (a0,())))
def f (k:Nat):=t k
end impl_copyLive
namespace impl_copyStore
abbrev Rs:Type:=Option ((Ty.den TStore) × Unit)
def t (k:Nat) (a0:Ty.den TStore):Rs :=
 ((impl_copyLive.f k a0.1).bind fun r1 =>
 ((impl_copyDir.f k a0.2.1).bind fun r2 =>
 (some ((r1.1,(r2.1,a0.2.2)),()))))
def f (k:Nat):=t k
end impl_copyStore
namespace impl_RecAt
abbrev Rs:Type:=Option ((Ty.den TRec) × Bool × Unit)
def t (k:Nat) (a0:ByteArray) (a1:Int) (a2:Int):Rs :=
 ((impl_in.f k a1 0 (ByteArray.size a0:Int)).bind fun r1 =>
 (bif (!r1.1) then
 (some ((0,(0,(ByteArray.empty,(ByteArray.empty,(0,(0,())))))),(false,())))
 else
 ((impl_in.f k a2 0 (w64 ((ByteArray.size a0:Int)-a1))).bind fun r2 =>
 (bif (!r2.1) then
 (some ((0,(0,(ByteArray.empty,(ByteArray.empty,(0,(0,())))))),(false,())))
 else
 (inc2 a1 (w64 (a1+a2)) (ByteArray.size a0:Int)
 ((impl_Unframe.f k (ByteArray.extract a0 (Int.toNat a1) (Int.toNat (w64 (a1+a2))))).bind fun r3 =>
 (bif (r3.2.1==0) then
 (some ((0,(0,(ByteArray.empty,(ByteArray.empty,(0,(0,())))))),(false,())))
 else
 (bif (r3.2.1 != a2) then
 (some ((0,(0,(ByteArray.empty,(ByteArray.empty,(0,(0,())))))),(false,())))
 else
 ((impl_ReadRec.f k r3.1).bind fun r4 =>
 (some r4))))))))))
def f (k:Nat):=t k
end impl_RecAt
namespace impl_StoreOk
abbrev Rs:Type:=Option (Bool × Unit)
abbrev T1:Type:=List (Ty.den TEntry)→Int→Int→Int→List Int→List (Ty.den TEntry)→Int→Int→Int→List (Ty.den TPair)→Int→Int→Bool→Rs
abbrev T0:Type:=List Int→Int→Int→Int→List Int→List (Ty.den TEntry)→Int→Int→Int→List (Ty.den TPair)→Int→Int→Bool→Rs
def b1 (k:Nat) (L1:T1):T1:=fun x0 x1 x2 x3 x4 x5 x6 x7 x8 x9 x10 x11 x12 =>
 (bif (decide (x2<x1)) then
 (inb x2 (x0.length:Int)
 ((impl_SegName.f k (List.getD x0 (Int.toNat x2) (Ty.dflt TEntry)).2.1).bind fun r8 =>
 ((impl_FileText.f k (x9,(x10,(x11,(x12,())))) r8.1).bind fun r9 =>
 ((impl_RecAt.f k r9.1 (List.getD x0 (Int.toNat x2) (Ty.dflt TEntry)).2.2.1 (List.getD x0 (Int.toNat x2) (Ty.dflt TEntry)).2.2.2.1).bind fun r10 =>
 (bif (!r10.2.1) then
 (some (false,()))
 else
 (bif (r10.1.1 != 1) then
 (bif (r10.1.1 != 4) then
 (some (false,()))
 else
 (bif (!(seq r10.1.2.2.1 (List.getD x0 (Int.toNat x2) (Ty.dflt TEntry)).1)) then
 (some (false,()))
 else
 (bif (r10.1.2.1 != (List.getD x0 (Int.toNat x2) (Ty.dflt TEntry)).2.2.2.2.1) then
 (some (false,()))
 else
 (bif (decide ((List.getD x0 (Int.toNat x2) (Ty.dflt TEntry)).2.2.2.2.1≥x6)) then
 (some (false,()))
 else
 (L1 x0 x1 (w64 (x2+1)) x3 x4 x5 x6 x7 x8 x9 x10 x11 x12)))))
 else
 (bif (!(seq r10.1.2.2.1 (List.getD x0 (Int.toNat x2) (Ty.dflt TEntry)).1)) then
 (some (false,()))
 else
 (bif (r10.1.2.1 != (List.getD x0 (Int.toNat x2) (Ty.dflt TEntry)).2.2.2.2.1) then
 (some (false,()))
 else
 (bif (decide ((List.getD x0 (Int.toNat x2) (Ty.dflt TEntry)).2.2.2.2.1≥x6)) then
 (some (false,()))
 else
 (L1 x0 x1 (w64 (x2+1)) x3 x4 x5 x6 x7 x8 x9 x10 x11 x12))))))))))
 else
 (some (true,())))
def l1 (k:Nat):Nat→T1
 | 0=>fun _ _ _ _ _ _ _ _ _ _ _ _ _=>none
 | n+1=>b1 k (l1 k n)
def b0 (k:Nat) (L1:T1) (L0:T0):T0:=fun x0 x1 x2 x3 x4 x5 x6 x7 x8 x9 x10 x11 x12 =>
 (bif (decide (x2<x1)) then
 (inb x2 (x0.length:Int)
 ((impl_SegName.f k (List.getD x0 (Int.toNat x2) (Ty.dflt (.int .i64)))).bind fun r5 =>
 ((impl_FileText.f k (x9,(x10,(x11,(x12,())))) r5.1).bind fun r6 =>
 ((impl_ScanRecs.f k r6.1).bind fun r7 =>
 (bif (!r6.2.1) then
 (some (false,()))
 else
 (bif (r7.2.1 != (ByteArray.size r6.1:Int)) then
 (some (false,()))
 else
 (bif (x2==(w64 ((x4.length:Int)-1))) then
 (bif (x7 != r7.2.1) then
 (some (false,()))
 else
 (L0 x0 x1 (w64 (x2+1)) x3 x4 x5 x6 x7 x8 x9 x10 x11 x12))
 else
 (L0 x0 x1 (w64 (x2+1)) x3 x4 x5 x6 x7 x8 x9 x10 x11 x12))))))))
 else
 (L1 x5 (x5.length:Int) 0 x3 x4 x5 x6 x7 x8 x9 x10 x11 x12))
def l0 (k:Nat):Nat→T0
 | 0=>fun _ _ _ _ _ _ _ _ _ _ _ _ _=>none
 | n+1=>b0 k (l1 k k) (l0 k n)
def t (k:Nat) (L0:T0) (a0:Ty.den TStore) (a1:Ty.den TDisk):Rs :=
 ((impl_DiskOk.f k a1).bind fun r1 =>
 (bif (!r1.1) then
 (some (false,()))
 else
 ((impl_LiveOk.f k a0.1).bind fun r2 =>
 (bif (!r2.1) then
 (some (false,()))
 else
 ((impl_DirOk.f k a0.2.1).bind fun r3 =>
 (bif (!r3.1) then
 (some (false,()))
 else
 ((impl_in.f k a0.2.2.1 1 1000001).bind fun r4 =>
 (bif (!r4.1) then
 (some (false,()))
 else
 (L0 a0.1.2.1 (List.length a0.1.2.1:Int) 0 a0.1.1 a0.1.2.1 a0.2.1 a0.2.2.1 a0.2.2.2.1 a0.2.2.2.2.1 a1.1 a1.2.1 a1.2.2.1 a1.2.2.2.1)))))))))
def f (k:Nat):=t k (l0 k k)
end impl_StoreOk
namespace impl_putOk
abbrev Rs:Type:=Option (Bool × Unit)
def t (k:Nat) (a0:Ty.den TPut):Rs :=
 ((impl_KeyOk.f k a0.1).bind fun r1 =>
 (bif r1.1 then
 (bif (decide ((ByteArray.size a0.2.2.1:Int)≤24)) then
 (bif (!a0.2.1) then
 (some (true,()))
 else
 (some ((seq a0.2.2.1 (⟨#[]⟩:ByteArray)),())))
 else
 (some (false,())))
 else
 (some (false,()))))
def f (k:Nat):=t k
end impl_putOk
namespace impl_PutsOk
abbrev Rs:Type:=Option (Bool × Unit)
abbrev T0:Type:=List (Ty.den TPut)→List (Ty.den TPut)→Int→Int→Rs
def b0 (k:Nat) (L0:T0):T0:=fun x0 x1 x2 x3 =>
 (bif (decide (x3<x2)) then
 (inb x3 (x1.length:Int)
 ((impl_putOk.f k (List.getD x1 (Int.toNat x3) (Ty.dflt TPut))).bind fun r1 =>
 (bif (!r1.1) then
 (some (false,()))
 else
 (L0 x0 x1 x2 (w64 (x3+1))))))
 else
 (some ((decide ((x0.length:Int)≤8)),())))
def l0 (k:Nat):Nat→T0
 | 0=>fun _ _ _ _=>none
 | n+1=>b0 k (l0 k n)
def t (k:Nat) (L0:T0) (a0:List (Ty.den TPut)):Rs :=
 (L0 a0 a0 (List.length a0:Int) 0)
def f (k:Nat):=t k (l0 k k)
end impl_PutsOk
namespace impl_dirWith
abbrev Rs:Type:=Option ((List (Ty.den TEntry)) × Unit)
abbrev T1:Type:=List (Ty.den TEntry)→List (Ty.den TPut)→Int→Int→List (Ty.den TEntry)→Rs
abbrev T0:Type:=List (Ty.den TEntry)→List (Ty.den TEntry)→List (Ty.den TPut)→Int→Int→Rs
def b1 (k:Nat) (L1:T1):T1:=fun x0 x1 x2 x3 x4 =>
 (bif (decide (x3<x2)) then
 (inb x3 (x1.length:Int)
 (bif (List.getD x1 (Int.toNat x3) (Ty.dflt TPut)).2.1 then
 ((impl_DirDrop.f k x4 (List.getD x1 (Int.toNat x3) (Ty.dflt TPut)).1).bind fun r2 =>
 (L1 x0 x1 x2 (w64 (x3+1)) r2.1))
 else
 (inb x3 (x0.length:Int)
 ((impl_DirPut.f k x4 (List.getD x0 (Int.toNat x3) (Ty.dflt TEntry))).bind fun r3 =>
 (L1 x0 x1 x2 (w64 (x3+1)) r3.1)))))
 else
 (some (x4,())))
def l1 (k:Nat):Nat→T1
 | 0=>fun _ _ _ _ _=>none
 | n+1=>b1 k (l1 k n)
def b0 (k:Nat) (L1:T1):T0:=fun x0 x1 x2 x3 x4 =>
 (bif (decide (x4<x3)) then
 (inb x4 (x2.length:Int)
 (bif (List.getD x2 (Int.toNat x4) (Ty.dflt TPut)).2.1 then
 ((impl_DirDrop.f k x0 (List.getD x2 (Int.toNat x4) (Ty.dflt TPut)).1).bind fun r1 =>
 (L1 x1 x2 x3 (w64 (x4+1)) r1.1))
 else
 (inb x4 (x1.length:Int)
 ((impl_DirPut.f k x0 (List.getD x1 (Int.toNat x4) (Ty.dflt TEntry))).bind fun r4 =>
 (L1 x1 x2 x3 (w64 (x4+1)) r4.1)))))
 else
 (some (x0,())))
def l0 (k:Nat):Nat→T0
 | 0=>fun _ _ _ _ _=>none
 | n+1=>b0 k (l1 k n)
def t (k:Nat) (L0:T0) (a0:List (Ty.den TEntry)) (a1:List (Ty.den TPut)) (a2:List (Ty.den TEntry)):Rs :=
 (L0 a0 a2 a1 (List.length a1:Int) 0)
def f (k:Nat):=t k (l0 k k)
end impl_dirWith
namespace impl_keysWith
abbrev Rs:Type:=Option (Int × Unit)
abbrev T0:Type:=List (Ty.den TEntry)→List (Ty.den TPut)→List (Ty.den TPut)→Int→Int→List (Ty.den TEntry)→Rs
def b0 (k:Nat) (L0:T0):T0:=fun x0 x1 x2 x3 x4 x5 =>
 (bif (decide (x4<x3)) then
 (inb x4 (x2.length:Int)
 (rm (Ty.bytes TEntry) (List.length x5+1)
 (L0 x0 x1 x2 x3 (w64 (x4+1)) (x5++[((List.getD x2 (Int.toNat x4) (Ty.dflt TPut)).1,(0,(0,(0,(0,())))))]))))
 else
 ((impl_dirWith.f k x0 x1 x5).bind fun r1 =>
 (some ((List.length r1.1:Int),()))))
def l0 (k:Nat):Nat→T0
 | 0=>fun _ _ _ _ _ _=>none
 | n+1=>b0 k (l0 k n)
def t (k:Nat) (L0:T0) (a0:List (Ty.den TEntry)) (a1:List (Ty.den TPut)):Rs :=
 (L0 a0 a1 a1 (List.length a1:Int) 0 [])
def f (k:Nat):=t k (l0 k k)
end impl_keysWith
namespace impl_recordsOf
abbrev Rs:Type:=Option ((List (Ty.den TRec)) × Unit)
abbrev T0:Type:=List (Ty.den TPut)→Int→List (Ty.den TPut)→Int→Int→List (Ty.den TRec)→Rs
def b0 (k:Nat) (L0:T0):T0:=fun x0 x1 x2 x3 x4 x5 =>
 (bif (decide (x4<x3)) then
 (inb x4 (x2.length:Int)
 (bif (List.getD x2 (Int.toNat x4) (Ty.dflt TPut)).2.1 then
 (rm (Ty.bytes TRec) (List.length x5+1)
 (L0 x0 x1 x2 x3 (w64 (x4+1)) (x5++[(2,(x1,((List.getD x2 (Int.toNat x4) (Ty.dflt TPut)).1,(ByteArray.empty,(0,(0,()))))))])))
 else
 (rm (Ty.bytes TRec) (List.length x5+1)
 (L0 x0 x1 x2 x3 (w64 (x4+1)) (x5++[(1,(x1,((List.getD x2 (Int.toNat x4) (Ty.dflt TPut)).1,((List.getD x2 (Int.toNat x4) (Ty.dflt TPut)).2.2.1,(0,(0,()))))))])))))
 else
 ((impl_SumOf.f k x5).bind fun r1 =>
 (rm (Ty.bytes TRec) (List.length x5+1)
 (some ((x5++[(3,(x1,(ByteArray.empty,(ByteArray.empty,((x0.length:Int),r1)))))]),())))))
def l0 (k:Nat):Nat→T0
 | 0=>fun _ _ _ _ _ _=>none
 | n+1=>b0 k (l0 k n)
def t (k:Nat) (L0:T0) (a0:List (Ty.den TPut)) (a1:Int):Rs :=
 (L0 a0 a1 a0 (List.length a0:Int) 0 [])
def f (k:Nat):=t k (l0 k k)
end impl_recordsOf
namespace impl_Store__active
abbrev Rs:Type:=Option ((Ty.den TStore) × ByteArray × Unit)
def t (k:Nat) (a0:Ty.den TStore):Rs :=
 (inb (w64 ((List.length a0.1.2.1:Int)-1)) (List.length a0.1.2.1:Int)
 ((impl_SegName.f k (List.getD a0.1.2.1 (Int.toNat (w64 ((List.length a0.1.2.1:Int)-1))) (Ty.dflt (.int .i64)))).bind fun r1 =>
 (some (a0,r1))))
def f (k:Nat):=t k
end impl_Store__active
namespace impl_worker__clean
abbrev Rs:Type:=Option ((Ty.den Tworker) × Unit)
abbrev T1:Type:=List ByteArray→Int→Int→Int→Int→Bool→Int→List (Ty.den TPair)→Int→Int→Bool→Int→Rs
abbrev T0:Type:=List ByteArray→Int→Int→List (Ty.den TPair)→Int→Int→Bool→Int→Int→Int→Bool→Int→Rs
def b1 (k:Nat) (L1:T1):T1:=fun x0 x1 x2 x3 x4 x5 x6 x7 x8 x9 x10 x11 =>
 (bif (decide (x2<x1)) then
 (inb x2 (x0.length:Int)
 ((impl_worker__gone.f k ((x7,(x8,(x9,(x10,())))),(x11,())) (List.getD x0 (Int.toNat x2) (Ty.dflt .str))).bind fun r2 =>
 (L1 x0 x1 (w64 (x2+1)) x3 x4 x5 x6 r2.1.1.1 r2.1.1.2.1 r2.1.1.2.2.1 r2.1.1.2.2.2.1 r2.1.2.1)))
 else
 (bif (x11 != 0) then
 (some (((x7,(x8,(x9,(x10,())))),(x11,())),()))
 else
 (some (((x7,(x8,(x9,(x10,())))),(x6,())),()))))
def l1 (k:Nat):Nat→T1
 | 0=>fun _ _ _ _ _ _ _ _ _ _ _ _=>none
 | n+1=>b1 k (l1 k n)
def b0 (k:Nat) (L1:T1):T0:=fun x0 x1 x2 x3 x4 x5 x6 x7 x8 x9 x10 x11 =>
 (bif (decide (x2<x1)) then
 (inb x2 (x0.length:Int)
 ((impl_worker__gone.f k ((x3,(x8,(x9,(x10,())))),(x11,())) (List.getD x0 (Int.toNat x2) (Ty.dflt .str))).bind fun r1 =>
 (L1 x0 x1 (w64 (x2+1)) x4 x5 x6 x7 r1.1.1.1 r1.1.1.2.1 r1.1.1.2.2.1 r1.1.1.2.2.2.1 r1.1.2.1)))
 else
 (bif (x11 != 0) then
 (some (((x3,(x8,(x9,(x10,())))),(x11,())),()))
 else
 (some (((x3,(x8,(x9,(x10,())))),(x7,())),()))))
def l0 (k:Nat):Nat→T0
 | 0=>fun _ _ _ _ _ _ _ _ _ _ _ _=>none
 | n+1=>b0 k (l1 k n)
def t (k:Nat) (L0:T0) (a0:Ty.den Tworker) (a1:List ByteArray):Rs :=
 (bif (a0.2.1 != 2) then
 (some (a0,()))
 else
 (L0 a1 (List.length a1:Int) 0 a0.1.1 a0.1.2.1 a0.1.2.2.1 a0.1.2.2.2.1 a0.2.1 a0.1.2.1 a0.1.2.2.1 a0.1.2.2.2.1 0))
def f (k:Nat):=t k (l0 k k)
end impl_worker__clean
namespace impl_Store__rotate
abbrev Rs:Type:=Option ((Ty.den TStore) × (Ty.den Tworker) × Unit)
def t (k:Nat) (a0:Ty.den TStore) (a1:Ty.den Tworker):Rs :=
 (bif (decide ((List.length a0.1.2.1:Int)≥60)) then
 (some (a0,((a1.1,(5,())),())))
 else
 (bif (decide (a0.1.1≥100000)) then
 (some (a0,((a1.1,(5,())),())))
 else
 ((impl_Store__active.f k a0).bind fun r1 =>
 ((impl_worker__sync.f k a1 r1.2.1).bind fun r2 =>
 (bif (r2.1.2.1 != 0) then
 (some (r1.1,r2))
 else
 ((impl_SegName.f k r1.1.1.1).bind fun r3 =>
 ((impl_worker__anew.f k r2.1 r3.1).bind fun r4 =>
 (bif (r4.1.2.1 != 0) then
 (some ((((w64 (r1.1.1.1+1)),r1.1.1.2),r1.1.2),r4))
 else
 ((impl_copyLive.f k ((w64 (r1.1.1.1+1)),r1.1.1.2)).bind fun r5 =>
 (rm (Ty.bytes (.int .i64)) (List.length r5.1.2.1+1)
 ((impl_worker__putLive.f k r4.1 (r5.1.1,((r5.1.2.1++[r1.1.1.1]),()))).bind fun r6 =>
 (bif (r6.1.2.1 != 0) then
 ((impl_SegName.f k r1.1.1.1).bind fun r7 =>
 ((impl_worker__clean.f k r6.1 [(⟨#[116,101,109,112]⟩:ByteArray),r7.1]).bind fun r8 =>
 (some ((((w64 (r1.1.1.1+1)),r1.1.1.2),r1.1.2),r8))))
 else
 (some (((r5.1.1,((r5.1.2.1++[r1.1.1.1]),())),(r1.1.2.1,(r1.1.2.2.1,(0,r1.1.2.2.2.2)))),r6))))))))))))))
def f (k:Nat):=t k
end impl_Store__rotate
namespace impl_Store__add
abbrev Rs:Type:=Option ((Ty.den TStore) × (Ty.den Tworker) × (Ty.den TEntry) × Unit)
def t (k:Nat) (a0:Ty.den TStore) (a1:Ty.den Tworker) (a2:Ty.den TRec):Rs :=
 ((impl_ShowRec.f k a2).bind fun r1 =>
 ((impl_Frame.f k r1.1).bind fun r2 =>
 (bif (decide (a0.2.2.2.1 > 0)) then
 (bif (decide ((w64 (a0.2.2.2.1+(ByteArray.size r2.1:Int))) > 200)) then
 ((impl_Store__rotate.f k a0 a1).bind fun r3 =>
 (bif (r3.2.1.2.1 != 0) then
 (some (r3.1,(r3.2.1,((ByteArray.empty,(0,(0,(0,(0,()))))),()))))
 else
 (inb (w64 ((List.length r3.1.1.2.1:Int)-1)) (List.length r3.1.1.2.1:Int)
 ((impl_Store__active.f k r3.1).bind fun r4 =>
 ((impl_worker__put.f k r3.2.1 r4.2.1 r2.1).bind fun r5 =>
 (bif (r5.1.2.1==0) then
 (some ((r4.1.1,(r4.1.2.1,(r4.1.2.2.1,((w64 (r4.1.2.2.2.1+(ByteArray.size r2.1:Int))),r4.1.2.2.2.2)))),(r5.1,((a2.2.2.1,((List.getD r3.1.1.2.1 (Int.toNat (w64 ((List.length r3.1.1.2.1:Int)-1))) (Ty.dflt (.int .i64))),(r3.1.2.2.2.1,((ByteArray.size r2.1:Int),(a2.2.1,()))))),()))))
 else
 (some (r4.1,(r5.1,((a2.2.2.1,((List.getD r3.1.1.2.1 (Int.toNat (w64 ((List.length r3.1.1.2.1:Int)-1))) (Ty.dflt (.int .i64))),(r3.1.2.2.2.1,((ByteArray.size r2.1:Int),(a2.2.1,()))))),()))))))))))
 else
 (bif (a1.2.1 != 0) then
 (some (a0,(a1,((ByteArray.empty,(0,(0,(0,(0,()))))),()))))
 else
 (inb (w64 ((List.length a0.1.2.1:Int)-1)) (List.length a0.1.2.1:Int)
 ((impl_Store__active.f k a0).bind fun r6 =>
 ((impl_worker__put.f k a1 r6.2.1 r2.1).bind fun r7 =>
 (bif (r7.1.2.1==0) then
 (some ((r6.1.1,(r6.1.2.1,(r6.1.2.2.1,((w64 (r6.1.2.2.2.1+(ByteArray.size r2.1:Int))),r6.1.2.2.2.2)))),(r7.1,((a2.2.2.1,((List.getD a0.1.2.1 (Int.toNat (w64 ((List.length a0.1.2.1:Int)-1))) (Ty.dflt (.int .i64))),(a0.2.2.2.1,((ByteArray.size r2.1:Int),(a2.2.1,()))))),()))))
 else
 (some (r6.1,(r7.1,((a2.2.2.1,((List.getD a0.1.2.1 (Int.toNat (w64 ((List.length a0.1.2.1:Int)-1))) (Ty.dflt (.int .i64))),(a0.2.2.2.1,((ByteArray.size r2.1:Int),(a2.2.1,()))))),()))))))))))
 else
 (bif (a1.2.1 != 0) then
 (some (a0,(a1,((ByteArray.empty,(0,(0,(0,(0,()))))),()))))
 else
 (inb (w64 ((List.length a0.1.2.1:Int)-1)) (List.length a0.1.2.1:Int)
 ((impl_Store__active.f k a0).bind fun r8 =>
 ((impl_worker__put.f k a1 r8.2.1 r2.1).bind fun r9 =>
 (bif (r9.1.2.1==0) then
 (some ((r8.1.1,(r8.1.2.1,(r8.1.2.2.1,((w64 (r8.1.2.2.2.1+(ByteArray.size r2.1:Int))),r8.1.2.2.2.2)))),(r9.1,((a2.2.2.1,((List.getD a0.1.2.1 (Int.toNat (w64 ((List.length a0.1.2.1:Int)-1))) (Ty.dflt (.int .i64))),(a0.2.2.2.1,((ByteArray.size r2.1:Int),(a2.2.1,()))))),()))))
 else
 (some (r8.1,(r9.1,((a2.2.2.1,((List.getD a0.1.2.1 (Int.toNat (w64 ((List.length a0.1.2.1:Int)-1))) (Ty.dflt (.int .i64))),(a0.2.2.2.1,((ByteArray.size r2.1:Int),(a2.2.1,()))))),()))))))))))))
def f (k:Nat):=t k
end impl_Store__add
namespace impl_dirWith_g
abbrev Rs:Type:=Option ((List (Ty.den TEntry)) × Unit)
abbrev T0:Type:=List (Ty.den TEntry)→List (Ty.den TPut)→Int→Int→List (Ty.den TEntry)→Rs
def b0 (k:Nat) (L0:T0):T0:=fun x0 x1 x2 x3 x4 =>
 (bif (decide (x3<x2)) then
 (inb x3 (x1.length:Int)
 (bif (List.getD x1 (Int.toNat x3) (Ty.dflt TPut)).2.1 then
 ((impl_DirDrop.f k x4 (List.getD x1 (Int.toNat x3) (Ty.dflt TPut)).1).bind fun r1 =>
 (L0 x0 x1 x2 (w64 (x3+1)) r1.1))
 else
 (inb x3 (x0.length:Int)
 ((impl_DirPut.f k x4 (List.getD x0 (Int.toNat x3) (Ty.dflt TEntry))).bind fun r2 =>
 (L0 x0 x1 x2 (w64 (x3+1)) r2.1)))))
 else
 (some (x4,())))
def l0 (k:Nat):Nat→T0
 | 0=>fun _ _ _ _ _=>none
 | n+1=>b0 k (l0 k n)
def t (k:Nat) (L0:T0) (a0:List (Ty.den TEntry)) (a1:List (Ty.den TPut)) (a2:List (Ty.den TEntry)):Rs :=
 (L0 a2 a1 (List.length a1:Int) 0 a0)
def f (k:Nat):=t k (l0 k k)
end impl_dirWith_g
namespace impl_Store__commit
abbrev Rs:Type:=Option ((Ty.den TStore) × (Ty.den Tworker) × Unit)
abbrev T0:Type:=List (Ty.den TPut)→Int→Int→List Int→List (Ty.den TEntry)→Int→Int→Int→Int→List (Ty.den TPair)→Int→Int→Bool→Int→List (Ty.den TEntry)→List (Ty.den TRec)→Rs
def b0 (k:Nat) (L0:T0):T0:=fun x0 x1 x2 x3 x4 x5 x6 x7 x8 x9 x10 x11 x12 x13 x14 x15 =>
 (bif (decide (x2<x1)) then
 (inb x2 (x15.length:Int)
 ((impl_Store__add.f k ((x5,(x3,())),(x4,(x6,(x7,(x8,()))))) ((x9,(x10,(x11,(x12,())))),(x13,())) (List.getD x15 (Int.toNat x2) (Ty.dflt TRec))).bind fun r2 =>
 (bif (r2.2.1.2.1 != 0) then
 (some (r2.1,(r2.2.1,())))
 else
 (rm (Ty.bytes TEntry) (List.length x14+1)
 (L0 x0 x1 (w64 (x2+1)) r2.1.1.2.1 r2.1.2.1 r2.1.1.1 r2.1.2.2.1 r2.1.2.2.2.1 r2.1.2.2.2.2.1 r2.2.1.1.1 r2.2.1.1.2.1 r2.2.1.1.2.2.1 r2.2.1.1.2.2.2.1 r2.2.1.2.1 (x14++[r2.2.2.1]) x15)))))
 else
 ((impl_Store__active.f k ((x5,(x3,())),(x4,(x6,(x7,(x8,())))))).bind fun r3 =>
 ((impl_worker__sync.f k ((x9,(x10,(x11,(x12,())))),(x13,())) r3.2.1).bind fun r4 =>
 (bif (r4.1.2.1==0) then
 ((impl_dirWith_g.f k r3.1.2.1 x0 x14).bind fun r5 =>
 (some ((r3.1.1,(r5.1,r3.1.2.2)),r4)))
 else
 (some (r3.1,r4))))))
def l0 (k:Nat):Nat→T0
 | 0=>fun _ _ _ _ _ _ _ _ _ _ _ _ _ _ _ _=>none
 | n+1=>b0 k (l0 k n)
def t (k:Nat) (L0:T0) (a0:Ty.den TStore) (a1:Ty.den Tworker) (a2:List (Ty.den TPut)):Rs :=
 ((impl_recordsOf.f k a2 a0.2.2.1).bind fun r1 =>
 (L0 a2 (List.length r1.1:Int) 0 a0.1.2.1 a0.2.1 a0.1.1 (w64 (a0.2.2.1+1)) a0.2.2.2.1 a0.2.2.2.2.1 a1.1.1 a1.1.2.1 a1.1.2.2.1 a1.1.2.2.2.1 a1.2.1 [] r1.1))
def f (k:Nat):=t k (l0 k k)
end impl_Store__commit
namespace impl_Commit
abbrev Rs:Type:=Option ((Ty.den TStore) × (Ty.den TDisk) × Int × Unit)
def t (k:Nat) (a0:Ty.den TStore) (a1:Ty.den TDisk) (a2:List (Ty.den TPut)):Rs :=
 ((impl_copyStore.f k a0).bind fun r1 =>
 ((impl_copyDisk.f k a1).bind fun r2 =>
 ((impl_StoreOk.f k a0 a1).bind fun r3 =>
 (bif (!r3.1) then
 (some (r1.1,(r2.1,(4,()))))
 else
 ((impl_PutsOk.f k a2).bind fun r4 =>
 (bif (!r4.1) then
 (some (r1.1,(r2.1,(4,()))))
 else
 (bif ((List.length a2:Int)==0) then
 (some (r1.1,(r2.1,(0,()))))
 else
 ((impl_keysWith.f k a0.2.1 a2).bind fun r5 =>
 (bif (decide (r5.1 > 20)) then
 (some (r1.1,(r2.1,(5,()))))
 else
 (bif (decide (a0.2.2.1 > 1000000)) then
 (some (r1.1,(r2.1,(5,()))))
 else
 ((impl_Store__commit.f k r1.1 (r2.1,(0,())) a2).bind fun r6 =>
 (some (r6.1,r6.2.1)))))))))))))
def f (k:Nat):=t k
end impl_Commit
namespace impl_Restore
abbrev Rs:Type:=Option ((Ty.den TStore) × (Ty.den TDisk) × Int × Unit)
abbrev T1:Type:=List (Ty.den TPair)→Int→List (Ty.den TPair)→Int→Int→List Int→List (Ty.den TEntry)→Int→Int→Int→Int→List (Ty.den TPair)→Int→Int→Bool→List Int→List (Ty.den TEntry)→Int→Int→Int→Int→List (Ty.den TPair)→Int→Int→Bool→List (Ty.den TPut)→Rs
abbrev T0:Type:=List (Ty.den TPair)→Int→Int→List Int→List (Ty.den TEntry)→Int→Int→Int→Int→List (Ty.den TPair)→Int→Int→Bool→List Int→List (Ty.den TEntry)→Int→Int→Int→Int→List (Ty.den TPair)→Int→Int→Bool→Rs
def b1 (k:Nat) (L0:T0) (L1:T1):T1:=fun x0 x1 x2 x3 x4 x5 x6 x7 x8 x9 x10 x11 x12 x13 x14 x15 x16 x17 x18 x19 x20 x21 x22 x23 x24 x25 =>
 (bif (decide (x4<x3)) then
 (inb x4 (x2.length:Int)
 (rm (Ty.bytes TPut) (List.length x25+1)
 (L1 x0 x1 x2 x3 (w64 (x4+1)) x5 x6 x7 x8 x9 x10 x11 x12 x13 x14 x15 x16 x17 x18 x19 x20 x21 x22 x23 x24 (x25++[((List.getD x2 (Int.toNat x4) (Ty.dflt TPair)).1,(false,((List.getD x2 (Int.toNat x4) (Ty.dflt TPair)).2.1,())))]))))
 else
 ((impl_Commit.f k ((x17,(x15,())),(x16,(x18,(x19,(x20,()))))) (x21,(x22,(x23,(x24,())))) x25).bind fun r5 =>
 (L0 x0 r5.2.2.1 (w64 (x1+8)) x5 x6 x7 x8 x9 x10 x11 x12 x13 x14 r5.1.1.2.1 r5.1.2.1 r5.1.1.1 r5.1.2.2.1 r5.1.2.2.2.1 r5.1.2.2.2.2.1 r5.2.1.1 r5.2.1.2.1 r5.2.1.2.2.1 r5.2.1.2.2.2.1)))
def l1 (k:Nat) (L0:T0):Nat→T1
 | 0=>fun _ _ _ _ _ _ _ _ _ _ _ _ _ _ _ _ _ _ _ _ _ _ _ _ _ _=>none
 | n+1=>b1 k L0 (l1 k L0 n)
def b0 (k:Nat) (L1:T1) (L0:T0):T0:=fun x0 x1 x2 x3 x4 x5 x6 x7 x8 x9 x10 x11 x12 x13 x14 x15 x16 x17 x18 x19 x20 x21 x22 =>
 (bif (decide (x2<(x0.length:Int))) then
 (bif (x1==0) then
 (inc2 x2 (if (x0.length:Int)<(w64 (x2+8)) then (x0.length:Int) else (w64 (x2+8))) (x0.length:Int)
 (L1 x0 x2 (List.drop (Int.toNat x2) (List.take (Int.toNat (if (x0.length:Int)<(w64 (x2+8)) then (x0.length:Int) else (w64 (x2+8)))) x0)) (List.length (List.drop (Int.toNat x2) (List.take (Int.toNat (if (x0.length:Int)<(w64 (x2+8)) then (x0.length:Int) else (w64 (x2+8)))) x0)):Int) 0 x3 x4 x5 x6 x7 x8 x9 x10 x11 x12 x13 x14 x15 x16 x17 x18 x19 x20 x21 x22 []))
 else
 (some (((x15,(x13,())),(x14,(x16,(x17,(x18,()))))),((x19,(x20,(x21,(x22,())))),(x1,())))))
 else
 (some (((x15,(x13,())),(x14,(x16,(x17,(x18,()))))),((x19,(x20,(x21,(x22,())))),(x1,())))))
def l0 (k:Nat):Nat→T0
 | 0=>fun _ _ _ _ _ _ _ _ _ _ _ _ _ _ _ _ _ _ _ _ _ _ _=>none
 | n+1=>b0 k (l1 k (l0 k n) k) (l0 k n)
def t (k:Nat) (L0:T0) (a0:Int) (a1:List (Ty.den TPair)):Rs :=
 ((impl_in.f k a0 0 100000).bind fun r1 =>
 (bif (!r1.1) then
 (some (((0,([],())),([],(0,(0,(0,()))))),(([],(0,(0,(false,())))),(4,()))))
 else
 ((impl_PairsOk.f k a1).bind fun r2 =>
 (bif (!r2.1) then
 (some (((0,([],())),([],(0,(0,(0,()))))),(([],(0,(0,(false,())))),(4,()))))
 else
 ((impl_DiskNew.f k a0).bind fun r3 =>
 ((impl_Open.f k r3.1).bind fun r4 =>
 (L0 a1 r4.2.2.1 0 [] [] 0 0 0 0 [] 0 0 false r4.1.1.2.1 r4.1.2.1 r4.1.1.1 r4.1.2.2.1 r4.1.2.2.2.1 r4.1.2.2.2.2.1 r4.2.1.1 r4.2.1.2.1 r4.2.1.2.2.1 r4.2.1.2.2.2.1)))))))
def f (k:Nat):=t k (l0 k k)
end impl_Restore
namespace impl_DirKeys
abbrev Rs:Type:=Option ((List ByteArray) × Unit)
abbrev T0:Type:=List (Ty.den TEntry)→Int→Int→List ByteArray→Rs
def b0 (k:Nat) (L0:T0):T0:=fun x0 x1 x2 x3 =>
 (bif (decide (x2<x1)) then
 (inb x2 (x0.length:Int)
 (rm (Ty.bytes .str) (List.length x3+1)
 (L0 x0 x1 (w64 (x2+1)) (x3++[(List.getD x0 (Int.toNat x2) (Ty.dflt TEntry)).1]))))
 else
 (some (x3,())))
def l0 (k:Nat):Nat→T0
 | 0=>fun _ _ _ _=>none
 | n+1=>b0 k (l0 k n)
def t (k:Nat) (L0:T0) (a0:List (Ty.den TEntry)):Rs :=
 (L0 a0 (List.length a0:Int) 0 [])
def f (k:Nat):=t k (l0 k k)
end impl_DirKeys
namespace impl_DirGet
abbrev Rs:Type:=Option ((Ty.den TEntry) × Bool × Unit)
abbrev T0:Type:=ByteArray→List (Ty.den TEntry)→Int→Int→ByteArray→Int→Int→Int→Int→Rs
def b0 (k:Nat) (L0:T0):T0:=fun x0 x1 x2 x3 x4 x5 x6 x7 x8 =>
 (bif (decide (x3<x2)) then
 (inb x3 (x1.length:Int)
 (bif (seq (List.getD x1 (Int.toNat x3) (Ty.dflt TEntry)).1 x0) then
 (some ((List.getD x1 (Int.toNat x3) (Ty.dflt TEntry)),(true,())))
 else
 (L0 x0 x1 x2 (w64 (x3+1)) x4 x5 x6 x7 x8)))
 else
 (some ((ByteArray.empty,(0,(0,(0,(0,()))))),(false,()))))
def l0 (k:Nat):Nat→T0
 | 0=>fun _ _ _ _ _ _ _ _ _=>none
 | n+1=>b0 k (l0 k n)
def t (k:Nat) (L0:T0) (a0:List (Ty.den TEntry)) (a1:ByteArray):Rs :=
 (L0 a1 a0 (List.length a0:Int) 0 ByteArray.empty 0 0 0 0)
def f (k:Nat):=t k (l0 k k)
end impl_DirGet
namespace impl_Get
abbrev Rs:Type:=Option ((Ty.den TPair) × Int × Unit)
def t (k:Nat) (a0:Ty.den TStore) (a1:Ty.den TDisk) (a2:ByteArray):Rs :=
 ((impl_DirGet.f k a0.2.1 a2).bind fun r1 =>
 (bif (!r1.2.1) then
 (some ((ByteArray.empty,(ByteArray.empty,(0,()))),(8,())))
 else
 ((impl_SegName.f k r1.1.2.1).bind fun r2 =>
 ((impl_FileText.f k a1 r2.1).bind fun r3 =>
 ((impl_RecAt.f k r3.1 r1.1.2.2.1 r1.1.2.2.2.1).bind fun r4 =>
 (bif (!r4.2.1) then
 (some ((ByteArray.empty,(ByteArray.empty,(0,()))),(3,())))
 else
 (bif (r4.1.1 != 1) then
 (bif (r4.1.1 != 4) then
 (some ((ByteArray.empty,(ByteArray.empty,(0,()))),(3,())))
 else
 (bif (!(seq r4.1.2.2.1 a2)) then
 (some ((ByteArray.empty,(ByteArray.empty,(0,()))),(3,())))
 else
 (some ((r4.1.2.2.1,(r4.1.2.2.2.1,(r4.1.2.1,()))),(0,())))))
 else
 (bif (!(seq r4.1.2.2.1 a2)) then
 (some ((ByteArray.empty,(ByteArray.empty,(0,()))),(3,())))
 else
 (some ((r4.1.2.2.1,(r4.1.2.2.2.1,(r4.1.2.1,()))),(0,())))))))))))
def f (k:Nat):=t k
end impl_Get
namespace impl_Dump
abbrev Rs:Type:=Option ((List (Ty.den TPair)) × Int × Unit)
abbrev T0:Type:=Int→Int→Int→List Int→List (Ty.den TEntry)→Int→Int→Int→List (Ty.den TPair)→Int→Int→Bool→List (Ty.den TPair)→List ByteArray→Rs
def b0 (k:Nat) (L0:T0):T0:=fun x0 x1 x2 x3 x4 x5 x6 x7 x8 x9 x10 x11 x12 x13 =>
 (bif (decide (x1<x0)) then
 (inb x1 (x13.length:Int)
 ((impl_Get.f k ((x2,(x3,())),(x4,(x5,(x6,(x7,()))))) (x8,(x9,(x10,(x11,())))) (List.getD x13 (Int.toNat x1) (Ty.dflt .str))).bind fun r2 =>
 (bif (r2.2.1 != 0) then
 (some ([],r2.2))
 else
 (rm (Ty.bytes TPair) (List.length x12+1)
 (L0 x0 (w64 (x1+1)) x2 x3 x4 x5 x6 x7 x8 x9 x10 x11 (x12++[r2.1]) x13)))))
 else
 (some (x12,(0,()))))
def l0 (k:Nat):Nat→T0
 | 0=>fun _ _ _ _ _ _ _ _ _ _ _ _ _ _=>none
 | n+1=>b0 k (l0 k n)
def t (k:Nat) (L0:T0) (a0:Ty.den TStore) (a1:Ty.den TDisk):Rs :=
 ((impl_DirKeys.f k a0.2.1).bind fun r1 =>
 (L0 (List.length r1.1:Int) 0 a0.1.1 a0.1.2.1 a0.2.1 a0.2.2.1 a0.2.2.2.1 a0.2.2.2.2.1 a1.1 a1.2.1 a1.2.2.1 a1.2.2.2.1 [] r1.1))
def f (k:Nat):=t k (l0 k k)
end impl_Dump
namespace laws_values
abbrev Rs:Type:=Option ((List (Ty.den TPair)) × Unit)
abbrev T0:Type:=List (Ty.den TPair)→Int→List (Ty.den TPair)→Rs
def b0 (k:Nat) (L0:T0):T0:=fun x0 x1 x2 =>
 (bif (decide (x1<(x0.length:Int))) then
 (inb x1 (x0.length:Int)
 (inb x1 (x0.length:Int)
 (rm (Ty.bytes TPair) (List.length x2+1)
 (L0 x0 (w64 (x1+1)) (x2++[((List.getD x0 (Int.toNat x1) (Ty.dflt TPair)).1,((List.getD x0 (Int.toNat x1) (Ty.dflt TPair)).2.1,(0,())))])))))
 else
 (some (x2,())))
def l0 (k:Nat):Nat→T0
 | 0=>fun _ _ _=>none
 | n+1=>b0 k (l0 k n)
def t (k:Nat) (L0:T0) (a0:List (Ty.den TPair)):Rs :=
 (L0 a0 0 [])
def f (k:Nat):=t k (l0 k k)
end laws_values
namespace spec_l1Once
abbrev Rs:Type:=Option ((Ty.den Tl1Cur) × Bool × Unit)
def t (k:Nat) (a0:Ty.den Tl1Cur) (a1:Int):Rs :=
 ((spec_l1Below.f k a0 a1).bind fun r1 =>
 (some (r1.1,((r1.2.1==0),()))))
def f (k:Nat):=t k
end spec_l1Once
namespace spec_l12Puts
abbrev Rs:Type:=Option ((Ty.den Tl1Cur) × (List (Ty.den TPut)) × Unit)
abbrev T0:Type:=Int→List Int→Int→Int→List (Ty.den TPut)→Rs
def b0 (k:Nat) (L0:T0):T0:=fun x0 x1 x2 x3 x4 =>
 (bif (decide (x0 > 0)) then
 ((spec_l5Key.f k (x1,(x2,(x3,())))).bind fun r2 =>
 ((spec_l1Text.f k r2.1 16).bind fun r3 =>
 ((spec_l1Once.f k r3.1 4).bind fun r4 =>
 (bif r4.2.1 then
 (rm (Ty.bytes TPut) (List.length x4+1)
 (L0 (w64 (x0-1)) r4.1.1 r4.1.2.1 r4.1.2.2.1 (x4++[(r2.2.1,(true,(ByteArray.empty,())))])))
 else
 (rm (Ty.bytes TPut) (List.length x4+1)
 (L0 (w64 (x0-1)) r4.1.1 r4.1.2.1 r4.1.2.2.1 (x4++[(r2.2.1,(false,r3.2))])))))))
 else
 (some ((x1,(x2,(x3,()))),(x4,()))))
def l0 (k:Nat):Nat→T0
 | 0=>fun _ _ _ _ _=>none
 | n+1=>b0 k (l0 k n)
def t (k:Nat) (L0:T0) (a0:Ty.den Tl1Cur):Rs :=
 ((spec_l1Below.f k a0 4).bind fun r1 =>
 (L0 r1.2.1 r1.1.1 r1.1.2.1 r1.1.2.2.1 []))
def f (k:Nat):=t k (l0 k k)
end spec_l12Puts
namespace spec_Fold
abbrev Rs:Type:=Option ((List (Ty.den TPair)) × Unit)
abbrev T0:Type:=List (Ty.den TPut)→Int→Int→List (Ty.den TPair)→Rs
def b0 (k:Nat) (L0:T0):T0:=fun x0 x1 x2 x3 =>
 (bif (decide (x2<(x0.length:Int))) then
 (inb x2 (x0.length:Int)
 (inb x2 (x0.length:Int)
 (inb x2 (x0.length:Int)
 ((spec_l13Set.f k x3 ((List.getD x0 (Int.toNat x2) (Ty.dflt TPut)).1,((List.getD x0 (Int.toNat x2) (Ty.dflt TPut)).2.2.1,(x1,()))) (List.getD x0 (Int.toNat x2) (Ty.dflt TPut)).2.1).bind fun r1 =>
 (L0 x0 x1 (w64 (x2+1)) r1.1)))))
 else
 (some (x3,())))
def l0 (k:Nat):Nat→T0
 | 0=>fun _ _ _ _=>none
 | n+1=>b0 k (l0 k n)
def t (k:Nat) (L0:T0) (a0:List (Ty.den TPair)) (a1:List (Ty.den TPut)) (a2:Int):Rs :=
 (rm (Ty.bytes TPair) (0+List.length a0)
 (L0 a1 a2 0 ([]++a0)))
def f (k:Nat):=t k (l0 k k)
end spec_Fold
namespace spec_DrawDiff
abbrev Rs:Type:=Option ((List (Ty.den TPair)) × (List (Ty.den TPair)) × Unit)
def t (k:Nat) (a0:List Int):Rs :=
 ((spec_l1New.f k a0).bind fun r1 =>
 ((spec_l13Pairs.f k r1.2.1).bind fun r2 =>
 ((spec_l1Once.f k r2.1 2).bind fun r3 =>
 (bif r3.2.1 then
 ((spec_l12Puts.f k r3.1).bind fun r4 =>
 ((spec_Fold.f k r2.2.1 r4.2.1 30).bind fun r5 =>
 (some (r2.2.1,r5))))
 else
 ((spec_l13Pairs.f k r3.1).bind fun r6 =>
 (some (r2.2.1,r6.2)))))))
def f (k:Nat):=t k
end spec_DrawDiff
namespace impl_pairAt
abbrev Rs:Type:=Option ((Ty.den TPair) × Bool × Unit)
abbrev T0:Type:=ByteArray→List (Ty.den TPair)→Int→Int→ByteArray→ByteArray→Int→Rs
def b0 (k:Nat) (L0:T0):T0:=fun x0 x1 x2 x3 x4 x5 x6 =>
 (bif (decide (x3<x2)) then
 (inb x3 (x1.length:Int)
 (bif (seq (List.getD x1 (Int.toNat x3) (Ty.dflt TPair)).1 x0) then
 (some ((List.getD x1 (Int.toNat x3) (Ty.dflt TPair)),(true,())))
 else
 (L0 x0 x1 x2 (w64 (x3+1)) x4 x5 x6)))
 else
 (some ((ByteArray.empty,(ByteArray.empty,(0,()))),(false,()))))
def l0 (k:Nat):Nat→T0
 | 0=>fun _ _ _ _ _ _ _=>none
 | n+1=>b0 k (l0 k n)
def t (k:Nat) (L0:T0) (a0:List (Ty.den TPair)) (a1:ByteArray):Rs :=
 (L0 a1 a0 (List.length a0:Int) 0 ByteArray.empty ByteArray.empty 0)
def f (k:Nat):=t k (l0 k k)
end impl_pairAt
namespace impl_Diff
abbrev Rs:Type:=Option ((List (Ty.den TPut)) × Unit)
abbrev T1:Type:=List (Ty.den TPair)→List (Ty.den TPair)→Int→Int→List (Ty.den TPut)→Rs
abbrev T0:Type:=List (Ty.den TPair)→List (Ty.den TPair)→List (Ty.den TPair)→Int→Int→List (Ty.den TPut)→Rs
def b1 (k:Nat) (L1:T1):T1:=fun x0 x1 x2 x3 x4 =>
 (bif (decide (x3<x2)) then
 (inb x3 (x1.length:Int)
 ((impl_pairAt.f k x0 (List.getD x1 (Int.toNat x3) (Ty.dflt TPair)).1).bind fun r2 =>
 (bif (!r2.2.1) then
 (rm (Ty.bytes TPut) (List.length x4+1)
 (L1 x0 x1 x2 (w64 (x3+1)) (x4++[((List.getD x1 (Int.toNat x3) (Ty.dflt TPair)).1,(false,((List.getD x1 (Int.toNat x3) (Ty.dflt TPair)).2.1,())))])))
 else
 (bif (!(seq r2.1.2.1 (List.getD x1 (Int.toNat x3) (Ty.dflt TPair)).2.1)) then
 (rm (Ty.bytes TPut) (List.length x4+1)
 (L1 x0 x1 x2 (w64 (x3+1)) (x4++[((List.getD x1 (Int.toNat x3) (Ty.dflt TPair)).1,(false,((List.getD x1 (Int.toNat x3) (Ty.dflt TPair)).2.1,())))])))
 else
 (L1 x0 x1 x2 (w64 (x3+1)) x4)))))
 else
 (some (x4,())))
def l1 (k:Nat):Nat→T1
 | 0=>fun _ _ _ _ _=>none
 | n+1=>b1 k (l1 k n)
def b0 (k:Nat) (L1:T1) (L0:T0):T0:=fun x0 x1 x2 x3 x4 x5 =>
 (bif (decide (x4<x3)) then
 (inb x4 (x2.length:Int)
 ((impl_pairAt.f k x1 (List.getD x2 (Int.toNat x4) (Ty.dflt TPair)).1).bind fun r1 =>
 (bif (!r1.2.1) then
 (rm (Ty.bytes TPut) (List.length x5+1)
 (L0 x0 x1 x2 x3 (w64 (x4+1)) (x5++[((List.getD x2 (Int.toNat x4) (Ty.dflt TPair)).1,(true,(ByteArray.empty,())))])))
 else
 (L0 x0 x1 x2 x3 (w64 (x4+1)) x5))))
 else
 (L1 x0 x1 (x1.length:Int) 0 x5))
def l0 (k:Nat):Nat→T0
 | 0=>fun _ _ _ _ _ _=>none
 | n+1=>b0 k (l1 k k) (l0 k n)
def t (k:Nat) (L0:T0) (a0:List (Ty.den TPair)) (a1:List (Ty.den TPair)):Rs :=
 (L0 a0 a1 a0 (List.length a0:Int) 0 [])
def f (k:Nat):=t k (l0 k k)
end impl_Diff
namespace impl_copyPairs
abbrev Rs:Type:=Option ((List (Ty.den TPair)) × Unit)
def t (k:Nat) (a0:List (Ty.den TPair)):Rs :=
 (rm (Ty.bytes TPair) (List.length a0)
 (some (a0,())))
def f (k:Nat):=t k
end impl_copyPairs
namespace impl_without
abbrev Rs:Type:=Option ((List (Ty.den TPair)) × Unit)
abbrev T0:Type:=ByteArray→List (Ty.den TPair)→Int→Int→List (Ty.den TPair)→Rs
def b0 (k:Nat) (L0:T0):T0:=fun x0 x1 x2 x3 x4 =>
 (bif (decide (x3<x2)) then
 (inb x3 (x1.length:Int)
 (bif (!(seq (List.getD x1 (Int.toNat x3) (Ty.dflt TPair)).1 x0)) then
 (rm (Ty.bytes TPair) (List.length x4+1)
 (L0 x0 x1 x2 (w64 (x3+1)) (x4++[(List.getD x1 (Int.toNat x3) (Ty.dflt TPair))])))
 else
 (L0 x0 x1 x2 (w64 (x3+1)) x4)))
 else
 (some (x4,())))
def l0 (k:Nat):Nat→T0
 | 0=>fun _ _ _ _ _=>none
 | n+1=>b0 k (l0 k n)
def t (k:Nat) (L0:T0) (a0:List (Ty.den TPair)) (a1:ByteArray):Rs :=
 (L0 a1 a0 (List.length a0:Int) 0 [])
def f (k:Nat):=t k (l0 k k)
end impl_without
namespace impl_Fold
abbrev Rs:Type:=Option ((List (Ty.den TPair)) × Unit)
abbrev T1:Type:=Int→Int→List (Ty.den TPut)→Int→Int→List (Ty.den TPair)→ByteArray→Bool→ByteArray→Rs
abbrev T0:Type:=Int→List (Ty.den TPut)→Int→Int→List (Ty.den TPair)→Rs
def b1 (k:Nat) (L0:T0) (L1:T1):T1:=fun x0 x1 x2 x3 x4 x5 x6 x7 x8 =>
 (bif (decide (x1<(x5.length:Int))) then
 (inb x1 (x5.length:Int)
 (bif ((sls (List.getD x5 (Int.toNat x1) (Ty.dflt TPair)).1 x6)||(seq (List.getD x5 (Int.toNat x1) (Ty.dflt TPair)).1 x6)) then
 (L1 x0 (w64 (x1+1)) x2 x3 x4 x5 x6 x7 x8)
 else
 (inc x1 (x5.length:Int)
 ((impl_copyPairs.f k (List.take (Int.toNat x1) x5)).bind fun r3 =>
 (rm (Ty.bytes TPair) (List.length r3.1+1)
 (inc x1 (x5.length:Int)
 (rm (Ty.bytes TPair) (List.length (r3.1++[(x6,(x8,(x0,())))])+List.length (List.drop (Int.toNat x1) x5))
 (L0 x0 x2 x3 (w64 (x4+1)) ((r3.1++[(x6,(x8,(x0,())))])++(List.drop (Int.toNat x1) x5))))))))))
 else
 (inc x1 (x5.length:Int)
 ((impl_copyPairs.f k (List.take (Int.toNat x1) x5)).bind fun r4 =>
 (rm (Ty.bytes TPair) (List.length r4.1+1)
 (inc x1 (x5.length:Int)
 (rm (Ty.bytes TPair) (List.length (r4.1++[(x6,(x8,(x0,())))])+List.length (List.drop (Int.toNat x1) x5))
 (L0 x0 x2 x3 (w64 (x4+1)) ((r4.1++[(x6,(x8,(x0,())))])++(List.drop (Int.toNat x1) x5)))))))))
def l1 (k:Nat) (L0:T0):Nat→T1
 | 0=>fun _ _ _ _ _ _ _ _ _=>none
 | n+1=>b1 k L0 (l1 k L0 n)
def b0 (k:Nat) (L1:T1) (L0:T0):T0:=fun x0 x1 x2 x3 x4 =>
 (bif (decide (x3<x2)) then
 (inb x3 (x1.length:Int)
 ((impl_without.f k x4 (List.getD x1 (Int.toNat x3) (Ty.dflt TPut)).1).bind fun r2 =>
 (bif (List.getD x1 (Int.toNat x3) (Ty.dflt TPut)).2.1 then
 (L0 x0 x1 x2 (w64 (x3+1)) r2.1)
 else
 (L1 x0 0 x1 x2 x3 r2.1 (List.getD x1 (Int.toNat x3) (Ty.dflt TPut)).1 (List.getD x1 (Int.toNat x3) (Ty.dflt TPut)).2.1 (List.getD x1 (Int.toNat x3) (Ty.dflt TPut)).2.2.1))))
 else
 (some (x4,())))
def l0 (k:Nat):Nat→T0
 | 0=>fun _ _ _ _ _=>none
 | n+1=>b0 k (l1 k (l0 k n) k) (l0 k n)
def t (k:Nat) (L0:T0) (a0:List (Ty.den TPair)) (a1:List (Ty.den TPut)) (a2:Int):Rs :=
 ((impl_copyPairs.f k a0).bind fun r1 =>
 (L0 a2 a1 (List.length a1:Int) 0 r1.1))
def f (k:Nat):=t k (l0 k k)
end impl_Fold
namespace laws_FnBackups
abbrev Rs:Type:=Option (Bool × Unit)
def t (k:Nat) (a0:List Int):Rs :=
 ((laws_big.f k a0).bind fun r1 =>
 (bif r1.1 then
 (some (true,()))
 else
 ((spec_DrawShowPairs.f k a0).bind fun r2 =>
 ((impl_ShowPairs.f k r2.1).bind fun r3 =>
 ((impl_ReadPairs.f k r3.1).bind fun r4 =>
 ((spec_PairsOk.f k r2.1).bind fun r5 =>
 (bif (!((!(seq r3.1 (⟨#[]⟩:ByteArray)))==r5.1)) then
 (some (false,()))
 else
 (bif (!(r4.2.1==(!(seq r3.1 (⟨#[]⟩:ByteArray))))) then
 (some (false,()))
 else
 (bif r4.2.1 then
 ((spec_SamePairs.f k r4.1 r2.1).bind fun r6 =>
 (bif (!r6.1) then
 (some (false,()))
 else
 (bif r4.2.1 then
 ((impl_Restore.f k 100000 r2.1).bind fun r7 =>
 ((impl_Dump.f k r7.1 r7.2.1).bind fun r8 =>
 (bif (r7.2.2.1 != 0) then
 (some (false,()))
 else
 (bif (r8.2.1 != 0) then
 (some (false,()))
 else
 ((laws_values.f k r8.1).bind fun r9 =>
 ((laws_values.f k r2.1).bind fun r10 =>
 ((spec_SamePairs.f k r9.1 r10.1).bind fun r11 =>
 (bif (!r11.1) then
 (some (false,()))
 else
 ((spec_DrawDiff.f k a0).bind fun r12 =>
 ((impl_Diff.f k r12.1 r12.2.1).bind fun r13 =>
 ((impl_Fold.f k r12.1 r13.1 99).bind fun r14 =>
 ((laws_values.f k r14.1).bind fun r15 =>
 ((laws_values.f k r12.2.1).bind fun r16 =>
 ((spec_SamePairs.f k r15.1 r16.1).bind fun r17 =>
 (bif r17.1 then
 ((impl_Diff.f k r12.2.1 r12.2.1).bind fun r18 =>
 (some (((List.length r18.1:Int)==0),())))
 else
 (some (false,())))))))))))))))))
 else
 ((spec_DrawDiff.f k a0).bind fun r19 =>
 ((impl_Diff.f k r19.1 r19.2.1).bind fun r20 =>
 ((impl_Fold.f k r19.1 r20.1 99).bind fun r21 =>
 ((laws_values.f k r21.1).bind fun r22 =>
 ((laws_values.f k r19.2.1).bind fun r23 =>
 ((spec_SamePairs.f k r22.1 r23.1).bind fun r24 =>
 (bif r24.1 then
 ((impl_Diff.f k r19.2.1 r19.2.1).bind fun r25 =>
 (some (((List.length r25.1:Int)==0),())))
 else
 (some (false,()))))))))))))
 else
 (bif r4.2.1 then
 ((impl_Restore.f k 100000 r2.1).bind fun r26 =>
 ((impl_Dump.f k r26.1 r26.2.1).bind fun r27 =>
 (bif (r26.2.2.1 != 0) then
 (some (false,()))
 else
 (bif (r27.2.1 != 0) then
 (some (false,()))
 else
 ((laws_values.f k r27.1).bind fun r28 =>
 ((laws_values.f k r2.1).bind fun r29 =>
 ((spec_SamePairs.f k r28.1 r29.1).bind fun r30 =>
 (bif (!r30.1) then
 (some (false,()))
 else
 ((spec_DrawDiff.f k a0).bind fun r31 =>
 ((impl_Diff.f k r31.1 r31.2.1).bind fun r32 =>
 ((impl_Fold.f k r31.1 r32.1 99).bind fun r33 =>
 ((laws_values.f k r33.1).bind fun r34 =>
 ((laws_values.f k r31.2.1).bind fun r35 =>
 ((spec_SamePairs.f k r34.1 r35.1).bind fun r36 =>
 (bif r36.1 then
 ((impl_Diff.f k r31.2.1 r31.2.1).bind fun r37 =>
 (some (((List.length r37.1:Int)==0),())))
 else
 (some (false,())))))))))))))))))
 else
 ((spec_DrawDiff.f k a0).bind fun r38 =>
 ((impl_Diff.f k r38.1 r38.2.1).bind fun r39 =>
 ((impl_Fold.f k r38.1 r39.1 99).bind fun r40 =>
 ((laws_values.f k r40.1).bind fun r41 =>
 ((laws_values.f k r38.2.1).bind fun r42 =>
 ((spec_SamePairs.f k r41.1 r42.1).bind fun r43 =>
 (bif r43.1 then
 ((impl_Diff.f k r38.2.1 r38.2.1).bind fun r44 =>
 (some (((List.length r44.1:Int)==0),())))
 else
 (some (false,())))))))))))))))))))
def f (k:Nat):=t k
end laws_FnBackups
end Go.Proofs.YtmakghhmpgfboaaGreatDoor.G
