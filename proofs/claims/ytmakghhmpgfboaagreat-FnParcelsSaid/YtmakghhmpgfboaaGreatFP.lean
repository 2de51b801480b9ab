/- Functions, as V runs them. -/
import Derived.Test.YtmakghhmpgfboaaGreatVWords
set_option linter.unusedVariables false
namespace Go.Proofs.YtmakghhmpgfboaaGreat.G
open Go.V
abbrev TPut:Ty := .pair .str (.pair .bool (.pair .str .unit))
abbrev TAck:Ty := .pair (.int .i64) (.pair (.slice TPut) .unit)
abbrev TAnswer:Ty := .pair (.int .i64) (.pair .str (.pair (.slice .str) .unit))
abbrev TBit:Ty := .pair (.int .i64) (.pair (.int .i64) (.pair .str .unit))
abbrev TPair:Ty := .pair .str (.pair .str (.pair (.int .i64) .unit))
abbrev TDisk:Ty := .pair (.slice TPair) (.pair (.int .i64) (.pair (.int .i64) (.pair .bool .unit)))
abbrev TLive:Ty := .pair (.int .i64) (.pair (.slice (.int .i64)) .unit)
abbrev TEntry:Ty := .pair .str (.pair (.int .i64) (.pair (.int .i64) (.pair (.int .i64) (.pair (.int .i64) .unit))))
abbrev TStore:Ty := .pair TLive (.pair (.slice TEntry) (.pair (.int .i64) (.pair (.int .i64) (.pair (.int .i64) .unit))))
abbrev TReadRow:Ty := .pair .str (.pair (.int .i64) .unit)
abbrev TTxn:Ty := .pair .bool (.pair (.slice TReadRow) (.pair (.slice TPut) .unit))
abbrev TEngine:Ty := .pair .bool (.pair TStore (.pair TDisk (.pair (.slice TTxn) .unit)))
abbrev TPiece:Ty := .pair (.int .i64) (.pair .str .unit)
abbrev TFollower:Ty := .pair (.int .i64) (.pair (.slice TPiece) .unit)
abbrev TGroup:Ty := .pair (.slice TEntry) (.pair (.int .i64) (.pair (.int .i64) .unit))
abbrev THint:Ty := .pair (.int .i64) (.pair (.int .i64) (.pair (.slice TEntry) .unit))
abbrev TParcel:Ty := .pair (.int .i64) (.pair (.slice TBit) .unit)
abbrev TRec:Ty := .pair (.int .i64) (.pair (.int .i64) (.pair .str (.pair .str (.pair (.int .i64) (.pair (.int .i64) .unit)))))
abbrev TPlace:Ty := .pair (.int .i64) (.pair (.int .i64) (.pair (.int .i64) (.pair TRec .unit)))
abbrev TResult:Ty := .pair TEngine (.pair (.slice TAnswer) (.pair (.slice TAck) (.pair (.slice TPut) .unit)))
abbrev TStep:Ty := .pair (.int .i64) (.pair (.int .i64) (.pair .str (.pair .str (.pair (.int .i64) .unit))))
abbrev TScript:Ty := .pair (.int .i64) (.pair (.int .i64) (.pair (.slice TStep) .unit))
abbrev TSpot:Ty := .pair (.int .i64) (.pair (.int .i64) (.pair TRec .unit))
abbrev Tl1Cur:Ty := .pair (.slice (.int .u8)) (.pair (.int .i64) (.pair (.int .i64) .unit))
abbrev Tscanner:Ty := .pair .str (.pair .bool .unit)
abbrev TFile:Ty:=TPair
namespace laws_big
abbrev Rs:Type:=Option (Bool × Unit)
def t (k:Nat) (a0:List Int):Rs :=
 (some ((decide ((List.length a0:Int) > 1048576)),()))
def f (k:Nat):=t k
end laws_big
namespace spec_l1New
abbrev Rs:Type:=Option (Unit × (Ty.den Tl1Cur) × Unit)
abbrev T0:Type:=List Int→Int→Int→Rs
def b0 (k:Nat) (L0:T0):T0:=fun x0 x1 x2 =>
 (bif (decide (x2<(x0.length:Int))) then
 (bif (decide (x2<4000)) then
 (inb x2 (x0.length:Int)
 (L0 x0 (w64 (((BitVec.ofInt (IntKind.bits .i64) (w64 ((w64 ((w64 (x1*131))+(w64 (List.getD x0 (Int.toNat x2) (Ty.dflt (.int .u8))))))+7)) &&& BitVec.ofInt (IntKind.bits .i64) 1073741823).toNat:Int))) (w64 (x2+1))))
 else
 (some ((),((x0,(0,(x1,()))),()))))
 else
 (some ((),((x0,(0,(x1,()))),()))))
def l0 (k:Nat):Nat→T0
 | 0=>fun _ _ _=>none
 | n+1=>b0 k (l0 k n)
def t (k:Nat) (L0:T0) (a0:List Int):Rs :=
 (L0 a0 (w64 (10101+(List.length a0:Int))) 0)
def f (k:Nat):=t k (l0 k k)
end spec_l1New
namespace spec_l1In
abbrev Rs:Type:=Option (Bool × Unit)
def t (k:Nat) (a0:Int) (a1:Int) (a2:Int):Rs :=
 (bif (decide (a0≥a1)) then
 (some ((decide (a0≤a2)),()))
 else
 (some (false,())))
def f (k:Nat):=t k
end spec_l1In
namespace spec_DiskNew
abbrev Rs:Type:=Option ((Ty.den TDisk) × Unit)
def t (k:Nat) (a0:Int):Rs :=
 ((spec_l1In.f k a0 0 100000).bind fun r1 =>
 (bif (!r1.1) then
 (some (([],(0,(0,(false,())))),()))
 else
 (some (([],(a0,((-1),(false,())))),()))))
def f (k:Nat):=t k
end spec_DiskNew
namespace spec_l3Used
abbrev Rs:Type:=Option (Int × Unit)
abbrev T0:Type:=Int→Int→List (Ty.den TPair)→Int→Int→Bool→Rs
def b0 (k:Nat) (L0:T0):T0:=fun x0 x1 x2 x3 x4 x5 =>
 (bif (decide (x1<(x2.length:Int))) then
 (inb x1 (x2.length:Int)
 (L0 (w64 (x0+(ByteArray.size (List.getD x2 (Int.toNat x1) (Ty.dflt TPair)).2.1:Int))) (w64 (x1+1)) x2 x3 x4 x5))
 else
 (some (x0,())))
def l0 (k:Nat):Nat→T0
 | 0=>fun _ _ _ _ _ _=>none
 | n+1=>b0 k (l0 k n)
def t (k:Nat) (L0:T0) (a0:Ty.den TDisk):Rs :=
 (L0 0 0 a0.1 a0.2.1 a0.2.2.1 a0.2.2.2.1)
def f (k:Nat):=t k (l0 k k)
end spec_l3Used
namespace spec_NameOk
abbrev Rs:Type:=Option (Bool × Unit)
abbrev T0:Type:=ByteArray→Int→Rs
def b0 (k:Nat) (L0:T0):T0:=fun x0 x1 =>
 (bif (decide (x1<(ByteArray.size x0:Int))) then
 (inb x1 (ByteArray.size x0:Int)
 (bif (decide ((byteAt x0 x1)≥97)) then
 (inb x1 (ByteArray.size x0:Int)
 (bif (decide ((byteAt x0 x1)≤122)) then
 (L0 x0 (w64 (x1+1)))
 else
 (inb x1 (ByteArray.size x0:Int)
 (bif (decide ((byteAt x0 x1)≥48)) then
 (inb x1 (ByteArray.size x0:Int)
 (bif (!(decide ((byteAt x0 x1)≤57))) then
 (some (false,()))
 else
 (L0 x0 (w64 (x1+1)))))
 else
 (some (false,()))))))
 else
 (inb x1 (ByteArray.size x0:Int)
 (bif (decide ((byteAt x0 x1)≥48)) then
 (inb x1 (ByteArray.size x0:Int)
 (bif (!(decide ((byteAt x0 x1)≤57))) then
 (some (false,()))
 else
 (L0 x0 (w64 (x1+1)))))
 else
 (some (false,()))))))
 else
 ((spec_l1In.f k (ByteArray.size x0:Int) 1 12).bind fun r1 =>
 (some r1)))
def l0 (k:Nat):Nat→T0
 | 0=>fun _ _=>none
 | n+1=>b0 k (l0 k n)
def t (k:Nat) (L0:T0) (a0:ByteArray):Rs :=
 (L0 a0 0)
def f (k:Nat):=t k (l0 k k)
end spec_NameOk
namespace spec_DiskOk
abbrev Rs:Type:=Option (Bool × Unit)
abbrev T0:Type:=Int→List (Ty.den TPair)→Int→Int→Bool→Rs
def b0 (k:Nat) (L0:T0):T0:=fun x0 x1 x2 x3 x4 =>
 (bif (decide (x0<(x1.length:Int))) then
 (inb x0 (x1.length:Int)
 ((spec_NameOk.f k (List.getD x1 (Int.toNat x0) (Ty.dflt TPair)).1).bind fun r4 =>
 (bif (!r4.1) then
 (some (false,()))
 else
 (inb x0 (x1.length:Int)
 (inb x0 (x1.length:Int)
 ((spec_l1In.f k (List.getD x1 (Int.toNat x0) (Ty.dflt TPair)).2.2.1 0 (ByteArray.size (List.getD x1 (Int.toNat x0) (Ty.dflt TPair)).2.1:Int)).bind fun r5 =>
 (bif (!r5.1) then
 (some (false,()))
 else
 (bif (decide (x0 > 0)) then
 (inb x0 (x1.length:Int)
 (inb (w64 (x0-1)) (x1.length:Int)
 (bif ((sls (List.getD x1 (Int.toNat x0) (Ty.dflt TPair)).1 (List.getD x1 (Int.toNat (w64 (x0-1))) (Ty.dflt TPair)).1)||(seq (List.getD x1 (Int.toNat x0) (Ty.dflt TPair)).1 (List.getD x1 (Int.toNat (w64 (x0-1))) (Ty.dflt TPair)).1)) then
 (some (false,()))
 else
 (L0 (w64 (x0+1)) x1 x2 x3 x4))))
 else
 (L0 (w64 (x0+1)) x1 x2 x3 x4)))))))))
 else
 (some (true,())))
def l0 (k:Nat):Nat→T0
 | 0=>fun _ _ _ _ _=>none
 | n+1=>b0 k (l0 k n)
def t (k:Nat) (L0:T0) (a0:Ty.den TDisk):Rs :=
 (bif (decide ((List.length a0.1:Int) > 130)) then
 (some (false,()))
 else
 ((spec_l1In.f k a0.2.1 0 100000).bind fun r1 =>
 (bif (!r1.1) then
 (some (false,()))
 else
 ((spec_l1In.f k a0.2.2.1 (-1) 100000).bind fun r2 =>
 (bif (!r2.1) then
 (some (false,()))
 else
 ((spec_l3Used.f k a0).bind fun r3 =>
 (bif (decide (r3.1 > a0.2.1)) then
 (some (false,()))
 else
 (L0 0 a0.1 a0.2.1 a0.2.2.1 a0.2.2.2.1))))))))
def f (k:Nat):=t k (l0 k k)
end spec_DiskOk
namespace spec_l3Copy
abbrev Rs:Type:=Option ((Ty.den TDisk) × Unit)
def t (k:Nat) (a0:Ty.den TDisk):Rs :=
 (rm (Ty.bytes TPair) (0+List.length a0.1)
 (some ((([]++a0.1),a0.2),())))
def f (k:Nat):=t k
end spec_l3Copy
namespace spec_l3Find
abbrev Rs:Type:=Option (Int × Unit)
abbrev T0:Type:=ByteArray→Int→List (Ty.den TPair)→Int→Int→Bool→Rs
def b0 (k:Nat) (L0:T0):T0:=fun x0 x1 x2 x3 x4 x5 =>
 (bif (decide (x1<(x2.length:Int))) then
 (inb x1 (x2.length:Int)
 (bif (seq (List.getD x2 (Int.toNat x1) (Ty.dflt TPair)).1 x0) then
 (some (x1,()))
 else
 (L0 x0 (w64 (x1+1)) x2 x3 x4 x5)))
 else
 (some ((-1),())))
def l0 (k:Nat):Nat→T0
 | 0=>fun _ _ _ _ _ _=>none
 | n+1=>b0 k (l0 k n)
def t (k:Nat) (L0:T0) (a0:Ty.den TDisk) (a1:ByteArray):Rs :=
 (L0 a1 0 a0.1 a0.2.1 a0.2.2.1 a0.2.2.2.1)
def f (k:Nat):=t k (l0 k k)
end spec_l3Find
namespace spec_FileText
abbrev Rs:Type:=Option (ByteArray × Bool × Unit)
def t (k:Nat) (a0:Ty.den TDisk) (a1:ByteArray):Rs :=
 ((spec_DiskOk.f k a0).bind fun r1 =>
 (bif (!r1.1) then
 (some ((⟨#[]⟩:ByteArray),(false,())))
 else
 ((spec_l3Find.f k a0 a1).bind fun r2 =>
 (bif (decide (r2.1<0)) then
 (some ((⟨#[]⟩:ByteArray),(false,())))
 else
 (inb r2.1 (List.length a0.1:Int)
 (some ((List.getD a0.1 (Int.toNat r2.1) (Ty.dflt TPair)).2.1,(true,()))))))))
def f (k:Nat):=t k
end spec_FileText
namespace spec_Dec
abbrev Rs:Type:=Option (ByteArray × Unit)
abbrev T0:Type:=Int→ByteArray→Bool→Rs
def b0 (k:Nat) (L0:T0):T0:=fun x0 x1 x2 =>
 (bif (x0 != 0) then
 (bif (decide ((Int.tmod x0 10)<0)) then
 (cat (bytesOf [(IntKind.wrap .u8 (w64 (48+(w64 (0-(Int.tmod x0 10))))))]) x1
 (L0 (w64 (Int.tdiv x0 10)) ((bytesOf [(IntKind.wrap .u8 (w64 (48+(w64 (0-(Int.tmod x0 10))))))])++x1) x2))
 else
 (cat (bytesOf [(IntKind.wrap .u8 (w64 (48+(Int.tmod x0 10))))]) x1
 (L0 (w64 (Int.tdiv x0 10)) ((bytesOf [(IntKind.wrap .u8 (w64 (48+(Int.tmod x0 10))))])++x1) x2)))
 else
 (bif x2 then
 (cat (⟨#[45]⟩:ByteArray) x1
 (some (((⟨#[45]⟩:ByteArray)++x1),())))
 else
 (some (x1,()))))
def l0 (k:Nat):Nat→T0
 | 0=>fun _ _ _=>none
 | n+1=>b0 k (l0 k n)
def t (k:Nat) (L0:T0) (a0:Int):Rs :=
 (bif (a0==0) then
 (some ((⟨#[48]⟩:ByteArray),()))
 else
 (L0 a0 (⟨#[]⟩:ByteArray) (decide (a0<0))))
def f (k:Nat):=t k (l0 k k)
end spec_Dec
namespace spec_ReadDec
abbrev Rs:Type:=Option (Int × Bool × Unit)
abbrev T0:Type:=ByteArray→Int→Int→Int→Rs
def b0 (k:Nat) (L0:T0):T0:=fun x0 x1 x2 x3 =>
 (bif (decide (x3<(ByteArray.size x0:Int))) then
 (bif (decide (x3<11)) then
 (inb x3 (ByteArray.size x0:Int)
 (bif (decide ((byteAt x0 x3)≥48)) then
 (inb x3 (ByteArray.size x0:Int)
 (bif (decide ((byteAt x0 x3)≤57)) then
 (inb x3 (ByteArray.size x0:Int)
 (L0 x0 (w64 ((w64 (x1*10))+(w64 (IntKind.wrap .u8 ((byteAt x0 x3)-48))))) (w64 (x2+1)) (w64 (x3+1))))
 else
 (L0 x0 x1 x2 (w64 (x3+1)))))
 else
 (L0 x0 x1 x2 (w64 (x3+1)))))
 else
 (bif (decide ((ByteArray.size x0:Int) > 0)) then
 (inb 0 (ByteArray.size x0:Int)
 (bif ((byteAt x0 0)==45) then
 (bif (decide (x2 > 9)) then
 (some (0,(false,())))
 else
 (bif (decide ((ByteArray.size x0:Int) > 10)) then
 (some (0,(false,())))
 else
 ((spec_Dec.f k (w64 (0-x1))).bind fun r1 =>
 (bif (!(seq r1.1 x0)) then
 (some (0,(false,())))
 else
 (some ((w64 (0-x1)),(true,())))))))
 else
 (bif (decide (x2 > 9)) then
 (some (0,(false,())))
 else
 (bif (decide ((ByteArray.size x0:Int) > 10)) then
 (some (0,(false,())))
 else
 ((spec_Dec.f k x1).bind fun r2 =>
 (bif (!(seq r2.1 x0)) then
 (some (0,(false,())))
 else
 (some (x1,(true,())))))))))
 else
 (bif (decide (x2 > 9)) then
 (some (0,(false,())))
 else
 (bif (decide ((ByteArray.size x0:Int) > 10)) then
 (some (0,(false,())))
 else
 ((spec_Dec.f k x1).bind fun r3 =>
 (bif (!(seq r3.1 x0)) then
 (some (0,(false,())))
 else
 (some (x1,(true,())))))))))
 else
 (bif (decide ((ByteArray.size x0:Int) > 0)) then
 (inb 0 (ByteArray.size x0:Int)
 (bif ((byteAt x0 0)==45) then
 (bif (decide (x2 > 9)) then
 (some (0,(false,())))
 else
 (bif (decide ((ByteArray.size x0:Int) > 10)) then
 (some (0,(false,())))
 else
 ((spec_Dec.f k (w64 (0-x1))).bind fun r4 =>
 (bif (!(seq r4.1 x0)) then
 (some (0,(false,())))
 else
 (some ((w64 (0-x1)),(true,())))))))
 else
 (bif (decide (x2 > 9)) then
 (some (0,(false,())))
 else
 (bif (decide ((ByteArray.size x0:Int) > 10)) then
 (some (0,(false,())))
 else
 ((spec_Dec.f k x1).bind fun r5 =>
 (bif (!(seq r5.1 x0)) then
 (some (0,(false,())))
 else
 (some (x1,(true,())))))))))
 else
 (bif (decide (x2 > 9)) then
 (some (0,(false,())))
 else
 (bif (decide ((ByteArray.size x0:Int) > 10)) then
 (some (0,(false,())))
 else
 ((spec_Dec.f k x1).bind fun r6 =>
 (bif (!(seq r6.1 x0)) then
 (some (0,(false,())))
 else
 (some (x1,(true,())))))))))
def l0 (k:Nat):Nat→T0
 | 0=>fun _ _ _ _=>none
 | n+1=>b0 k (l0 k n)
def t (k:Nat) (L0:T0) (a0:ByteArray):Rs :=
 (L0 a0 0 0 0)
def f (k:Nat):=t k (l0 k k)
end spec_ReadDec
namespace spec_SegName
abbrev Rs:Type:=Option (ByteArray × Unit)
def t (k:Nat) (a0:Int):Rs :=
 ((spec_l1In.f k a0 1 100000).bind fun r1 =>
 (bif (!r1.1) then
 (some ((⟨#[]⟩:ByteArray),()))
 else
 ((spec_Dec.f k a0).bind fun r2 =>
 (cat (⟨#[115,101,103]⟩:ByteArray) r2.1
 (some (((⟨#[115,101,103]⟩:ByteArray)++r2.1),()))))))
def f (k:Nat):=t k
end spec_SegName
namespace spec_HintName
abbrev Rs:Type:=Option (ByteArray × Unit)
def t (k:Nat) (a0:Int):Rs :=
 ((spec_l1In.f k a0 1 100000).bind fun r1 =>
 (bif (!r1.1) then
 (some ((⟨#[]⟩:ByteArray),()))
 else
 ((spec_Dec.f k a0).bind fun r2 =>
 (cat (⟨#[104,105,110,116]⟩:ByteArray) r2.1
 (some (((⟨#[104,105,110,116]⟩:ByteArray)++r2.1),()))))))
def f (k:Nat):=t k
end spec_HintName
namespace spec_IdOf
abbrev Rs:Type:=Option (Int × Bool × Unit)
abbrev T0:Type:=ByteArray→Int→Rs
def b0 (k:Nat) (L0:T0):T0:=fun x0 x1 =>
 (bif (decide (x1≤4)) then
 (bif (decide ((ByteArray.size x0:Int) > x1)) then
 (inc x1 (ByteArray.size x0:Int)
 ((spec_ReadDec.f k (ByteArray.extract x0 (Int.toNat x1) (ByteArray.size x0))).bind fun r1 =>
 (bif r1.2.1 then
 (bif (decide (r1.1≥1)) then
 ((spec_SegName.f k r1.1).bind fun r2 =>
 (bif (seq r2.1 x0) then
 (some (r1.1,(true,())))
 else
 ((spec_HintName.f k r1.1).bind fun r3 =>
 (bif (seq r3.1 x0) then
 (some (r1.1,(true,())))
 else
 (L0 x0 (w64 (x1+1)))))))
 else
 (L0 x0 (w64 (x1+1))))
 else
 (L0 x0 (w64 (x1+1))))))
 else
 (L0 x0 (w64 (x1+1))))
 else
 (some (0,(false,()))))
def l0 (k:Nat):Nat→T0
 | 0=>fun _ _=>none
 | n+1=>b0 k (l0 k n)
def t (k:Nat) (L0:T0) (a0:ByteArray):Rs :=
 (L0 a0 3)
def f (k:Nat):=t k (l0 k k)
end spec_IdOf
namespace spec_Orphans
abbrev Rs:Type:=Option ((List ByteArray) × Unit)
abbrev T1:Type:=Int→Int→Bool→Bool→Int→List (Ty.den TPair)→Int→Int→Bool→Int→List Int→List ByteArray→Rs
abbrev T0:Type:=Int→List (Ty.den TPair)→Int→Int→Bool→Int→List Int→List ByteArray→Rs
def b1 (k:Nat) (L0:T0) (L1:T1):T1:=fun x0 x1 x2 x3 x4 x5 x6 x7 x8 x9 x10 x11 =>
 (bif (decide (x4<(x10.length:Int))) then
 (bif x3 then
 (L1 x0 x1 x2 true (w64 (x4+1)) x5 x6 x7 x8 x9 x10 x11)
 else
 (inb x4 (x10.length:Int)
 (L1 x0 x1 x2 ((List.getD x10 (Int.toNat x4) (Ty.dflt (.int .i64)))==x1) (w64 (x4+1)) x5 x6 x7 x8 x9 x10 x11)))
 else
 (bif x2 then
 (bif (!x3) then
 (inb x0 (x5.length:Int)
 (rm (Ty.bytes .str) (List.length x11+1)
 (L0 (w64 (x0+1)) x5 x6 x7 x8 x9 x10 (x11++[(List.getD x5 (Int.toNat x0) (Ty.dflt TPair)).1]))))
 else
 (inb x0 (x5.length:Int)
 (bif (seq (List.getD x5 (Int.toNat x0) (Ty.dflt TPair)).1 (⟨#[116,101,109,112]⟩:ByteArray)) then
 (inb x0 (x5.length:Int)
 (rm (Ty.bytes .str) (List.length x11+1)
 (L0 (w64 (x0+1)) x5 x6 x7 x8 x9 x10 (x11++[(List.getD x5 (Int.toNat x0) (Ty.dflt TPair)).1]))))
 else
 (L0 (w64 (x0+1)) x5 x6 x7 x8 x9 x10 x11))))
 else
 (inb x0 (x5.length:Int)
 (bif (seq (List.getD x5 (Int.toNat x0) (Ty.dflt TPair)).1 (⟨#[116,101,109,112]⟩:ByteArray)) then
 (inb x0 (x5.length:Int)
 (rm (Ty.bytes .str) (List.length x11+1)
 (L0 (w64 (x0+1)) x5 x6 x7 x8 x9 x10 (x11++[(List.getD x5 (Int.toNat x0) (Ty.dflt TPair)).1]))))
 else
 (L0 (w64 (x0+1)) x5 x6 x7 x8 x9 x10 x11)))))
def l1 (k:Nat) (L0:T0):Nat→T1
 | 0=>fun _ _ _ _ _ _ _ _ _ _ _ _=>none
 | n+1=>b1 k L0 (l1 k L0 n)
def b0 (k:Nat) (L1:T1) (L0:T0):T0:=fun x0 x1 x2 x3 x4 x5 x6 x7 =>
 (bif (decide (x0<(x1.length:Int))) then
 (inb x0 (x1.length:Int)
 ((spec_IdOf.f k (List.getD x1 (Int.toNat x0) (Ty.dflt TPair)).1).bind fun r2 =>
 (L1 x0 r2.1 r2.2.1 false 0 x1 x2 x3 x4 x5 x6 x7)))
 else
 (some (x7,())))
def l0 (k:Nat):Nat→T0
 | 0=>fun _ _ _ _ _ _ _ _=>none
 | n+1=>b0 k (l1 k (l0 k n) k) (l0 k n)
def t (k:Nat) (L0:T0) (a0:Ty.den TDisk) (a1:Ty.den TLive):Rs :=
 ((spec_DiskOk.f k a0).bind fun r1 =>
 (bif (!r1.1) then
 (some ([],()))
 else
 (L0 0 a0.1 a0.2.1 a0.2.2.1 a0.2.2.2.1 a1.1 a1.2.1 [])))
def f (k:Nat):=t k (l0 k k)
end spec_Orphans
namespace spec_l3Begin
abbrev Rs:Type:=Option ((Ty.den TDisk) × Int × Unit)
def t (k:Nat) (a0:Ty.den TDisk):Rs :=
 ((spec_l3Copy.f k a0).bind fun r1 =>
 ((spec_DiskOk.f k a0).bind fun r2 =>
 (bif (!r2.1) then
 (some (r1.1,(5,())))
 else
 (bif a0.2.2.2.1 then
 (some ((r1.1.1,(r1.1.2.1,(r1.1.2.2.1,(true,())))),(1,())))
 else
 (bif (a0.2.2.1==0) then
 (some ((r1.1.1,(r1.1.2.1,(r1.1.2.2.1,(true,())))),(1,())))
 else
 (bif (decide (a0.2.2.1 > 0)) then
 (some ((r1.1.1,(r1.1.2.1,((w64 (a0.2.2.1-1)),r1.1.2.2.2))),(0,())))
 else
 (some (r1.1,(0,())))))))))
def f (k:Nat):=t k
end spec_l3Begin
namespace spec_l3Without
abbrev Rs:Type:=Option ((List (Ty.den TPair)) × Unit)
def t (k:Nat) (a0:List (Ty.den TPair)) (a1:Int):Rs :=
 (inc a1 (List.length a0:Int)
 (rm (Ty.bytes TPair) (0+List.length (List.take (Int.toNat a1) a0))
 (inc (w64 (a1+1)) (List.length a0:Int)
 (rm (Ty.bytes TPair) (List.length ([]++(List.take (Int.toNat a1) a0))+List.length (List.drop (Int.toNat (w64 (a1+1))) a0))
 (some ((([]++(List.take (Int.toNat a1) a0))++(List.drop (Int.toNat (w64 (a1+1))) a0)),()))))))
def f (k:Nat):=t k
end spec_l3Without
namespace spec_Remove
abbrev Rs:Type:=Option ((Ty.den TDisk) × Int × Unit)
def t (k:Nat) (a0:Ty.den TDisk) (a1:ByteArray):Rs :=
 ((spec_l3Begin.f k a0).bind fun r1 =>
 (bif (r1.2.1 != 0) then
 (some r1)
 else
 ((spec_l3Find.f k a0 a1).bind fun r2 =>
 (bif (decide (r2.1<0)) then
 (some (r1.1,(3,())))
 else
 ((spec_l3Without.f k r1.1.1 r2.1).bind fun r3 =>
 (some ((r3.1,r1.1.2),(0,()))))))))
def f (k:Nat):=t k
end spec_Remove
namespace spec_l11Code
abbrev Rs:Type:=Option (Int × Unit)
def t (k:Nat) (a0:Int):Rs :=
 (bif (a0==0) then
 (some (0,()))
 else
 (bif (a0==1) then
 (some (1,()))
 else
 (bif (a0==2) then
 (some (2,()))
 else
 (some (3,())))))
def f (k:Nat):=t k
end spec_l11Code
namespace spec_l3Insert
abbrev Rs:Type:=Option ((List (Ty.den TPair)) × Unit)
abbrev T0:Type:=List (Ty.den TPair)→Bool→Int→ByteArray→ByteArray→Int→List (Ty.den TPair)→Rs
def b0 (k:Nat) (L0:T0):T0:=fun x0 x1 x2 x3 x4 x5 x6 =>
 (bif (decide (x2<(x0.length:Int))) then
 (bif (!x1) then
 (inb x2 (x0.length:Int)
 (bif (!((sls (List.getD x0 (Int.toNat x2) (Ty.dflt TPair)).1 x3)||(seq (List.getD x0 (Int.toNat x2) (Ty.dflt TPair)).1 x3))) then
 (rm (Ty.bytes TPair) (List.length x6+1)
 (inb x2 (x0.length:Int)
 (rm (Ty.bytes TPair) (List.length (x6++[(x3,(x4,(x5,())))])+1)
 (L0 x0 true (w64 (x2+1)) x3 x4 x5 ((x6++[(x3,(x4,(x5,())))])++[(List.getD x0 (Int.toNat x2) (Ty.dflt TPair))])))))
 else
 (inb x2 (x0.length:Int)
 (rm (Ty.bytes TPair) (List.length x6+1)
 (L0 x0 x1 (w64 (x2+1)) x3 x4 x5 (x6++[(List.getD x0 (Int.toNat x2) (Ty.dflt TPair))]))))))
 else
 (inb x2 (x0.length:Int)
 (rm (Ty.bytes TPair) (List.length x6+1)
 (L0 x0 x1 (w64 (x2+1)) x3 x4 x5 (x6++[(List.getD x0 (Int.toNat x2) (Ty.dflt TPair))])))))
 else
 (bif (!x1) then
 (rm (Ty.bytes TPair) (List.length x6+1)
 (some ((x6++[(x3,(x4,(x5,())))]),())))
 else
 (some (x6,()))))
def l0 (k:Nat):Nat→T0
 | 0=>fun _ _ _ _ _ _ _=>none
 | n+1=>b0 k (l0 k n)
def t (k:Nat) (L0:T0) (a0:List (Ty.den TPair)) (a1:Ty.den TPair):Rs :=
 (L0 a0 false 0 a1.1 a1.2.1 a1.2.2.1 [])
def f (k:Nat):=t k (l0 k k)
end spec_l3Insert
namespace spec_Create
abbrev Rs:Type:=Option ((Ty.den TDisk) × Int × Unit)
def t (k:Nat) (a0:Ty.den TDisk) (a1:ByteArray):Rs :=
 ((spec_l3Begin.f k a0).bind fun r1 =>
 (bif (r1.2.1 != 0) then
 (some r1)
 else
 ((spec_NameOk.f k a1).bind fun r2 =>
 (bif (!r2.1) then
 (some (r1.1,(5,())))
 else
 ((spec_l3Find.f k a0 a1).bind fun r3 =>
 (bif (decide (r3.1≥0)) then
 (some (r1.1,(4,())))
 else
 (bif (decide ((List.length a0.1:Int)≥130)) then
 (some (r1.1,(2,())))
 else
 ((spec_l3Insert.f k r1.1.1 (a1,(ByteArray.empty,(0,())))).bind fun r4 =>
 (some ((r4.1,r1.1.2),(0,())))))))))))
def f (k:Nat):=t k
end spec_Create
namespace spec_LiveOk
abbrev Rs:Type:=Option (Bool × Unit)
abbrev T0:Type:=Int→Int→List Int→Rs
def b0 (k:Nat) (L0:T0):T0:=fun x0 x1 x2 =>
 (bif (decide (x0<(x2.length:Int))) then
 (inb x0 (x2.length:Int)
 ((spec_l1In.f k (List.getD x2 (Int.toNat x0) (Ty.dflt (.int .i64))) 1 (w64 (x1-1))).bind fun r3 =>
 (bif (!r3.1) then
 (some (false,()))
 else
 (bif (decide (x0 > 0)) then
 (inb x0 (x2.length:Int)
 (inb (w64 (x0-1)) (x2.length:Int)
 (bif (decide ((List.getD x2 (Int.toNat x0) (Ty.dflt (.int .i64)))≤(List.getD x2 (Int.toNat (w64 (x0-1))) (Ty.dflt (.int .i64))))) then
 (some (false,()))
 else
 (L0 (w64 (x0+1)) x1 x2))))
 else
 (L0 (w64 (x0+1)) x1 x2)))))
 else
 (some (true,())))
def l0 (k:Nat):Nat→T0
 | 0=>fun _ _ _=>none
 | n+1=>b0 k (l0 k n)
def t (k:Nat) (L0:T0) (a0:Ty.den TLive):Rs :=
 ((spec_l1In.f k a0.1 1 100000).bind fun r1 =>
 (bif (!r1.1) then
 (some (false,()))
 else
 ((spec_l1In.f k (List.length a0.2.1:Int) 1 60).bind fun r2 =>
 (bif (!r2.1) then
 (some (false,()))
 else
 (L0 0 a0.1 a0.2.1)))))
def f (k:Nat):=t k (l0 k k)
end spec_LiveOk
namespace spec_Var
abbrev Rs:Type:=Option (ByteArray × Unit)
abbrev T0:Type:=Int→List Int→Rs
def b0 (k:Nat) (L0:T0):T0:=fun x0 x1 =>
 (bif (decide (x0≥128)) then
 (rm (Ty.bytes (.int .u8)) (List.length x1+1)
 (L0 (w64 (Int.tdiv x0 128)) (x1++[(IntKind.wrap .u8 (w64 (128+(Int.tmod x0 128))))])))
 else
 (rm (Ty.bytes (.int .u8)) (List.length x1+1)
 (some ((bytesOf (x1++[(IntKind.wrap .u8 x0)])),()))))
def l0 (k:Nat):Nat→T0
 | 0=>fun _ _=>none
 | n+1=>b0 k (l0 k n)
def t (k:Nat) (L0:T0) (a0:Int):Rs :=
 ((spec_l1In.f k a0 0 562949953421311).bind fun r1 =>
 (bif (!r1.1) then
 (some ((⟨#[]⟩:ByteArray),()))
 else
 (L0 a0 [])))
def f (k:Nat):=t k (l0 k k)
end spec_Var
namespace spec_Crc
abbrev Rs:Type:=Option (Int × Unit)
abbrev T1:Type:=ByteArray→Int→Int→Int→Rs
abbrev T0:Type:=ByteArray→Int→Int→Rs
def b1 (k:Nat) (L0:T0) (L1:T1):T1:=fun x0 x1 x2 x3 =>
 (bif (decide (x3<8)) then
 (bif ((Int.tmod x1 2)==1) then
 (L1 x0 (w64 (((BitVec.ofInt (IntKind.bits .i64) (w64 (Int.tdiv x1 2)) ^^^ BitVec.ofInt (IntKind.bits .i64) 2197175160).toNat:Int))) x2 (w64 (x3+1)))
 else
 (L1 x0 (w64 (Int.tdiv x1 2)) x2 (w64 (x3+1))))
 else
 (L0 x0 x1 (w64 (x2+1))))
def l1 (k:Nat) (L0:T0):Nat→T1
 | 0=>fun _ _ _ _=>none
 | n+1=>b1 k L0 (l1 k L0 n)
def b0 (k:Nat) (L1:T1) (L0:T0):T0:=fun x0 x1 x2 =>
 (bif (decide (x2<(ByteArray.size x0:Int))) then
 (inb x2 (ByteArray.size x0:Int)
 (L1 x0 (w64 (((BitVec.ofInt (IntKind.bits .i64) x1 ^^^ BitVec.ofInt (IntKind.bits .i64) (w64 (byteAt x0 x2))).toNat:Int))) x2 0))
 else
 (some ((w64 (4294967295-x1)),())))
def l0 (k:Nat):Nat→T0
 | 0=>fun _ _ _=>none
 | n+1=>b0 k (l1 k (l0 k n) k) (l0 k n)
def t (k:Nat) (L0:T0) (a0:ByteArray):Rs :=
 (L0 a0 4294967295 0)
def f (k:Nat):=t k (l0 k k)
end spec_Crc
namespace spec_Fixed
abbrev Rs:Type:=Option (ByteArray × Unit)
abbrev T0:Type:=Int→Int→ByteArray→Int→Rs
def b0 (k:Nat) (L0:T0):T0:=fun x0 x1 x2 x3 =>
 (bif (decide (x3<x1)) then
 (cat (bytesOf [(IntKind.wrap .u8 (Int.tmod x0 256))]) x2
 (L0 (w64 (Int.tdiv x0 256)) x1 ((bytesOf [(IntKind.wrap .u8 (Int.tmod x0 256))])++x2) (w64 (x3+1))))
 else
 (bif (decide (x0 > 0)) then
 (some ((⟨#[]⟩:ByteArray),()))
 else
 (some (x2,()))))
def l0 (k:Nat):Nat→T0
 | 0=>fun _ _ _ _=>none
 | n+1=>b0 k (l0 k n)
def t (k:Nat) (L0:T0) (a0:Int) (a1:Int):Rs :=
 ((spec_l1In.f k a1 1 7).bind fun r1 =>
 (bif (!r1.1) then
 (some ((⟨#[]⟩:ByteArray),()))
 else
 (bif (decide (a0<0)) then
 (some ((⟨#[]⟩:ByteArray),()))
 else
 (L0 a0 a1 (⟨#[]⟩:ByteArray) 0))))
def f (k:Nat):=t k (l0 k k)
end spec_Fixed
namespace spec_Frame
abbrev Rs:Type:=Option (ByteArray × Unit)
def t (k:Nat) (a0:ByteArray):Rs :=
 (bif (decide ((ByteArray.size a0:Int) > 200)) then
 (some ((⟨#[]⟩:ByteArray),()))
 else
 ((spec_Var.f k (ByteArray.size a0:Int)).bind fun r1 =>
 (cat r1.1 a0
 ((spec_Crc.f k (r1.1++a0)).bind fun r2 =>
 ((spec_Fixed.f k r2.1 4).bind fun r3 =>
 (cat r3.1 (r1.1++a0)
 (some ((r3.1++(r1.1++a0)),()))))))))
def f (k:Nat):=t k
end spec_Frame
namespace spec_ShowLive
abbrev Rs:Type:=Option (ByteArray × Unit)
abbrev T0:Type:=ByteArray→Int→Int→List Int→Rs
def b0 (k:Nat) (L0:T0):T0:=fun x0 x1 x2 x3 =>
 (bif (decide (x1<(x3.length:Int))) then
 (inb x1 (x3.length:Int)
 ((spec_Var.f k (List.getD x3 (Int.toNat x1) (Ty.dflt (.int .i64)))).bind fun r4 =>
 (cat x0 r4.1
 (L0 (x0++r4.1) (w64 (x1+1)) x2 x3))))
 else
 ((spec_Frame.f k x0).bind fun r5 =>
 (some r5)))
def l0 (k:Nat):Nat→T0
 | 0=>fun _ _ _ _=>none
 | n+1=>b0 k (l0 k n)
def t (k:Nat) (L0:T0) (a0:Ty.den TLive):Rs :=
 ((spec_LiveOk.f k a0).bind fun r1 =>
 (bif (!r1.1) then
 (some ((⟨#[]⟩:ByteArray),()))
 else
 ((spec_Var.f k a0.1).bind fun r2 =>
 ((spec_Var.f k (List.length a0.2.1:Int)).bind fun r3 =>
 (cat r2.1 r3.1
 (L0 (r2.1++r3.1) 0 a0.1 a0.2.1))))))
def f (k:Nat):=t k (l0 k k)
end spec_ShowLive
namespace spec_l11Fresh
abbrev Rs:Type:=Option ((Ty.den TDisk) × Int × Unit)
def t (k:Nat) (a0:Ty.den TDisk) (a1:ByteArray):Rs :=
 ((spec_l3Find.f k a0 a1).bind fun r1 =>
 (bif (decide (r1.1≥0)) then
 ((spec_Remove.f k a0 a1).bind fun r2 =>
 (bif (r2.2.1 != 0) then
 (some r2)
 else
 ((spec_Create.f k r2.1 a1).bind fun r3 =>
 (some r3))))
 else
 ((spec_Create.f k a0 a1).bind fun r4 =>
 (some r4))))
def f (k:Nat):=t k
end spec_l11Fresh
namespace spec_Append
abbrev Rs:Type:=Option ((Ty.den TDisk) × Int × Unit)
def t (k:Nat) (a0:Ty.den TDisk) (a1:ByteArray) (a2:ByteArray):Rs :=
 ((spec_l3Begin.f k a0).bind fun r1 =>
 (bif (r1.2.1 != 0) then
 (some r1)
 else
 ((spec_l3Find.f k a0 a1).bind fun r2 =>
 (bif (decide (r2.1<0)) then
 (some (r1.1,(3,())))
 else
 ((spec_l3Used.f k a0).bind fun r3 =>
 (bif (decide ((ByteArray.size a2:Int) > (w64 (a0.2.1-r3.1)))) then
 (some (r1.1,(2,())))
 else
 (inb r2.1 (List.length a0.1:Int)
 (cat (List.getD a0.1 (Int.toNat r2.1) (Ty.dflt TPair)).2.1 a2
 (inb r2.1 (List.length r1.1.1:Int)
 (let l4:=(List.set r1.1.1 (Int.toNat r2.1) ((List.getD r1.1.1 (Int.toNat r2.1) (Ty.dflt TPair)).1,(((List.getD a0.1 (Int.toNat r2.1) (Ty.dflt TPair)).2.1++a2),(List.getD r1.1.1 (Int.toNat r2.1) (Ty.dflt TPair)).2.2)));
 (some ((l4,r1.1.2),(0,())))))))))))))
def f (k:Nat):=t k
end spec_Append
namespace spec_Sync
abbrev Rs:Type:=Option ((Ty.den TDisk) × Int × Unit)
def t (k:Nat) (a0:Ty.den TDisk) (a1:ByteArray):Rs :=
 ((spec_l3Begin.f k a0).bind fun r1 =>
 (bif (r1.2.1 != 0) then
 (some r1)
 else
 ((spec_l3Find.f k a0 a1).bind fun r2 =>
 (bif (decide (r2.1<0)) then
 (some (r1.1,(3,())))
 else
 (inb r2.1 (List.length a0.1:Int)
 (inb r2.1 (List.length r1.1.1:Int)
 (let l3:=(List.set r1.1.1 (Int.toNat r2.1) ((List.getD r1.1.1 (Int.toNat r2.1) (Ty.dflt TPair)).1,((List.getD r1.1.1 (Int.toNat r2.1) (Ty.dflt TPair)).2.1,((ByteArray.size (List.getD a0.1 (Int.toNat r2.1) (Ty.dflt TPair)).2.1:Int),(List.getD r1.1.1 (Int.toNat r2.1) (Ty.dflt TPair)).2.2.2))));
 (some ((l3,r1.1.2),(0,()))))))))))
def f (k:Nat):=t k
end spec_Sync
namespace spec_l11File
abbrev Rs:Type:=Option ((Ty.den TDisk) × Int × Unit)
def t (k:Nat) (a0:Ty.den TDisk) (a1:ByteArray) (a2:ByteArray):Rs :=
 ((spec_l11Fresh.f k a0 a1).bind fun r1 =>
 (bif (r1.2.1==0) then
 ((spec_Append.f k r1.1 a1 a2).bind fun r2 =>
 (bif (r2.2.1==0) then
 ((spec_Sync.f k r2.1 a1).bind fun r3 =>
 (some r3))
 else
 (some r2)))
 else
 (bif (r1.2.1==0) then
 ((spec_Sync.f k r1.1 a1).bind fun r4 =>
 (some r4))
 else
 (some r1))))
def f (k:Nat):=t k
end spec_l11File
namespace spec_Rename
abbrev Rs:Type:=Option ((Ty.den TDisk) × Int × Unit)
def t (k:Nat) (a0:Ty.den TDisk) (a1:ByteArray) (a2:ByteArray):Rs :=
 ((spec_l3Begin.f k a0).bind fun r1 =>
 (bif (r1.2.1 != 0) then
 (some r1)
 else
 ((spec_NameOk.f k a2).bind fun r2 =>
 (bif (!r2.1) then
 (some (r1.1,(5,())))
 else
 ((spec_l3Find.f k a0 a1).bind fun r3 =>
 (bif (decide (r3.1<0)) then
 (some (r1.1,(3,())))
 else
 (bif (seq a1 a2) then
 (some (r1.1,(0,())))
 else
 (inb r3.1 (List.length a0.1:Int)
 ((spec_l3Without.f k r1.1.1 r3.1).bind fun r4 =>
 ((spec_l3Find.f k (r4.1,r1.1.2) a2).bind fun r5 =>
 (bif (decide (r5.1≥0)) then
 ((spec_l3Without.f k r4.1 r5.1).bind fun r6 =>
 ((spec_l3Insert.f k r6.1 (a2,(List.getD a0.1 (Int.toNat r3.1) (Ty.dflt TPair)).2)).bind fun r7 =>
 (some ((r7.1,r1.1.2),(0,())))))
 else
 ((spec_l3Insert.f k r4.1 (a2,(List.getD a0.1 (Int.toNat r3.1) (Ty.dflt TPair)).2)).bind fun r8 =>
 (some ((r8.1,r1.1.2),(0,())))))))))))))))
def f (k:Nat):=t k
end spec_Rename
namespace spec_PutLive
abbrev Rs:Type:=Option ((Ty.den TDisk) × Int × Unit)
def t (k:Nat) (a0:Ty.den TDisk) (a1:Ty.den TLive):Rs :=
 ((spec_DiskOk.f k a0).bind fun r1 =>
 (bif (!r1.1) then
 ((spec_l3Copy.f k a0).bind fun r2 =>
 (some (r2.1,(4,()))))
 else
 ((spec_LiveOk.f k a1).bind fun r3 =>
 (bif (!r3.1) then
 ((spec_l3Copy.f k a0).bind fun r4 =>
 (some (r4.1,(4,()))))
 else
 ((spec_ShowLive.f k a1).bind fun r5 =>
 ((spec_l11File.f k a0 (⟨#[116,101,109,112]⟩:ByteArray) r5.1).bind fun r6 =>
 (bif (r6.2.1==0) then
 ((spec_Rename.f k r6.1 (⟨#[116,101,109,112]⟩:ByteArray) (⟨#[108,105,118,101]⟩:ByteArray)).bind fun r7 =>
 ((spec_l11Code.f k r7.2.1).bind fun r8 =>
 (some (r7.1,r8))))
 else
 ((spec_l11Code.f k r6.2.1).bind fun r9 =>
 (some (r6.1,r9))))))))))
def f (k:Nat):=t k
end spec_PutLive
namespace spec_ReadVar
abbrev Rs:Type:=Option (Int × Int × Unit)
abbrev T1:Type:=ByteArray→Int→Int→Int→Rs
abbrev T0:Type:=ByteArray→Int→Rs
def b1 (k:Nat) (L0:T0) (L1:T1):T1:=fun x0 x1 x2 x3 =>
 (bif (decide (x3≥0)) then
 (inb x3 (ByteArray.size x0:Int)
 (L1 x0 x1 (w64 ((w64 (x2*128))+(Int.tmod (w64 (byteAt x0 x3)) 128))) (w64 (x3-1))))
 else
 ((spec_Var.f k x2).bind fun r1 =>
 (inc x1 (ByteArray.size x0:Int)
 (bif (seq r1.1 (ByteArray.extract x0 0 (Int.toNat x1))) then
 (some (x2,(x1,())))
 else
 (L0 x0 (w64 (x1+1)))))))
def l1 (k:Nat) (L0:T0):Nat→T1
 | 0=>fun _ _ _ _=>none
 | n+1=>b1 k L0 (l1 k L0 n)
def b0 (k:Nat) (L1:T1) (L0:T0):T0:=fun x0 x1 =>
 (bif (decide (x1≤7)) then
 (bif (decide (x1≤(ByteArray.size x0:Int))) then
 (L1 x0 x1 0 (w64 (x1-1)))
 else
 (some (0,(0,()))))
 else
 (some (0,(0,()))))
def l0 (k:Nat):Nat→T0
 | 0=>fun _ _=>none
 | n+1=>b0 k (l1 k (l0 k n) k) (l0 k n)
def t (k:Nat) (L0:T0) (a0:ByteArray):Rs :=
 (L0 a0 1)
def f (k:Nat):=t k (l0 k k)
end spec_ReadVar
namespace spec_Unframe
abbrev Rs:Type:=Option (ByteArray × Int × Unit)
def t (k:Nat) (a0:ByteArray):Rs :=
 (bif (decide ((ByteArray.size a0:Int)<5)) then
 (some ((⟨#[]⟩:ByteArray),(0,())))
 else
 (inc 4 (ByteArray.size a0:Int)
 ((spec_ReadVar.f k (ByteArray.extract a0 4 (ByteArray.size a0))).bind fun r1 =>
 (bif (r1.2.1==0) then
 (some ((⟨#[]⟩:ByteArray),(0,())))
 else
 (bif (decide (r1.1 > 200)) then
 (some ((⟨#[]⟩:ByteArray),(0,())))
 else
 (bif (decide (r1.1 > (w64 ((w64 ((ByteArray.size a0:Int)-4))-r1.2.1)))) then
 (some ((⟨#[]⟩:ByteArray),(0,())))
 else
 (inc2 (w64 (4+r1.2.1)) (w64 ((w64 (4+r1.2.1))+r1.1)) (ByteArray.size a0:Int)
 (inc (w64 ((w64 (4+r1.2.1))+r1.1)) (ByteArray.size a0:Int)
 ((spec_Frame.f k (ByteArray.extract a0 (Int.toNat (w64 (4+r1.2.1))) (Int.toNat (w64 ((w64 (4+r1.2.1))+r1.1))))).bind fun r2 =>
 (bif (!(seq (ByteArray.extract a0 0 (Int.toNat (w64 ((w64 (4+r1.2.1))+r1.1)))) r2.1)) then
 (some ((⟨#[]⟩:ByteArray),(0,())))
 else
 (some ((ByteArray.extract a0 (Int.toNat (w64 (4+r1.2.1))) (Int.toNat (w64 ((w64 (4+r1.2.1))+r1.1)))),((w64 ((w64 (4+r1.2.1))+r1.1)),())))))))))))))
def f (k:Nat):=t k
end spec_Unframe
namespace spec_ReadLive
abbrev Rs:Type:=Option ((Ty.den TLive) × Bool × Unit)
abbrev T0:Type:=ByteArray→ByteArray→Int→Int→Int→List Int→Int→List Int→Int→Rs
def b0 (k:Nat) (L0:T0):T0:=fun x0 x1 x2 x3 x4 x5 x6 x7 x8 =>
 (bif (decide (x4<x2)) then
 (bif (decide (x4<60)) then
 (inc x3 (ByteArray.size x1:Int)
 ((spec_ReadVar.f k (ByteArray.extract x1 (Int.toNat x3) (ByteArray.size x1))).bind fun r4 =>
 (rm (Ty.bytes (.int .i64)) (List.length x7+1)
 (L0 x0 x1 x2 (w64 (x3+r4.2.1)) (w64 (x4+1)) x5 x6 (x7++[r4.1]) x8))))
 else
 ((spec_ShowLive.f k (x8,(x7,()))).bind fun r5 =>
 (bif (!(seq r5.1 x0)) then
 (some ((0,([],())),(false,())))
 else
 (some ((x8,(x7,())),(true,()))))))
 else
 ((spec_ShowLive.f k (x8,(x7,()))).bind fun r6 =>
 (bif (!(seq r6.1 x0)) then
 (some ((0,([],())),(false,())))
 else
 (some ((x8,(x7,())),(true,()))))))
def l0 (k:Nat):Nat→T0
 | 0=>fun _ _ _ _ _ _ _ _ _=>none
 | n+1=>b0 k (l0 k n)
def t (k:Nat) (L0:T0) (a0:ByteArray):Rs :=
 ((spec_Unframe.f k a0).bind fun r1 =>
 ((spec_ReadVar.f k r1.1).bind fun r2 =>
 (bif (r1.2.1 != (ByteArray.size a0:Int)) then
 (some ((0,([],())),(false,())))
 else
 (bif (r1.2.1==0) then
 (some ((0,([],())),(false,())))
 else
 (bif (r2.2.1==0) then
 (some ((0,([],())),(false,())))
 else
 (inc r2.2.1 (ByteArray.size r1.1:Int)
 ((spec_ReadVar.f k (ByteArray.extract r1.1 (Int.toNat r2.2.1) (ByteArray.size r1.1))).bind fun r3 =>
 (L0 a0 r1.1 r3.1 (w64 (r2.2.1+r3.2.1)) 0 [] 0 [] r2.1))))))))
def f (k:Nat):=t k (l0 k k)
end spec_ReadLive
namespace spec_l5Text
abbrev Rs:Type:=Option (ByteArray × ByteArray × Bool × Unit)
def t (k:Nat) (a0:ByteArray):Rs :=
 ((spec_ReadVar.f k a0).bind fun r1 =>
 (bif (r1.2.1==0) then
 (some ((⟨#[]⟩:ByteArray),((⟨#[]⟩:ByteArray),(false,()))))
 else
 (bif (decide (r1.1 > (w64 ((ByteArray.size a0:Int)-r1.2.1)))) then
 (some ((⟨#[]⟩:ByteArray),((⟨#[]⟩:ByteArray),(false,()))))
 else
 (inc2 r1.2.1 (w64 (r1.2.1+r1.1)) (ByteArray.size a0:Int)
 (inc (w64 (r1.2.1+r1.1)) (ByteArray.size a0:Int)
 (some ((ByteArray.extract a0 (Int.toNat r1.2.1) (Int.toNat (w64 (r1.2.1+r1.1)))),((ByteArray.extract a0 (Int.toNat (w64 (r1.2.1+r1.1))) (ByteArray.size a0)),(true,())))))))))
def f (k:Nat):=t k
end spec_l5Text
namespace spec_KeyOk
abbrev Rs:Type:=Option (Bool × Unit)
def t (k:Nat) (a0:ByteArray):Rs :=
 ((spec_l1In.f k (ByteArray.size a0:Int) 1 8).bind fun r1 =>
 (some r1))
def f (k:Nat):=t k
end spec_KeyOk
namespace spec_RecOk
abbrev Rs:Type:=Option (Bool × Unit)
def t (k:Nat) (a0:Ty.den TRec):Rs :=
 ((spec_l1In.f k a0.2.1 0 1000000).bind fun r1 =>
 (bif (!r1.1) then
 (some (false,()))
 else
 (bif (a0.2.1==0) then
 (bif (a0.1 != 5) then
 (some (false,()))
 else
 (bif (a0.1==1) then
 (bif (a0.1==1) then
 ((spec_KeyOk.f k a0.2.2.1).bind fun r2 =>
 (bif r2.1 then
 (bif (decide ((ByteArray.size a0.2.2.2.1:Int)≤24)) then
 (bif (a0.2.2.2.2.1==0) then
 (some ((a0.2.2.2.2.2.1==0),()))
 else
 (some (false,())))
 else
 (some (false,())))
 else
 (some (false,()))))
 else
 (bif (a0.1==2) then
 ((spec_KeyOk.f k a0.2.2.1).bind fun r3 =>
 (bif r3.1 then
 (bif (seq a0.2.2.2.1 (⟨#[]⟩:ByteArray)) then
 (bif (a0.2.2.2.2.1==0) then
 (some ((a0.2.2.2.2.2.1==0),()))
 else
 (some (false,())))
 else
 (some (false,())))
 else
 (some (false,()))))
 else
 (bif (a0.1==3) then
 (bif (seq a0.2.2.1 (⟨#[]⟩:ByteArray)) then
 (bif (seq a0.2.2.2.1 (⟨#[]⟩:ByteArray)) then
 ((spec_l1In.f k a0.2.2.2.2.1 0 8).bind fun r4 =>
 (bif r4.1 then
 ((spec_l1In.f k a0.2.2.2.2.2.1 0 4294967295).bind fun r5 =>
 (some r5))
 else
 (some (false,()))))
 else
 (some (false,())))
 else
 (some (false,())))
 else
 (bif (a0.1==5) then
 (bif (seq a0.2.2.1 (⟨#[]⟩:ByteArray)) then
 (bif (seq a0.2.2.2.1 (⟨#[]⟩:ByteArray)) then
 ((spec_l1In.f k a0.2.2.2.2.1 0 20).bind fun r6 =>
 (bif r6.1 then
 ((spec_l1In.f k a0.2.2.2.2.2.1 0 4294967295).bind fun r7 =>
 (some r7))
 else
 (some (false,()))))
 else
 (some (false,())))
 else
 (some (false,())))
 else
 (some (false,()))))))
 else
 (bif (a0.1==4) then
 ((spec_KeyOk.f k a0.2.2.1).bind fun r8 =>
 (bif r8.1 then
 (bif (decide ((ByteArray.size a0.2.2.2.1:Int)≤24)) then
 (bif (a0.2.2.2.2.1==0) then
 (some ((a0.2.2.2.2.2.1==0),()))
 else
 (some (false,())))
 else
 (some (false,())))
 else
 (some (false,()))))
 else
 (bif (a0.1==2) then
 ((spec_KeyOk.f k a0.2.2.1).bind fun r9 =>
 (bif r9.1 then
 (bif (seq a0.2.2.2.1 (⟨#[]⟩:ByteArray)) then
 (bif (a0.2.2.2.2.1==0) then
 (some ((a0.2.2.2.2.2.1==0),()))
 else
 (some (false,())))
 else
 (some (false,())))
 else
 (some (false,()))))
 else
 (bif (a0.1==3) then
 (bif (seq a0.2.2.1 (⟨#[]⟩:ByteArray)) then
 (bif (seq a0.2.2.2.1 (⟨#[]⟩:ByteArray)) then
 ((spec_l1In.f k a0.2.2.2.2.1 0 8).bind fun r10 =>
 (bif r10.1 then
 ((spec_l1In.f k a0.2.2.2.2.2.1 0 4294967295).bind fun r11 =>
 (some r11))
 else
 (some (false,()))))
 else
 (some (false,())))
 else
 (some (false,())))
 else
 (bif (a0.1==5) then
 (bif (seq a0.2.2.1 (⟨#[]⟩:ByteArray)) then
 (bif (seq a0.2.2.2.1 (⟨#[]⟩:ByteArray)) then
 ((spec_l1In.f k a0.2.2.2.2.1 0 20).bind fun r12 =>
 (bif r12.1 then
 ((spec_l1In.f k a0.2.2.2.2.2.1 0 4294967295).bind fun r13 =>
 (some r13))
 else
 (some (false,()))))
 else
 (some (false,())))
 else
 (some (false,())))
 else
 (some (false,()))))))))
 else
 (bif (a0.1==1) then
 (bif (a0.1==1) then
 ((spec_KeyOk.f k a0.2.2.1).bind fun r14 =>
 (bif r14.1 then
 (bif (decide ((ByteArray.size a0.2.2.2.1:Int)≤24)) then
 (bif (a0.2.2.2.2.1==0) then
 (some ((a0.2.2.2.2.2.1==0),()))
 else
 (some (false,())))
 else
 (some (false,())))
 else
 (some (false,()))))
 else
 (bif (a0.1==2) then
 ((spec_KeyOk.f k a0.2.2.1).bind fun r15 =>
 (bif r15.1 then
 (bif (seq a0.2.2.2.1 (⟨#[]⟩:ByteArray)) then
 (bif (a0.2.2.2.2.1==0) then
 (some ((a0.2.2.2.2.2.1==0),()))
 else
 (some (false,())))
 else
 (some (false,())))
 else
 (some (false,()))))
 else
 (bif (a0.1==3) then
 (bif (seq a0.2.2.1 (⟨#[]⟩:ByteArray)) then
 (bif (seq a0.2.2.2.1 (⟨#[]⟩:ByteArray)) then
 ((spec_l1In.f k a0.2.2.2.2.1 0 8).bind fun r16 =>
 (bif r16.1 then
 ((spec_l1In.f k a0.2.2.2.2.2.1 0 4294967295).bind fun r17 =>
 (some r17))
 else
 (some (false,()))))
 else
 (some (false,())))
 else
 (some (false,())))
 else
 (bif (a0.1==5) then
 (bif (seq a0.2.2.1 (⟨#[]⟩:ByteArray)) then
 (bif (seq a0.2.2.2.1 (⟨#[]⟩:ByteArray)) then
 ((spec_l1In.f k a0.2.2.2.2.1 0 20).bind fun r18 =>
 (bif r18.1 then
 ((spec_l1In.f k a0.2.2.2.2.2.1 0 4294967295).bind fun r19 =>
 (some r19))
 else
 (some (false,()))))
 else
 (some (false,())))
 else
 (some (false,())))
 else
 (some (false,()))))))
 else
 (bif (a0.1==4) then
 ((spec_KeyOk.f k a0.2.2.1).bind fun r20 =>
 (bif r20.1 then
 (bif (decide ((ByteArray.size a0.2.2.2.1:Int)≤24)) then
 (bif (a0.2.2.2.2.1==0) then
 (some ((a0.2.2.2.2.2.1==0),()))
 else
 (some (false,())))
 else
 (some (false,())))
 else
 (some (false,()))))
 else
 (bif (a0.1==2) then
 ((spec_KeyOk.f k a0.2.2.1).bind fun r21 =>
 (bif r21.1 then
 (bif (seq a0.2.2.2.1 (⟨#[]⟩:ByteArray)) then
 (bif (a0.2.2.2.2.1==0) then
 (some ((a0.2.2.2.2.2.1==0),()))
 else
 (some (false,())))
 else
 (some (false,())))
 else
 (some (false,()))))
 else
 (bif (a0.1==3) then
 (bif (seq a0.2.2.1 (⟨#[]⟩:ByteArray)) then
 (bif (seq a0.2.2.2.1 (⟨#[]⟩:ByteArray)) then
 ((spec_l1In.f k a0.2.2.2.2.1 0 8).bind fun r22 =>
 (bif r22.1 then
 ((spec_l1In.f k a0.2.2.2.2.2.1 0 4294967295).bind fun r23 =>
 (some r23))
 else
 (some (false,()))))
 else
 (some (false,())))
 else
 (some (false,())))
 else
 (bif (a0.1==5) then
 (bif (seq a0.2.2.1 (⟨#[]⟩:ByteArray)) then
 (bif (seq a0.2.2.2.1 (⟨#[]⟩:ByteArray)) then
 ((spec_l1In.f k a0.2.2.2.2.1 0 20).bind fun r24 =>
 (bif r24.1 then
 ((spec_l1In.f k a0.2.2.2.2.2.1 0 4294967295).bind fun r25 =>
 (some r25))
 else
 (some (false,()))))
 else
 (some (false,())))
 else
 (some (false,())))
 else
 (some (false,()))))))))))
def f (k:Nat):=t k
end spec_RecOk
namespace spec_ShowRec
abbrev Rs:Type:=Option (ByteArray × Unit)
def t (k:Nat) (a0:Ty.den TRec):Rs :=
 ((spec_RecOk.f k a0).bind fun r1 =>
 (bif (!r1.1) then
 (some ((⟨#[]⟩:ByteArray),()))
 else
 ((spec_Var.f k a0.1).bind fun r2 =>
 ((spec_Var.f k a0.2.1).bind fun r3 =>
 (cat r2.1 r3.1
 (bif (a0.1==1) then
 (bif (a0.1==1) then
 ((spec_Var.f k (ByteArray.size a0.2.2.1:Int)).bind fun r4 =>
 (cat (r2.1++r3.1) r4.1
 (cat ((r2.1++r3.1)++r4.1) a0.2.2.1
 ((spec_Var.f k (ByteArray.size a0.2.2.2.1:Int)).bind fun r5 =>
 (cat (((r2.1++r3.1)++r4.1)++a0.2.2.1) r5.1
 (cat ((((r2.1++r3.1)++r4.1)++a0.2.2.1)++r5.1) a0.2.2.2.1
 (some ((((((r2.1++r3.1)++r4.1)++a0.2.2.1)++r5.1)++a0.2.2.2.1),()))))))))
 else
 (bif (a0.1==2) then
 ((spec_Var.f k (ByteArray.size a0.2.2.1:Int)).bind fun r6 =>
 (cat (r2.1++r3.1) r6.1
 (cat ((r2.1++r3.1)++r6.1) a0.2.2.1
 (some ((((r2.1++r3.1)++r6.1)++a0.2.2.1),())))))
 else
 ((spec_Var.f k a0.2.2.2.2.1).bind fun r7 =>
 (cat (r2.1++r3.1) r7.1
 ((spec_Fixed.f k a0.2.2.2.2.2.1 4).bind fun r8 =>
 (cat ((r2.1++r3.1)++r7.1) r8.1
 (some ((((r2.1++r3.1)++r7.1)++r8.1),()))))))))
 else
 (bif (a0.1==4) then
 ((spec_Var.f k (ByteArray.size a0.2.2.1:Int)).bind fun r9 =>
 (cat (r2.1++r3.1) r9.1
 (cat ((r2.1++r3.1)++r9.1) a0.2.2.1
 ((spec_Var.f k (ByteArray.size a0.2.2.2.1:Int)).bind fun r10 =>
 (cat (((r2.1++r3.1)++r9.1)++a0.2.2.1) r10.1
 (cat ((((r2.1++r3.1)++r9.1)++a0.2.2.1)++r10.1) a0.2.2.2.1
 (some ((((((r2.1++r3.1)++r9.1)++a0.2.2.1)++r10.1)++a0.2.2.2.1),()))))))))
 else
 (bif (a0.1==2) then
 ((spec_Var.f k (ByteArray.size a0.2.2.1:Int)).bind fun r11 =>
 (cat (r2.1++r3.1) r11.1
 (cat ((r2.1++r3.1)++r11.1) a0.2.2.1
 (some ((((r2.1++r3.1)++r11.1)++a0.2.2.1),())))))
 else
 ((spec_Var.f k a0.2.2.2.2.1).bind fun r12 =>
 (cat (r2.1++r3.1) r12.1
 ((spec_Fixed.f k a0.2.2.2.2.2.1 4).bind fun r13 =>
 (cat ((r2.1++r3.1)++r12.1) r13.1
 (some ((((r2.1++r3.1)++r12.1)++r13.1),()))))))))))))))
def f (k:Nat):=t k
end spec_ShowRec
namespace spec_ReadFixed
abbrev Rs:Type:=Option (Int × Bool × Unit)
abbrev T0:Type:=ByteArray→Int→Int→Int→Rs
def b0 (k:Nat) (L0:T0):T0:=fun x0 x1 x2 x3 =>
 (bif (decide (x3<x1)) then
 (inb x3 (ByteArray.size x0:Int)
 (L0 x0 x1 (w64 ((w64 (x2*256))+(w64 (byteAt x0 x3)))) (w64 (x3+1))))
 else
 (some (x2,(true,()))))
def l0 (k:Nat):Nat→T0
 | 0=>fun _ _ _ _=>none
 | n+1=>b0 k (l0 k n)
def t (k:Nat) (L0:T0) (a0:ByteArray) (a1:Int):Rs :=
 ((spec_l1In.f k a1 1 7).bind fun r1 =>
 (bif (!r1.1) then
 (some (0,(false,())))
 else
 (bif (decide ((ByteArray.size a0:Int)<a1)) then
 (some (0,(false,())))
 else
 (L0 a0 a1 0 0))))
def f (k:Nat):=t k (l0 k k)
end spec_ReadFixed
namespace spec_ReadRec
abbrev Rs:Type:=Option ((Ty.den TRec) × Bool × Unit)
def t (k:Nat) (a0:ByteArray):Rs :=
 ((spec_ReadVar.f k a0).bind fun r1 =>
 (inc r1.2.1 (ByteArray.size a0:Int)
 ((spec_ReadVar.f k (ByteArray.extract a0 (Int.toNat r1.2.1) (ByteArray.size a0))).bind fun r2 =>
 (bif (r1.2.1==0) then
 (some ((0,(0,(ByteArray.empty,(ByteArray.empty,(0,(0,())))))),(false,())))
 else
 (bif (r2.2.1==0) then
 (some ((0,(0,(ByteArray.empty,(ByteArray.empty,(0,(0,())))))),(false,())))
 else
 (inc (w64 (r1.2.1+r2.2.1)) (ByteArray.size a0:Int)
 (bif (r1.1==1) then
 (bif (r1.1==1) then
 ((spec_l5Text.f k (ByteArray.extract a0 (Int.toNat (w64 (r1.2.1+r2.2.1))) (ByteArray.size a0))).bind fun r3 =>
 ((spec_l5Text.f k r3.2.1).bind fun r4 =>
 ((spec_ShowRec.f k (r1.1,(r2.1,(r3.1,(r4.1,(0,(0,()))))))).bind fun r5 =>
 (bif (!(seq r5.1 a0)) then
 (some ((0,(0,(ByteArray.empty,(ByteArray.empty,(0,(0,())))))),(false,())))
 else
 (bif (seq a0 (⟨#[]⟩:ByteArray)) then
 (some ((0,(0,(ByteArray.empty,(ByteArray.empty,(0,(0,())))))),(false,())))
 else
 (some ((r1.1,(r2.1,(r3.1,(r4.1,(0,(0,())))))),(true,()))))))))
 else
 (bif (r1.1==2) then
 ((spec_l5Text.f k (ByteArray.extract a0 (Int.toNat (w64 (r1.2.1+r2.2.1))) (ByteArray.size a0))).bind fun r6 =>
 ((spec_ShowRec.f k (r1.1,(r2.1,(r6.1,(ByteArray.empty,(0,(0,()))))))).bind fun r7 =>
 (bif (!(seq r7.1 a0)) then
 (some ((0,(0,(ByteArray.empty,(ByteArray.empty,(0,(0,())))))),(false,())))
 else
 (bif (seq a0 (⟨#[]⟩:ByteArray)) then
 (some ((0,(0,(ByteArray.empty,(ByteArray.empty,(0,(0,())))))),(false,())))
 else
 (some ((r1.1,(r2.1,(r6.1,(ByteArray.empty,(0,(0,())))))),(true,())))))))
 else
 ((spec_ReadVar.f k (ByteArray.extract a0 (Int.toNat (w64 (r1.2.1+r2.2.1))) (ByteArray.size a0))).bind fun r8 =>
 (inc r8.2.1 (ByteArray.size (ByteArray.extract a0 (Int.toNat (w64 (r1.2.1+r2.2.1))) (ByteArray.size a0)):Int)
 ((spec_ReadFixed.f k (ByteArray.extract (ByteArray.extract a0 (Int.toNat (w64 (r1.2.1+r2.2.1))) (ByteArray.size a0)) (Int.toNat r8.2.1) (ByteArray.size (ByteArray.extract a0 (Int.toNat (w64 (r1.2.1+r2.2.1))) (ByteArray.size a0)))) 4).bind fun r9 =>
 ((spec_ShowRec.f k (r1.1,(r2.1,(ByteArray.empty,(ByteArray.empty,(r8.1,(r9.1,()))))))).bind fun r10 =>
 (bif (!(seq r10.1 a0)) then
 (some ((0,(0,(ByteArray.empty,(ByteArray.empty,(0,(0,())))))),(false,())))
 else
 (bif (seq a0 (⟨#[]⟩:ByteArray)) then
 (some ((0,(0,(ByteArray.empty,(ByteArray.empty,(0,(0,())))))),(false,())))
 else
 (some ((r1.1,(r2.1,(ByteArray.empty,(ByteArray.empty,(r8.1,(r9.1,())))))),(true,())))))))))))
 else
 (bif (r1.1==4) then
 ((spec_l5Text.f k (ByteArray.extract a0 (Int.toNat (w64 (r1.2.1+r2.2.1))) (ByteArray.size a0))).bind fun r11 =>
 ((spec_l5Text.f k r11.2.1).bind fun r12 =>
 ((spec_ShowRec.f k (r1.1,(r2.1,(r11.1,(r12.1,(0,(0,()))))))).bind fun r13 =>
 (bif (!(seq r13.1 a0)) then
 (some ((0,(0,(ByteArray.empty,(ByteArray.empty,(0,(0,())))))),(false,())))
 else
 (bif (seq a0 (⟨#[]⟩:ByteArray)) then
 (some ((0,(0,(ByteArray.empty,(ByteArray.empty,(0,(0,())))))),(false,())))
 else
 (some ((r1.1,(r2.1,(r11.1,(r12.1,(0,(0,())))))),(true,()))))))))
 else
 (bif (r1.1==2) then
 ((spec_l5Text.f k (ByteArray.extract a0 (Int.toNat (w64 (r1.2.1+r2.2.1))) (ByteArray.size a0))).bind fun r14 =>
 ((spec_ShowRec.f k (r1.1,(r2.1,(r14.1,(ByteArray.empty,(0,(0,()))))))).bind fun r15 =>
 (bif (!(seq r15.1 a0)) then
 (some ((0,(0,(ByteArray.empty,(ByteArray.empty,(0,(0,())))))),(false,())))
 else
 (bif (seq a0 (⟨#[]⟩:ByteArray)) then
 (some ((0,(0,(ByteArray.empty,(ByteArray.empty,(0,(0,())))))),(false,())))
 else
 (some ((r1.1,(r2.1,(r14.1,(ByteArray.empty,(0,(0,())))))),(true,())))))))
 else
 ((spec_ReadVar.f k (ByteArray.extract a0 (Int.toNat (w64 (r1.2.1+r2.2.1))) (ByteArray.size a0))).bind fun r16 =>
 (inc r16.2.1 (ByteArray.size (ByteArray.extract a0 (Int.toNat (w64 (r1.2.1+r2.2.1))) (ByteArray.size a0)):Int)
 ((spec_ReadFixed.f k (ByteArray.extract (ByteArray.extract a0 (Int.toNat (w64 (r1.2.1+r2.2.1))) (ByteArray.size a0)) (Int.toNat r16.2.1) (ByteArray.size (ByteArray.extract a0 (Int.toNat (w64 (r1.2.1+r2.2.1))) (ByteArray.size a0)))) 4).bind fun r17 =>
 ((spec_ShowRec.f k (r1.1,(r2.1,(ByteArray.empty,(ByteArray.empty,(r16.1,(r17.1,()))))))).bind fun r18 =>
 (bif (!(seq r18.1 a0)) then
 (some ((0,(0,(ByteArray.empty,(ByteArray.empty,(0,(0,())))))),(false,())))
 else
 (bif (seq a0 (⟨#[]⟩:ByteArray)) then
 (some ((0,(0,(ByteArray.empty,(ByteArray.empty,(0,(0,())))))),(false,())))
 else
 (some ((r1.1,(r2.1,(ByteArray.empty,(ByteArray.empty,(r16.1,(r17.1,())))))),(true,()))))))))))))))))))
def f (k:Nat):=t k
end spec_ReadRec
namespace spec_ScanRecs
abbrev Rs:Type:=Option ((List (Ty.den TSpot)) × Int × Unit)
abbrev T0:Type:=ByteArray→Int→List (Ty.den TSpot)→Rs
def b0 (k:Nat) (L0:T0):T0:=fun x0 x1 x2 =>
 (bif (decide (x1<(ByteArray.size x0:Int))) then
 (inc x1 (ByteArray.size x0:Int)
 ((spec_Unframe.f k (ByteArray.extract x0 (Int.toNat x1) (ByteArray.size x0))).bind fun r1 =>
 ((spec_ReadRec.f k r1.1).bind fun r2 =>
 (bif (r1.2.1==0) then
 (some (x2,(x1,())))
 else
 (bif (!r2.2.1) then
 (some (x2,(x1,())))
 else
 (rm (Ty.bytes TSpot) (List.length x2+1)
 (L0 x0 (w64 (x1+r1.2.1)) (x2++[(x1,(r1.2.1,(r2.1,())))]))))))))
 else
 (some (x2,(x1,()))))
def l0 (k:Nat):Nat→T0
 | 0=>fun _ _ _=>none
 | n+1=>b0 k (l0 k n)
def t (k:Nat) (L0:T0) (a0:ByteArray):Rs :=
 (L0 a0 0 [])
def f (k:Nat):=t k (l0 k k)
end spec_ScanRecs
namespace spec_Truncate
abbrev Rs:Type:=Option ((Ty.den TDisk) × Int × Unit)
def t (k:Nat) (a0:Ty.den TDisk) (a1:ByteArray) (a2:Int):Rs :=
 ((spec_l3Begin.f k a0).bind fun r1 =>
 (bif (r1.2.1 != 0) then
 (some r1)
 else
 ((spec_l3Find.f k a0 a1).bind fun r2 =>
 (bif (decide (r2.1<0)) then
 (some (r1.1,(3,())))
 else
 (inb r2.1 (List.length a0.1:Int)
 ((spec_l1In.f k a2 0 (ByteArray.size (List.getD a0.1 (Int.toNat r2.1) (Ty.dflt TPair)).2.1:Int)).bind fun r3 =>
 (bif (!r3.1) then
 (some (r1.1,(5,())))
 else
 (inb r2.1 (List.length a0.1:Int)
 (inc a2 (ByteArray.size (List.getD a0.1 (Int.toNat r2.1) (Ty.dflt TPair)).2.1:Int)
 (inb r2.1 (List.length r1.1.1:Int)
 (let l4:=(List.set r1.1.1 (Int.toNat r2.1) ((List.getD r1.1.1 (Int.toNat r2.1) (Ty.dflt TPair)).1,((ByteArray.extract (List.getD a0.1 (Int.toNat r2.1) (Ty.dflt TPair)).2.1 0 (Int.toNat a2)),(List.getD r1.1.1 (Int.toNat r2.1) (Ty.dflt TPair)).2.2)));
 (inb r2.1 (List.length a0.1:Int)
 (inb r2.1 (List.length l4:Int)
 (let l5:=(List.set l4 (Int.toNat r2.1) ((List.getD l4 (Int.toNat r2.1) (Ty.dflt TPair)).1,((List.getD l4 (Int.toNat r2.1) (Ty.dflt TPair)).2.1,((if a2<(List.getD a0.1 (Int.toNat r2.1) (Ty.dflt TPair)).2.2.1 then a2 else (List.getD a0.1 (Int.toNat r2.1) (Ty.dflt TPair)).2.2.1),(List.getD l4 (Int.toNat r2.1) (Ty.dflt TPair)).2.2.2))));
 (some ((l5,r1.1.2),(0,())))))))))))))))))
def f (k:Nat):=t k
end spec_Truncate
namespace spec_l10Vars
abbrev Rs:Type:=Option ((List Int) × Int × Unit)
abbrev T0:Type:=ByteArray→Int→Int→Int→List Int→Rs
def b0 (k:Nat) (L0:T0):T0:=fun x0 x1 x2 x3 x4 =>
 (bif (decide (x3<x2)) then
 (inc x1 (ByteArray.size x0:Int)
 ((spec_ReadVar.f k (ByteArray.extract x0 (Int.toNat x1) (ByteArray.size x0))).bind fun r1 =>
 (bif (r1.2.1==0) then
 (mks (Ty.bytes (.int .i64)) x2
 (some ((List.replicate (Int.toNat x2) (Ty.dflt (.int .i64))),((-1),()))))
 else
 (rm (Ty.bytes (.int .i64)) (List.length x4+1)
 (L0 x0 (w64 (x1+r1.2.1)) x2 (w64 (x3+1)) (x4++[r1.1]))))))
 else
 (some (x4,(x1,()))))
def l0 (k:Nat):Nat→T0
 | 0=>fun _ _ _ _ _=>none
 | n+1=>b0 k (l0 k n)
def t (k:Nat) (L0:T0) (a0:ByteArray) (a1:Int) (a2:Int):Rs :=
 (L0 a0 a1 a2 0 [])
def f (k:Nat):=t k (l0 k k)
end spec_l10Vars
namespace spec_DirOk
abbrev Rs:Type:=Option (Bool × Unit)
abbrev T0:Type:=List (Ty.den TEntry)→Int→Rs
def b0 (k:Nat) (L0:T0):T0:=fun x0 x1 =>
 (bif (decide (x1<(x0.length:Int))) then
 (inb x1 (x0.length:Int)
 ((spec_KeyOk.f k (List.getD x0 (Int.toNat x1) (Ty.dflt TEntry)).1).bind fun r1 =>
 (bif (!r1.1) then
 (some (false,()))
 else
 ((spec_l1In.f k (List.getD x0 (Int.toNat x1) (Ty.dflt TEntry)).2.1 1 100000).bind fun r2 =>
 (bif (!r2.1) then
 (some (false,()))
 else
 (bif (decide ((List.getD x0 (Int.toNat x1) (Ty.dflt TEntry)).2.2.1<0)) then
 (some (false,()))
 else
 ((spec_l1In.f k (List.getD x0 (Int.toNat x1) (Ty.dflt TEntry)).2.2.2.1 1 210).bind fun r3 =>
 (bif (!r3.1) then
 (some (false,()))
 else
 ((spec_l1In.f k (List.getD x0 (Int.toNat x1) (Ty.dflt TEntry)).2.2.2.2.1 1 1000000).bind fun r4 =>
 (bif (!r4.1) then
 (some (false,()))
 else
 (bif (decide (x1 > 0)) then
 (inb (w64 (x1-1)) (x0.length:Int)
 (bif ((sls (List.getD x0 (Int.toNat x1) (Ty.dflt TEntry)).1 (List.getD x0 (Int.toNat (w64 (x1-1))) (Ty.dflt TEntry)).1)||(seq (List.getD x0 (Int.toNat x1) (Ty.dflt TEntry)).1 (List.getD x0 (Int.toNat (w64 (x1-1))) (Ty.dflt TEntry)).1)) then
 (some (false,()))
 else
 (L0 x0 (w64 (x1+1)))))
 else
 (L0 x0 (w64 (x1+1))))))))))))))
 else
 (some (true,())))
def l0 (k:Nat):Nat→T0
 | 0=>fun _ _=>none
 | n+1=>b0 k (l0 k n)
def t (k:Nat) (L0:T0) (a0:List (Ty.den TEntry)):Rs :=
 (bif (decide ((List.length a0:Int) > 20)) then
 (some (false,()))
 else
 (L0 a0 0))
def f (k:Nat):=t k (l0 k k)
end spec_DirOk
namespace spec_l10Ok
abbrev Rs:Type:=Option (Bool × Unit)
abbrev T0:Type:=Int→Int→Int→List (Ty.den TEntry)→Rs
def b0 (k:Nat) (L0:T0):T0:=fun x0 x1 x2 x3 =>
 (bif (decide (x0<(x3.length:Int))) then
 (inb x0 (x3.length:Int)
 (inb 0 (x3.length:Int)
 (bif ((List.getD x3 (Int.toNat x0) (Ty.dflt TEntry)).2.1 != (List.getD x3 0 (Ty.dflt TEntry)).2.1) then
 (some (false,()))
 else
 (inb x0 (x3.length:Int)
 (bif (decide ((List.getD x3 (Int.toNat x0) (Ty.dflt TEntry)).2.2.1 > 100000)) then
 (some (false,()))
 else
 (L0 (w64 (x0+1)) x1 x2 x3))))))
 else
 (some (true,())))
def l0 (k:Nat):Nat→T0
 | 0=>fun _ _ _ _=>none
 | n+1=>b0 k (l0 k n)
def t (k:Nat) (L0:T0) (a0:Ty.den THint):Rs :=
 ((spec_l1In.f k a0.1 0 100000).bind fun r1 =>
 (bif (!r1.1) then
 (some (false,()))
 else
 ((spec_l1In.f k a0.2.1 0 1000000).bind fun r2 =>
 (bif (!r2.1) then
 (some (false,()))
 else
 ((spec_DirOk.f k a0.2.2.1).bind fun r3 =>
 (bif (!r3.1) then
 (some (false,()))
 else
 (L0 0 a0.1 a0.2.1 a0.2.2.1)))))))
def f (k:Nat):=t k (l0 k k)
end spec_l10Ok
namespace spec_ShowHint
abbrev Rs:Type:=Option (ByteArray × Unit)
abbrev T0:Type:=ByteArray→Int→Int→Int→List (Ty.den TEntry)→Rs
def b0 (k:Nat) (L0:T0):T0:=fun x0 x1 x2 x3 x4 =>
 (bif (decide (x1<(x4.length:Int))) then
 (inb x1 (x4.length:Int)
 ((spec_Var.f k (ByteArray.size (List.getD x4 (Int.toNat x1) (Ty.dflt TEntry)).1:Int)).bind fun r5 =>
 (cat x0 r5.1
 (cat (x0++r5.1) (List.getD x4 (Int.toNat x1) (Ty.dflt TEntry)).1
 ((spec_Var.f k (List.getD x4 (Int.toNat x1) (Ty.dflt TEntry)).2.1).bind fun r6 =>
 (cat ((x0++r5.1)++(List.getD x4 (Int.toNat x1) (Ty.dflt TEntry)).1) r6.1
 ((spec_Var.f k (List.getD x4 (Int.toNat x1) (Ty.dflt TEntry)).2.2.1).bind fun r7 =>
 (cat (((x0++r5.1)++(List.getD x4 (Int.toNat x1) (Ty.dflt TEntry)).1)++r6.1) r7.1
 ((spec_Var.f k (List.getD x4 (Int.toNat x1) (Ty.dflt TEntry)).2.2.2.1).bind fun r8 =>
 (cat ((((x0++r5.1)++(List.getD x4 (Int.toNat x1) (Ty.dflt TEntry)).1)++r6.1)++r7.1) r8.1
 ((spec_Var.f k (List.getD x4 (Int.toNat x1) (Ty.dflt TEntry)).2.2.2.2.1).bind fun r9 =>
 (cat (((((x0++r5.1)++(List.getD x4 (Int.toNat x1) (Ty.dflt TEntry)).1)++r6.1)++r7.1)++r8.1) r9.1
 (L0 ((((((x0++r5.1)++(List.getD x4 (Int.toNat x1) (Ty.dflt TEntry)).1)++r6.1)++r7.1)++r8.1)++r9.1) (w64 (x1+1)) x2 x3 x4)))))))))))))
 else
 ((spec_Crc.f k x0).bind fun r10 =>
 ((spec_Fixed.f k r10.1 4).bind fun r11 =>
 (cat r11.1 x0
 (some ((r11.1++x0),()))))))
def l0 (k:Nat):Nat→T0
 | 0=>fun _ _ _ _ _=>none
 | n+1=>b0 k (l0 k n)
def t (k:Nat) (L0:T0) (a0:Ty.den THint):Rs :=
 ((spec_l10Ok.f k a0).bind fun r1 =>
 (bif (!r1.1) then
 (some ((⟨#[]⟩:ByteArray),()))
 else
 ((spec_Var.f k a0.1).bind fun r2 =>
 ((spec_Var.f k a0.2.1).bind fun r3 =>
 (cat r2.1 r3.1
 ((spec_Var.f k (List.length a0.2.2.1:Int)).bind fun r4 =>
 (cat (r2.1++r3.1) r4.1
 (L0 ((r2.1++r3.1)++r4.1) 0 a0.1 a0.2.1 a0.2.2.1))))))))
def f (k:Nat):=t k (l0 k k)
end spec_ShowHint
namespace spec_ReadHint
abbrev Rs:Type:=Option ((Ty.den THint) × Bool × Unit)
abbrev T0:Type:=ByteArray→Int→Int→List (Ty.den TEntry)→Int→Int→List Int→List (Ty.den TEntry)→Int→Int→Rs
def b0 (k:Nat) (L0:T0):T0:=fun x0 x1 x2 x3 x4 x5 x6 x7 x8 x9 =>
 (inb 2 (x6.length:Int)
 (bif (decide (x2<(List.getD x6 2 (Ty.dflt (.int .i64))))) then
 (inc x1 (ByteArray.size x0:Int)
 ((spec_l5Text.f k (ByteArray.extract x0 (Int.toNat x1) (ByteArray.size x0))).bind fun r2 =>
 ((spec_l10Vars.f k r2.2.1 0 4).bind fun r3 =>
 (bif (!r2.2.2.1) then
 (some ((0,(0,([],()))),(false,())))
 else
 (bif (decide (r3.2.1<0)) then
 (some ((0,(0,([],()))),(false,())))
 else
 (inb 0 (List.length r3.1:Int)
 (inb 1 (List.length r3.1:Int)
 (inb 2 (List.length r3.1:Int)
 (inb 3 (List.length r3.1:Int)
 (rm (Ty.bytes TEntry) (List.length x7+1)
 (L0 x0 (w64 ((w64 ((ByteArray.size x0:Int)-(ByteArray.size r2.2.1:Int)))+r3.2.1)) (w64 (x2+1)) x3 x4 x5 x6 (x7++[(r2.1,((List.getD r3.1 0 (Ty.dflt (.int .i64))),((List.getD r3.1 1 (Ty.dflt (.int .i64))),((List.getD r3.1 2 (Ty.dflt (.int .i64))),((List.getD r3.1 3 (Ty.dflt (.int .i64))),())))))]) x8 x9)))))))))))
 else
 ((spec_ShowHint.f k (x8,(x9,(x7,())))).bind fun r4 =>
 (bif (!(seq r4.1 x0)) then
 (some ((0,(0,([],()))),(false,())))
 else
 (some ((x8,(x9,(x7,()))),(true,())))))))
def l0 (k:Nat):Nat→T0
 | 0=>fun _ _ _ _ _ _ _ _ _ _=>none
 | n+1=>b0 k (l0 k n)
def t (k:Nat) (L0:T0) (a0:ByteArray):Rs :=
 (bif (decide ((ByteArray.size a0:Int)<4)) then
 (some ((0,(0,([],()))),(false,())))
 else
 ((spec_l10Vars.f k a0 4 3).bind fun r1 =>
 (bif (decide (r1.2.1<0)) then
 (some ((0,(0,([],()))),(false,())))
 else
 (inb 2 (List.length r1.1:Int)
 (bif (decide ((List.getD r1.1 2 (Ty.dflt (.int .i64))) > 20)) then
 (some ((0,(0,([],()))),(false,())))
 else
 (inb 0 (List.length r1.1:Int)
 (inb 1 (List.length r1.1:Int)
 (L0 a0 r1.2.1 0 [] 0 0 r1.1 [] (List.getD r1.1 0 (Ty.dflt (.int .i64))) (List.getD r1.1 1 (Ty.dflt (.int .i64)))))))))))
def f (k:Nat):=t k (l0 k k)
end spec_ReadHint
namespace spec_SumOf
abbrev Rs:Type:=Option (Int × Unit)
abbrev T0:Type:=List (Ty.den TRec)→ByteArray→Int→Rs
def b0 (k:Nat) (L0:T0):T0:=fun x0 x1 x2 =>
 (bif (decide (x2<(x0.length:Int))) then
 (inb x2 (x0.length:Int)
 ((spec_ShowRec.f k (List.getD x0 (Int.toNat x2) (Ty.dflt TRec))).bind fun r1 =>
 (cat x1 r1.1
 (L0 x0 (x1++r1.1) (w64 (x2+1))))))
 else
 ((spec_Crc.f k x1).bind fun r2 =>
 (some r2)))
def l0 (k:Nat):Nat→T0
 | 0=>fun _ _ _=>none
 | n+1=>b0 k (l0 k n)
def t (k:Nat) (L0:T0) (a0:List (Ty.den TRec)):Rs :=
 (L0 a0 (⟨#[]⟩:ByteArray) 0)
def f (k:Nat):=t k (l0 k k)
end spec_SumOf
namespace spec_HintOf
abbrev Rs:Type:=Option ((Ty.den THint) × Bool × Unit)
abbrev T0:Type:=Int→Int→List (Ty.den TEntry)→Int→Int→List (Ty.den TSpot)→List (Ty.den TEntry)→Int→Int→List (Ty.den TRec)→Rs
def b0 (k:Nat) (L0:T0):T0:=fun x0 x1 x2 x3 x4 x5 x6 x7 x8 x9 =>
 (bif (decide ((w64 (x1+1))<(x5.length:Int))) then
 (inb x1 (x5.length:Int)
 (bif ((List.getD x5 (Int.toNat x1) (Ty.dflt TSpot)).2.2.1.1 != 4) then
 (some ((0,(0,([],()))),(false,())))
 else
 (bif (decide ((List.getD x5 (Int.toNat x1) (Ty.dflt TSpot)).2.2.1.2.1 > x8)) then
 (some ((0,(0,([],()))),(false,())))
 else
 (bif (decide (x1 > 0)) then
 (inb (w64 (x1-1)) (x5.length:Int)
 (bif ((sls (List.getD x5 (Int.toNat x1) (Ty.dflt TSpot)).2.2.1.2.2.1 (List.getD x5 (Int.toNat (w64 (x1-1))) (Ty.dflt TSpot)).2.2.1.2.2.1)||(seq (List.getD x5 (Int.toNat x1) (Ty.dflt TSpot)).2.2.1.2.2.1 (List.getD x5 (Int.toNat (w64 (x1-1))) (Ty.dflt TSpot)).2.2.1.2.2.1)) then
 (some ((0,(0,([],()))),(false,())))
 else
 (rm (Ty.bytes TRec) (List.length x9+1)
 (inb x1 (x5.length:Int)
 (inb x1 (x5.length:Int)
 (rm (Ty.bytes TEntry) (List.length x6+1)
 (L0 x0 (w64 (x1+1)) x2 x3 x4 x5 (x6++[((List.getD x5 (Int.toNat x1) (Ty.dflt TSpot)).2.2.1.2.2.1,(x0,((List.getD x5 (Int.toNat x1) (Ty.dflt TSpot)).1,((List.getD x5 (Int.toNat x1) (Ty.dflt TSpot)).2.1,((List.getD x5 (Int.toNat x1) (Ty.dflt TSpot)).2.2.1.2.1,())))))]) x7 x8 (x9++[(List.getD x5 (Int.toNat x1) (Ty.dflt TSpot)).2.2.1]))))))))
 else
 (rm (Ty.bytes TRec) (List.length x9+1)
 (inb x1 (x5.length:Int)
 (inb x1 (x5.length:Int)
 (rm (Ty.bytes TEntry) (List.length x6+1)
 (L0 x0 (w64 (x1+1)) x2 x3 x4 x5 (x6++[((List.getD x5 (Int.toNat x1) (Ty.dflt TSpot)).2.2.1.2.2.1,(x0,((List.getD x5 (Int.toNat x1) (Ty.dflt TSpot)).1,((List.getD x5 (Int.toNat x1) (Ty.dflt TSpot)).2.1,((List.getD x5 (Int.toNat x1) (Ty.dflt TSpot)).2.2.1.2.1,())))))]) x7 x8 (x9++[(List.getD x5 (Int.toNat x1) (Ty.dflt TSpot)).2.2.1]))))))))))
 else
 (inb (w64 ((x5.length:Int)-1)) (x5.length:Int)
 (bif ((List.getD x5 (Int.toNat (w64 ((x5.length:Int)-1))) (Ty.dflt TSpot)).2.2.1.2.2.2.2.1 != (x9.length:Int)) then
 (some ((0,(0,([],()))),(false,())))
 else
 ((spec_SumOf.f k x9).bind fun r3 =>
 (bif ((List.getD x5 (Int.toNat (w64 ((x5.length:Int)-1))) (Ty.dflt TSpot)).2.2.1.2.2.2.2.2.1 != r3.1) then
 (some ((0,(0,([],()))),(false,())))
 else
 (some ((x7,(x8,(x6,()))),(true,()))))))))
def l0 (k:Nat):Nat→T0
 | 0=>fun _ _ _ _ _ _ _ _ _ _=>none
 | n+1=>b0 k (l0 k n)
def t (k:Nat) (L0:T0) (a0:Int) (a1:ByteArray):Rs :=
 ((spec_ScanRecs.f k a1).bind fun r1 =>
 (bif (r1.2.1 != (ByteArray.size a1:Int)) then
 (some ((0,(0,([],()))),(false,())))
 else
 (bif ((List.length r1.1:Int)==0) then
 (some ((0,(0,([],()))),(false,())))
 else
 (inb (w64 ((List.length r1.1:Int)-1)) (List.length r1.1:Int)
 (bif ((List.getD r1.1 (Int.toNat (w64 ((List.length r1.1:Int)-1))) (Ty.dflt TSpot)).2.2.1.1 != 5) then
 (some ((0,(0,([],()))),(false,())))
 else
 ((spec_SegName.f k a0).bind fun r2 =>
 (bif (seq r2.1 (⟨#[]⟩:ByteArray)) then
 (some ((0,(0,([],()))),(false,())))
 else
 (inb (w64 ((List.length r1.1:Int)-1)) (List.length r1.1:Int)
 (L0 a0 0 [] 0 0 r1.1 [] (ByteArray.size a1:Int) (List.getD r1.1 (Int.toNat (w64 ((List.length r1.1:Int)-1))) (Ty.dflt TSpot)).2.2.1.2.1 [])))))))))
def f (k:Nat):=t k (l0 k k)
end spec_HintOf
namespace spec_SameDir
abbrev Rs:Type:=Option (Bool × Unit)
abbrev T0:Type:=List (Ty.den TEntry)→List (Ty.den TEntry)→Int→Rs
def b0 (k:Nat) (L0:T0):T0:=fun x0 x1 x2 =>
 (bif (decide (x2<(x0.length:Int))) then
 (inb x2 (x0.length:Int)
 (inb x2 (x1.length:Int)
 (bif (!((seq (List.getD x0 (Int.toNat x2) (Ty.dflt TEntry)).1 (List.getD x1 (Int.toNat x2) (Ty.dflt TEntry)).1)&&(((List.getD x0 (Int.toNat x2) (Ty.dflt TEntry)).2.1==(List.getD x1 (Int.toNat x2) (Ty.dflt TEntry)).2.1)&&(((List.getD x0 (Int.toNat x2) (Ty.dflt TEntry)).2.2.1==(List.getD x1 (Int.toNat x2) (Ty.dflt TEntry)).2.2.1)&&(((List.getD x0 (Int.toNat x2) (Ty.dflt TEntry)).2.2.2.1==(List.getD x1 (Int.toNat x2) (Ty.dflt TEntry)).2.2.2.1)&&((List.getD x0 (Int.toNat x2) (Ty.dflt TEntry)).2.2.2.2.1==(List.getD x1 (Int.toNat x2) (Ty.dflt TEntry)).2.2.2.2.1)))))) then
 (some (false,()))
 else
 (L0 x0 x1 (w64 (x2+1))))))
 else
 (some (true,())))
def l0 (k:Nat):Nat→T0
 | 0=>fun _ _ _=>none
 | n+1=>b0 k (l0 k n)
def t (k:Nat) (L0:T0) (a0:List (Ty.den TEntry)) (a1:List (Ty.den TEntry)):Rs :=
 (bif ((List.length a0:Int) != (List.length a1:Int)) then
 (some (false,()))
 else
 (L0 a0 a1 0))
def f (k:Nat):=t k (l0 k k)
end spec_SameDir
namespace spec_HintFits
abbrev Rs:Type:=Option (Bool × Unit)
def t (k:Nat) (a0:Int) (a1:ByteArray) (a2:Ty.den THint):Rs :=
 ((spec_HintOf.f k a0 a1).bind fun r1 =>
 (bif r1.2.1 then
 (bif (r1.1.1==a2.1) then
 (bif (r1.1.2.1==a2.2.1) then
 ((spec_SameDir.f k r1.1.2.2.1 a2.2.2.1).bind fun r2 =>
 (some r2))
 else
 (some (false,())))
 else
 (some (false,())))
 else
 (some (false,()))))
def f (k:Nat):=t k
end spec_HintFits
namespace spec_l11Places
abbrev Rs:Type:=Option ((List (Ty.den TPlace)) × Unit)
abbrev T0:Type:=Int→Int→List (Ty.den TPlace)→List (Ty.den TSpot)→Rs
def b0 (k:Nat) (L0:T0):T0:=fun x0 x1 x2 x3 =>
 (bif (decide (x1<(x3.length:Int))) then
 (inb x1 (x3.length:Int)
 (inb x1 (x3.length:Int)
 (inb x1 (x3.length:Int)
 (rm (Ty.bytes TPlace) (List.length x2+1)
 (L0 x0 (w64 (x1+1)) (x2++[(x0,((List.getD x3 (Int.toNat x1) (Ty.dflt TSpot)).1,((List.getD x3 (Int.toNat x1) (Ty.dflt TSpot)).2.1,(List.getD x3 (Int.toNat x1) (Ty.dflt TSpot)).2.2)))]) x3)))))
 else
 (some (x2,())))
def l0 (k:Nat):Nat→T0
 | 0=>fun _ _ _ _=>none
 | n+1=>b0 k (l0 k n)
def t (k:Nat) (L0:T0) (a0:Int) (a1:ByteArray):Rs :=
 ((spec_ScanRecs.f k a1).bind fun r1 =>
 (L0 a0 0 [] r1.1))
def f (k:Nat):=t k (l0 k k)
end spec_l11Places
namespace spec_l9Of
abbrev Rs:Type:=Option ((List (Ty.den TPlace)) × Unit)
abbrev T0:Type:=List (Ty.den TPlace)→Int→Int→Int→List (Ty.den TPlace)→Rs
def b0 (k:Nat) (L0:T0):T0:=fun x0 x1 x2 x3 x4 =>
 (bif (decide (x3<x1)) then
 (inb x3 (x0.length:Int)
 (bif ((List.getD x0 (Int.toNat x3) (Ty.dflt TPlace)).2.2.2.1.2.1==x2) then
 (bif ((List.getD x0 (Int.toNat x3) (Ty.dflt TPlace)).2.2.2.1.1==3) then
 (bif ((List.getD x0 (Int.toNat x3) (Ty.dflt TPlace)).2.2.2.1.2.1==x2) then
 (bif ((List.getD x0 (Int.toNat x3) (Ty.dflt TPlace)).2.2.2.1.1==1) then
 (inb x3 (x0.length:Int)
 (rm (Ty.bytes TPlace) (0+1)
 (L0 x0 x1 x2 (w64 (x3+1)) ([]++[(List.getD x0 (Int.toNat x3) (Ty.dflt TPlace))]))))
 else
 (bif ((List.getD x0 (Int.toNat x3) (Ty.dflt TPlace)).2.2.2.1.1==2) then
 (inb x3 (x0.length:Int)
 (rm (Ty.bytes TPlace) (0+1)
 (L0 x0 x1 x2 (w64 (x3+1)) ([]++[(List.getD x0 (Int.toNat x3) (Ty.dflt TPlace))]))))
 else
 (L0 x0 x1 x2 (w64 (x3+1)) [])))
 else
 (L0 x0 x1 x2 (w64 (x3+1)) []))
 else
 (bif ((List.getD x0 (Int.toNat x3) (Ty.dflt TPlace)).2.2.2.1.2.1==x2) then
 (bif ((List.getD x0 (Int.toNat x3) (Ty.dflt TPlace)).2.2.2.1.1==1) then
 (inb x3 (x0.length:Int)
 (rm (Ty.bytes TPlace) (List.length x4+1)
 (L0 x0 x1 x2 (w64 (x3+1)) (x4++[(List.getD x0 (Int.toNat x3) (Ty.dflt TPlace))]))))
 else
 (bif ((List.getD x0 (Int.toNat x3) (Ty.dflt TPlace)).2.2.2.1.1==2) then
 (inb x3 (x0.length:Int)
 (rm (Ty.bytes TPlace) (List.length x4+1)
 (L0 x0 x1 x2 (w64 (x3+1)) (x4++[(List.getD x0 (Int.toNat x3) (Ty.dflt TPlace))]))))
 else
 (L0 x0 x1 x2 (w64 (x3+1)) x4)))
 else
 (L0 x0 x1 x2 (w64 (x3+1)) x4)))
 else
 (bif ((List.getD x0 (Int.toNat x3) (Ty.dflt TPlace)).2.2.2.1.2.1==x2) then
 (bif ((List.getD x0 (Int.toNat x3) (Ty.dflt TPlace)).2.2.2.1.1==1) then
 (inb x3 (x0.length:Int)
 (rm (Ty.bytes TPlace) (List.length x4+1)
 (L0 x0 x1 x2 (w64 (x3+1)) (x4++[(List.getD x0 (Int.toNat x3) (Ty.dflt TPlace))]))))
 else
 (bif ((List.getD x0 (Int.toNat x3) (Ty.dflt TPlace)).2.2.2.1.1==2) then
 (inb x3 (x0.length:Int)
 (rm (Ty.bytes TPlace) (List.length x4+1)
 (L0 x0 x1 x2 (w64 (x3+1)) (x4++[(List.getD x0 (Int.toNat x3) (Ty.dflt TPlace))]))))
 else
 (L0 x0 x1 x2 (w64 (x3+1)) x4)))
 else
 (L0 x0 x1 x2 (w64 (x3+1)) x4))))
 else
 (some (x4,())))
def l0 (k:Nat):Nat→T0
 | 0=>fun _ _ _ _ _=>none
 | n+1=>b0 k (l0 k n)
def t (k:Nat) (L0:T0) (a0:List (Ty.den TPlace)) (a1:Int) (a2:Int):Rs :=
 (L0 a0 a1 a2 0 [])
def f (k:Nat):=t k (l0 k k)
end spec_l9Of
namespace spec_l9Recs
abbrev Rs:Type:=Option ((List (Ty.den TRec)) × Unit)
abbrev T0:Type:=List (Ty.den TPlace)→Int→List (Ty.den TRec)→Rs
def b0 (k:Nat) (L0:T0):T0:=fun x0 x1 x2 =>
 (bif (decide (x1<(x0.length:Int))) then
 (inb x1 (x0.length:Int)
 (rm (Ty.bytes TRec) (List.length x2+1)
 (L0 x0 (w64 (x1+1)) (x2++[(List.getD x0 (Int.toNat x1) (Ty.dflt TPlace)).2.2.2.1]))))
 else
 (some (x2,())))
def l0 (k:Nat):Nat→T0
 | 0=>fun _ _ _=>none
 | n+1=>b0 k (l0 k n)
def t (k:Nat) (L0:T0) (a0:List (Ty.den TPlace)):Rs :=
 (L0 a0 0 [])
def f (k:Nat):=t k (l0 k k)
end spec_l9Recs
namespace spec_l9Fits
abbrev Rs:Type:=Option (Bool × Unit)
def t (k:Nat) (a0:Ty.den TRec) (a1:List (Ty.den TPlace)):Rs :=
 (bif (a0.2.2.2.2.1==(List.length a1:Int)) then
 ((spec_l9Recs.f k a1).bind fun r1 =>
 ((spec_SumOf.f k r1.1).bind fun r2 =>
 (some ((a0.2.2.2.2.2.1==r2.1),()))))
 else
 (some (false,())))
def f (k:Nat):=t k
end spec_l9Fits
namespace spec_DirDrop
abbrev Rs:Type:=Option ((List (Ty.den TEntry)) × Unit)
abbrev T0:Type:=List (Ty.den TEntry)→ByteArray→Int→List (Ty.den TEntry)→Rs
def b0 (k:Nat) (L0:T0):T0:=fun x0 x1 x2 x3 =>
 (bif (decide (x2<(x0.length:Int))) then
 (inb x2 (x0.length:Int)
 (bif (!(seq (List.getD x0 (Int.toNat x2) (Ty.dflt TEntry)).1 x1)) then
 (inb x2 (x0.length:Int)
 (rm (Ty.bytes TEntry) (List.length x3+1)
 (L0 x0 x1 (w64 (x2+1)) (x3++[(List.getD x0 (Int.toNat x2) (Ty.dflt TEntry))]))))
 else
 (L0 x0 x1 (w64 (x2+1)) x3)))
 else
 (some (x3,())))
def l0 (k:Nat):Nat→T0
 | 0=>fun _ _ _ _=>none
 | n+1=>b0 k (l0 k n)
def t (k:Nat) (L0:T0) (a0:List (Ty.den TEntry)) (a1:ByteArray):Rs :=
 (L0 a0 a1 0 [])
def f (k:Nat):=t k (l0 k k)
end spec_DirDrop
namespace spec_DirPut
abbrev Rs:Type:=Option ((List (Ty.den TEntry)) × Unit)
abbrev T0:Type:=List (Ty.den TEntry)→Bool→Int→ByteArray→Int→Int→Int→Int→List (Ty.den TEntry)→Rs
def b0 (k:Nat) (L0:T0):T0:=fun x0 x1 x2 x3 x4 x5 x6 x7 x8 =>
 (bif (decide (x2<(x0.length:Int))) then
 (inb x2 (x0.length:Int)
 (bif (seq (List.getD x0 (Int.toNat x2) (Ty.dflt TEntry)).1 x3) then
 (L0 x0 x1 (w64 (x2+1)) x3 x4 x5 x6 x7 x8)
 else
 (bif (!x1) then
 (inb x2 (x0.length:Int)
 (bif (!((sls (List.getD x0 (Int.toNat x2) (Ty.dflt TEntry)).1 x3)||(seq (List.getD x0 (Int.toNat x2) (Ty.dflt TEntry)).1 x3))) then
 (rm (Ty.bytes TEntry) (List.length x8+1)
 (inb x2 (x0.length:Int)
 (rm (Ty.bytes TEntry) (List.length (x8++[(x3,(x4,(x5,(x6,(x7,())))))])+1)
 (L0 x0 true (w64 (x2+1)) x3 x4 x5 x6 x7 ((x8++[(x3,(x4,(x5,(x6,(x7,())))))])++[(List.getD x0 (Int.toNat x2) (Ty.dflt TEntry))])))))
 else
 (inb x2 (x0.length:Int)
 (rm (Ty.bytes TEntry) (List.length x8+1)
 (L0 x0 x1 (w64 (x2+1)) x3 x4 x5 x6 x7 (x8++[(List.getD x0 (Int.toNat x2) (Ty.dflt TEntry))]))))))
 else
 (inb x2 (x0.length:Int)
 (rm (Ty.bytes TEntry) (List.length x8+1)
 (L0 x0 x1 (w64 (x2+1)) x3 x4 x5 x6 x7 (x8++[(List.getD x0 (Int.toNat x2) (Ty.dflt TEntry))])))))))
 else
 (bif (!x1) then
 (rm (Ty.bytes TEntry) (List.length x8+1)
 (some ((x8++[(x3,(x4,(x5,(x6,(x7,())))))]),())))
 else
 (some (x8,()))))
def l0 (k:Nat):Nat→T0
 | 0=>fun _ _ _ _ _ _ _ _ _=>none
 | n+1=>b0 k (l0 k n)
def t (k:Nat) (L0:T0) (a0:List (Ty.den TEntry)) (a1:Ty.den TEntry):Rs :=
 (L0 a0 false 0 a1.1 a1.2.1 a1.2.2.1 a1.2.2.2.1 a1.2.2.2.2.1 [])
def f (k:Nat):=t k (l0 k k)
end spec_DirPut
namespace spec_l9Put
abbrev Rs:Type:=Option ((List (Ty.den TEntry)) × Unit)
def t (k:Nat) (a0:List (Ty.den TEntry)) (a1:Ty.den TPlace):Rs :=
 (bif (a1.2.2.2.1.1==2) then
 ((spec_DirDrop.f k a0 a1.2.2.2.1.2.2.1).bind fun r1 =>
 (some r1))
 else
 ((spec_DirPut.f k a0 (a1.2.2.2.1.2.2.1,(a1.1,(a1.2.1,(a1.2.2.1,(a1.2.2.2.1.2.1,())))))).bind fun r2 =>
 (some r2)))
def f (k:Nat):=t k
end spec_l9Put
namespace spec_l9Kept
abbrev Rs:Type:=Option ((List (Ty.den TPlace)) × Unit)
abbrev T0:Type:=List (Ty.den TPlace)→Int→Int→List (Ty.den TPlace)→Rs
def b0 (k:Nat) (L0:T0):T0:=fun x0 x1 x2 x3 =>
 (bif (decide (x2<x1)) then
 (inb x2 (x0.length:Int)
 (bif ((List.getD x0 (Int.toNat x2) (Ty.dflt TPlace)).2.2.2.1.1==5) then
 (inb x2 (x0.length:Int)
 (bif ((List.getD x0 (Int.toNat x2) (Ty.dflt TPlace)).2.2.2.1.1==4) then
 (inb x2 (x0.length:Int)
 (rm (Ty.bytes TPlace) (0+1)
 (L0 x0 x1 (w64 (x2+1)) ([]++[(List.getD x0 (Int.toNat x2) (Ty.dflt TPlace))]))))
 else
 (L0 x0 x1 (w64 (x2+1)) [])))
 else
 (inb x2 (x0.length:Int)
 (bif ((List.getD x0 (Int.toNat x2) (Ty.dflt TPlace)).2.2.2.1.1==4) then
 (inb x2 (x0.length:Int)
 (rm (Ty.bytes TPlace) (List.length x3+1)
 (L0 x0 x1 (w64 (x2+1)) (x3++[(List.getD x0 (Int.toNat x2) (Ty.dflt TPlace))]))))
 else
 (L0 x0 x1 (w64 (x2+1)) x3)))))
 else
 (some (x3,())))
def l0 (k:Nat):Nat→T0
 | 0=>fun _ _ _ _=>none
 | n+1=>b0 k (l0 k n)
def t (k:Nat) (L0:T0) (a0:List (Ty.den TPlace)) (a1:Int):Rs :=
 (L0 a0 a1 0 [])
def f (k:Nat):=t k (l0 k k)
end spec_l9Kept
namespace spec_Regroup
abbrev Rs:Type:=Option ((Ty.den TGroup) × Unit)
abbrev T1:Type:=List (Ty.den TPlace)→Int→Int→List (Ty.den TEntry)→Int→Int→List (Ty.den TEntry)→Int→Int→List (Ty.den TPlace)→Rs
abbrev T0:Type:=List (Ty.den TPlace)→Int→List (Ty.den TEntry)→Int→Int→List (Ty.den TEntry)→Int→Int→Rs
def b1 (k:Nat) (L0:T0) (L1:T1):T1:=fun x0 x1 x2 x3 x4 x5 x6 x7 x8 x9 =>
 (bif (decide (x2<(x9.length:Int))) then
 (inb x2 (x9.length:Int)
 ((spec_l9Put.f k x6 (List.getD x9 (Int.toNat x2) (Ty.dflt TPlace))).bind fun r3 =>
 (L1 x0 x1 (w64 (x2+1)) x3 x4 x5 r3.1 x7 x8 x9)))
 else
 (bif (decide ((x6.length:Int) > 20)) then
 (L0 x0 (w64 (x1+1)) x3 x4 x5 x6 x7 2)
 else
 (L0 x0 (w64 (x1+1)) x3 x4 x5 x6 x7 x8)))
def l1 (k:Nat) (L0:T0):Nat→T1
 | 0=>fun _ _ _ _ _ _ _ _ _ _=>none
 | n+1=>b1 k L0 (l1 k L0 n)
def b0 (k:Nat) (L1:T1) (L0:T0):T0:=fun x0 x1 x2 x3 x4 x5 x6 x7 =>
 (bif (decide (x1<(x0.length:Int))) then
 (bif (x7==0) then
 (inb x1 (x0.length:Int)
 (bif ((List.getD x0 (Int.toNat x1) (Ty.dflt TPlace)).2.2.2.1.1==3) then
 ((spec_l9Of.f k x0 x1 (List.getD x0 (Int.toNat x1) (Ty.dflt TPlace)).2.2.2.1.2.1).bind fun r1 =>
 ((spec_l9Fits.f k (List.getD x0 (Int.toNat x1) (Ty.dflt TPlace)).2.2.2.1 r1.1).bind fun r2 =>
 (bif (!r2.1) then
 (L0 x0 (w64 (x1+1)) x2 x3 x4 x5 (if (List.getD x0 (Int.toNat x1) (Ty.dflt TPlace)).2.2.2.1.2.1 > x6 then (List.getD x0 (Int.toNat x1) (Ty.dflt TPlace)).2.2.2.1.2.1 else x6) x7)
 else
 (L1 x0 x1 0 x2 x3 x4 x5 (if (List.getD x0 (Int.toNat x1) (Ty.dflt TPlace)).2.2.2.1.2.1 > x6 then (List.getD x0 (Int.toNat x1) (Ty.dflt TPlace)).2.2.2.1.2.1 else x6) x7 r1.1))))
 else
 (bif ((List.getD x0 (Int.toNat x1) (Ty.dflt TPlace)).2.2.2.1.1==5) then
 ((spec_l9Kept.f k x0 x1).bind fun r4 =>
 ((spec_l9Fits.f k (List.getD x0 (Int.toNat x1) (Ty.dflt TPlace)).2.2.2.1 r4.1).bind fun r5 =>
 (bif (!r5.1) then
 (L0 x0 (w64 (x1+1)) x2 x3 x4 x5 (if (List.getD x0 (Int.toNat x1) (Ty.dflt TPlace)).2.2.2.1.2.1 > x6 then (List.getD x0 (Int.toNat x1) (Ty.dflt TPlace)).2.2.2.1.2.1 else x6) 1)
 else
 (L1 x0 x1 0 x2 x3 x4 x5 (if (List.getD x0 (Int.toNat x1) (Ty.dflt TPlace)).2.2.2.1.2.1 > x6 then (List.getD x0 (Int.toNat x1) (Ty.dflt TPlace)).2.2.2.1.2.1 else x6) x7 r4.1))))
 else
 (L0 x0 (w64 (x1+1)) x2 x3 x4 x5 (if (List.getD x0 (Int.toNat x1) (Ty.dflt TPlace)).2.2.2.1.2.1 > x6 then (List.getD x0 (Int.toNat x1) (Ty.dflt TPlace)).2.2.2.1.2.1 else x6) x7))))
 else
 (bif (x7==0) then
 ((spec_l9Kept.f k x0 (x0.length:Int)).bind fun r6 =>
 (bif (decide ((List.length r6.1:Int) > 0)) then
 (some ((x5,(x6,(1,()))),()))
 else
 (some ((x5,(x6,(x7,()))),()))))
 else
 (some ((x5,(x6,(x7,()))),()))))
 else
 (bif (x7==0) then
 ((spec_l9Kept.f k x0 (x0.length:Int)).bind fun r7 =>
 (bif (decide ((List.length r7.1:Int) > 0)) then
 (some ((x5,(x6,(1,()))),()))
 else
 (some ((x5,(x6,(x7,()))),()))))
 else
 (some ((x5,(x6,(x7,()))),()))))
def l0 (k:Nat):Nat→T0
 | 0=>fun _ _ _ _ _ _ _ _=>none
 | n+1=>b0 k (l1 k (l0 k n) k) (l0 k n)
def t (k:Nat) (L0:T0) (a0:Ty.den TGroup) (a1:List (Ty.den TPlace)):Rs :=
 (rm (Ty.bytes TEntry) (0+List.length a0.1)
 (L0 a1 0 [] 0 0 ([]++a0.1) a0.2.1 a0.2.2.1))
def f (k:Nat):=t k (l0 k k)
end spec_Regroup
namespace spec_l11Sweep_g
abbrev Rs:Type:=Option ((Ty.den TDisk) × Int × Unit)
abbrev T0:Type:=Int→List (Ty.den TPair)→Int→Int→Bool→List (Ty.den TPair)→Int→Int→Bool→List ByteArray→Rs
def b0 (k:Nat) (L0:T0):T0:=fun x0 x1 x2 x3 x4 x5 x6 x7 x8 x9 =>
 (bif (decide (x0<(x9.length:Int))) then
 (inb x0 (x9.length:Int)
 ((spec_Remove.f k (x1,(x2,(x3,(x4,())))) (List.getD x9 (Int.toNat x0) (Ty.dflt .str))).bind fun r2 =>
 (bif (r2.2.1 != 0) then
 ((spec_l11Code.f k r2.2.1).bind fun r3 =>
 (some (r2.1,r3)))
 else
 (L0 (w64 (x0+1)) r2.1.1 r2.1.2.1 r2.1.2.2.1 r2.1.2.2.2.1 x5 x6 x7 x8 x9))))
 else
 (some ((x1,(x2,(x3,(x4,())))),(0,()))))
def l0 (k:Nat):Nat→T0
 | 0=>fun _ _ _ _ _ _ _ _ _ _=>none
 | n+1=>b0 k (l0 k n)
def t (k:Nat) (L0:T0) (a0:Ty.den TDisk) (a1:Ty.den TLive):Rs :=
 ((spec_Orphans.f k a0 a1).bind fun r1 =>
 (L0 0 a0.1 a0.2.1 a0.2.2.1 a0.2.2.2.1 [] 0 0 false r1.1))
def f (k:Nat):=t k (l0 k k)
end spec_l11Sweep_g
namespace spec_l11First_g
abbrev Rs:Type:=Option ((Ty.den TStore) × (Ty.den TDisk) × Int × Unit)
def t (k:Nat) (a0:Ty.den TDisk):Rs :=
 ((spec_l11Sweep_g.f k a0 (0,([],()))).bind fun r1 =>
 (bif (r1.2.1 != 0) then
 (some (((0,([],())),([],(0,(0,(0,()))))),r1))
 else
 ((spec_SegName.f k 1).bind fun r2 =>
 ((spec_Create.f k r1.1 r2.1).bind fun r3 =>
 (bif (r3.2.1 != 0) then
 ((spec_l11Code.f k r3.2.1).bind fun r4 =>
 (some (((0,([],())),([],(0,(0,(0,()))))),(r3.1,r4))))
 else
 ((spec_PutLive.f k r3.1 (2,([1],()))).bind fun r5 =>
 (bif (r5.2.1 != 0) then
 (some (((0,([],())),([],(0,(0,(0,()))))),r5))
 else
 (some (((2,([1],())),([],(1,(0,(0,()))))),(r5.1,(0,())))))))))))
def f (k:Nat):=t k
end spec_l11First_g
namespace spec_Open_g
abbrev Rs:Type:=Option ((Ty.den TStore) × (Ty.den TDisk) × Int × Unit)
abbrev T1:Type:=Int→List Int→List (Ty.den TEntry)→Int→Int→Int→Int→List (Ty.den TPair)→Int→Int→Bool→List Int→List (Ty.den TEntry)→Int→Int→Int→Int→List Int→Int→List (Ty.den TPair)→Int→Int→Bool→List (Ty.den TEntry)→Int→Int→Int→Int→List (Ty.den TEntry)→Int→Int→List (Ty.den TPlace)→Rs
abbrev T2:Type:=Int→List Int→List (Ty.den TEntry)→Int→Int→Int→Int→List (Ty.den TPair)→Int→Int→Bool→List Int→List (Ty.den TEntry)→Int→Int→Int→Int→List Int→Int→List (Ty.den TPair)→Int→Int→Bool→List (Ty.den TEntry)→Int→Int→Int→Int→List (Ty.den TEntry)→Int→Int→List (Ty.den TPlace)→Rs
abbrev T0:Type:=Int→Int→List (Ty.den TPair)→Int→Int→Bool→List Int→List (Ty.den TEntry)→Int→Int→Int→Int→List (Ty.den TPair)→Int→Int→Bool→List Int→List (Ty.den TEntry)→Int→Int→Int→Int→List Int→Int→Rs
def b1 (k:Nat) (L1:T1):T1:=fun x0 x1 x2 x3 x4 x5 x6 x7 x8 x9 x10 x11 x12 x13 x14 x15 x16 x17 x18 x19 x20 x21 x22 x23 x24 x25 x26 x27 x28 x29 x30 x31 =>
 (bif (decide (x0<(x17.length:Int))) then
 (inb x0 (x17.length:Int)
 ((spec_SegName.f k (List.getD x17 (Int.toNat x0) (Ty.dflt (.int .i64)))).bind fun r23 =>
 ((spec_FileText.f k (x19,(x20,(x21,(x22,())))) r23.1).bind fun r24 =>
 (inb x0 (x17.length:Int)
 ((spec_HintName.f k (List.getD x17 (Int.toNat x0) (Ty.dflt (.int .i64)))).bind fun r25 =>
 ((spec_FileText.f k (x19,(x20,(x21,(x22,())))) r25.1).bind fun r26 =>
 ((spec_ReadHint.f k r26.1).bind fun r27 =>
 (bif (x0==0) then
 (bif r26.2.1 then
 (bif r27.2.1 then
 (inb 0 (x17.length:Int)
 ((spec_HintFits.f k (List.getD x17 0 (Ty.dflt (.int .i64))) r24.1 r27.1).bind fun r28 =>
 (bif r28.1 then
 (inb 0 (x17.length:Int)
 (L1 (w64 (x0+1)) x1 x2 x3 x4 x5 x6 x7 x8 x9 x10 x11 x12 x13 x14 x15 x16 x17 x18 x19 x20 x21 x22 x23 x24 x25 x26 (List.getD x17 0 (Ty.dflt (.int .i64))) r27.1.2.2.1 r27.1.2.1 x30 x31))
 else
 (inb x0 (x17.length:Int)
 ((spec_l11Places.f k (List.getD x17 (Int.toNat x0) (Ty.dflt (.int .i64))) r24.1).bind fun r29 =>
 (rm (Ty.bytes TPlace) (List.length x31+List.length r29.1)
 (L1 (w64 (x0+1)) x1 x2 x3 x4 x5 x6 x7 x8 x9 x10 x11 x12 x13 x14 x15 x16 x17 x18 x19 x20 x21 x22 x23 x24 x25 x26 x27 x28 x29 x30 (x31++r29.1))))))))
 else
 (inb x0 (x17.length:Int)
 ((spec_l11Places.f k (List.getD x17 (Int.toNat x0) (Ty.dflt (.int .i64))) r24.1).bind fun r30 =>
 (rm (Ty.bytes TPlace) (List.length x31+List.length r30.1)
 (L1 (w64 (x0+1)) x1 x2 x3 x4 x5 x6 x7 x8 x9 x10 x11 x12 x13 x14 x15 x16 x17 x18 x19 x20 x21 x22 x23 x24 x25 x26 x27 x28 x29 x30 (x31++r30.1))))))
 else
 (inb x0 (x17.length:Int)
 ((spec_l11Places.f k (List.getD x17 (Int.toNat x0) (Ty.dflt (.int .i64))) r24.1).bind fun r31 =>
 (rm (Ty.bytes TPlace) (List.length x31+List.length r31.1)
 (L1 (w64 (x0+1)) x1 x2 x3 x4 x5 x6 x7 x8 x9 x10 x11 x12 x13 x14 x15 x16 x17 x18 x19 x20 x21 x22 x23 x24 x25 x26 x27 x28 x29 x30 (x31++r31.1))))))
 else
 (inb x0 (x17.length:Int)
 ((spec_l11Places.f k (List.getD x17 (Int.toNat x0) (Ty.dflt (.int .i64))) r24.1).bind fun r32 =>
 (rm (Ty.bytes TPlace) (List.length x31+List.length r32.1)
 (L1 (w64 (x0+1)) x1 x2 x3 x4 x5 x6 x7 x8 x9 x10 x11 x12 x13 x14 x15 x16 x17 x18 x19 x20 x21 x22 x23 x24 x25 x26 x27 x28 x29 x30 (x31++r32.1)))))))))))))
 else
 ((spec_Regroup.f k (x28,(x29,(x30,()))) x31).bind fun r33 =>
 (bif (r33.1.2.2.1 != 0) then
 (some (((x13,(x11,())),(x12,(x14,(x15,(x16,()))))),((x19,(x20,(x21,(x22,())))),(3,()))))
 else
 ((spec_l11Sweep_g.f k (x19,(x20,(x21,(x22,())))) (x18,(x17,()))).bind fun r34 =>
 (bif (r34.2.1 != 0) then
 (some (((x13,(x11,())),(x12,(x14,(x15,(x16,()))))),r34))
 else
 (some (((x24,(x17,())),(r33.1.1,((w64 (r33.1.2.1+1)),(x26,(x27,()))))),(r34.1,(0,())))))))))
def l1 (k:Nat):Nat→T1
 | 0=>fun _ _ _ _ _ _ _ _ _ _ _ _ _ _ _ _ _ _ _ _ _ _ _ _ _ _ _ _ _ _ _ _=>none
 | n+1=>b1 k (l1 k n)
def b2 (k:Nat) (L2:T2):T2:=fun x0 x1 x2 x3 x4 x5 x6 x7 x8 x9 x10 x11 x12 x13 x14 x15 x16 x17 x18 x19 x20 x21 x22 x23 x24 x25 x26 x27 x28 x29 x30 x31 =>
 (bif (decide (x0<(x17.length:Int))) then
 (inb x0 (x17.length:Int)
 ((spec_SegName.f k (List.getD x17 (Int.toNat x0) (Ty.dflt (.int .i64)))).bind fun r38 =>
 ((spec_FileText.f k (x19,(x20,(x21,(x22,())))) r38.1).bind fun r39 =>
 (inb x0 (x17.length:Int)
 ((spec_HintName.f k (List.getD x17 (Int.toNat x0) (Ty.dflt (.int .i64)))).bind fun r40 =>
 ((spec_FileText.f k (x19,(x20,(x21,(x22,())))) r40.1).bind fun r41 =>
 ((spec_ReadHint.f k r41.1).bind fun r42 =>
 (bif (x0==0) then
 (bif r41.2.1 then
 (bif r42.2.1 then
 (inb 0 (x17.length:Int)
 ((spec_HintFits.f k (List.getD x17 0 (Ty.dflt (.int .i64))) r39.1 r42.1).bind fun r43 =>
 (bif r43.1 then
 (inb 0 (x17.length:Int)
 (L2 (w64 (x0+1)) x1 x2 x3 x4 x5 x6 x7 x8 x9 x10 x11 x12 x13 x14 x15 x16 x17 x18 x19 x20 x21 x22 x23 x24 x25 x26 (List.getD x17 0 (Ty.dflt (.int .i64))) r42.1.2.2.1 r42.1.2.1 x30 x31))
 else
 (inb x0 (x17.length:Int)
 ((spec_l11Places.f k (List.getD x17 (Int.toNat x0) (Ty.dflt (.int .i64))) r39.1).bind fun r44 =>
 (rm (Ty.bytes TPlace) (List.length x31+List.length r44.1)
 (L2 (w64 (x0+1)) x1 x2 x3 x4 x5 x6 x7 x8 x9 x10 x11 x12 x13 x14 x15 x16 x17 x18 x19 x20 x21 x22 x23 x24 x25 x26 x27 x28 x29 x30 (x31++r44.1))))))))
 else
 (inb x0 (x17.length:Int)
 ((spec_l11Places.f k (List.getD x17 (Int.toNat x0) (Ty.dflt (.int .i64))) r39.1).bind fun r45 =>
 (rm (Ty.bytes TPlace) (List.length x31+List.length r45.1)
 (L2 (w64 (x0+1)) x1 x2 x3 x4 x5 x6 x7 x8 x9 x10 x11 x12 x13 x14 x15 x16 x17 x18 x19 x20 x21 x22 x23 x24 x25 x26 x27 x28 x29 x30 (x31++r45.1))))))
 else
 (inb x0 (x17.length:Int)
 ((spec_l11Places.f k (List.getD x17 (Int.toNat x0) (Ty.dflt (.int .i64))) r39.1).bind fun r46 =>
 (rm (Ty.bytes TPlace) (List.length x31+List.length r46.1)
 (L2 (w64 (x0+1)) x1 x2 x3 x4 x5 x6 x7 x8 x9 x10 x11 x12 x13 x14 x15 x16 x17 x18 x19 x20 x21 x22 x23 x24 x25 x26 x27 x28 x29 x30 (x31++r46.1))))))
 else
 (inb x0 (x17.length:Int)
 ((spec_l11Places.f k (List.getD x17 (Int.toNat x0) (Ty.dflt (.int .i64))) r39.1).bind fun r47 =>
 (rm (Ty.bytes TPlace) (List.length x31+List.length r47.1)
 (L2 (w64 (x0+1)) x1 x2 x3 x4 x5 x6 x7 x8 x9 x10 x11 x12 x13 x14 x15 x16 x17 x18 x19 x20 x21 x22 x23 x24 x25 x26 x27 x28 x29 x30 (x31++r47.1)))))))))))))
 else
 ((spec_Regroup.f k (x28,(x29,(x30,()))) x31).bind fun r48 =>
 (bif (r48.1.2.2.1 != 0) then
 (some (((x13,(x11,())),(x12,(x14,(x15,(x16,()))))),((x19,(x20,(x21,(x22,())))),(3,()))))
 else
 ((spec_l11Sweep_g.f k (x19,(x20,(x21,(x22,())))) (x18,(x17,()))).bind fun r49 =>
 (bif (r49.2.1 != 0) then
 (some (((x13,(x11,())),(x12,(x14,(x15,(x16,()))))),r49))
 else
 (some (((x24,(x17,())),(r48.1.1,((w64 (r48.1.2.1+1)),(x26,(x27,()))))),(r49.1,(0,())))))))))
def l2 (k:Nat):Nat→T2
 | 0=>fun _ _ _ _ _ _ _ _ _ _ _ _ _ _ _ _ _ _ _ _ _ _ _ _ _ _ _ _ _ _ _ _=>none
 | n+1=>b2 k (l2 k n)
def b0 (k:Nat) (L1:T1) (L2:T2) (L0:T0):T0:=fun x0 x1 x2 x3 x4 x5 x6 x7 x8 x9 x10 x11 x12 x13 x14 x15 x16 x17 x18 x19 x20 x21 x22 x23 =>
 (bif (decide (x1<(x22.length:Int))) then
 (inb x1 (x22.length:Int)
 ((spec_SegName.f k (List.getD x22 (Int.toNat x1) (Ty.dflt (.int .i64)))).bind fun r8 =>
 ((spec_FileText.f k (x2,(x3,(x4,(x5,())))) r8.1).bind fun r9 =>
 ((spec_ScanRecs.f k r9.1).bind fun r10 =>
 (bif (!r9.2.1) then
 ((spec_l3Copy.f k (x2,(x3,(x4,(x5,()))))).bind fun r11 =>
 (some (((x18,(x16,())),(x17,(x19,(x20,(x21,()))))),(r11.1,(3,())))))
 else
 (inb x1 (x22.length:Int)
 (bif ((List.getD x22 (Int.toNat x1) (Ty.dflt (.int .i64))) != x0) then
 (bif (decide (r10.2.1<(ByteArray.size r9.1:Int))) then
 ((spec_l3Copy.f k (x2,(x3,(x4,(x5,()))))).bind fun r12 =>
 (some (((x18,(x16,())),(x17,(x19,(x20,(x21,()))))),(r12.1,(3,())))))
 else
 (L0 x0 (w64 (x1+1)) x2 x3 x4 x5 x6 x7 x8 x9 x10 x11 x12 x13 x14 x15 x16 x17 x18 x19 x20 x21 x22 x23))
 else
 (L0 x0 (w64 (x1+1)) x2 x3 x4 x5 x6 x7 x8 x9 x10 x11 x12 x13 x14 x15 x16 x17 x18 x19 x20 x21 x22 x23))))))))
 else
 ((spec_SegName.f k x0).bind fun r13 =>
 ((spec_FileText.f k (x2,(x3,(x4,(x5,())))) r13.1).bind fun r14 =>
 ((spec_ScanRecs.f k r14.1).bind fun r15 =>
 ((spec_l3Copy.f k (x2,(x3,(x4,(x5,()))))).bind fun r16 =>
 (bif (decide (r15.2.1<(ByteArray.size r14.1:Int))) then
 ((spec_SegName.f k x0).bind fun r17 =>
 ((spec_Truncate.f k r16.1 r17.1 r15.2.1).bind fun r18 =>
 (bif (r18.2.1 != 0) then
 ((spec_l11Code.f k r18.2.1).bind fun r19 =>
 (some (((x18,(x16,())),(x17,(x19,(x20,(x21,()))))),(r18.1,r19))))
 else
 ((spec_SegName.f k x0).bind fun r20 =>
 ((spec_Sync.f k r18.1 r20.1).bind fun r21 =>
 (bif (r21.2.1 != 0) then
 ((spec_l11Code.f k r21.2.1).bind fun r22 =>
 (some (((x18,(x16,())),(x17,(x19,(x20,(x21,()))))),(r21.1,r22))))
 else
 (L1 0 x6 x7 x8 x9 x10 x11 x12 x13 x14 x15 x16 x17 x18 x19 x20 x21 x22 x23 r21.1.1 r21.1.2.1 r21.1.2.2.1 r21.1.2.2.2.1 [] x23 0 r15.2.1 0 [] 0 0 [])))))))
 else
 ((spec_SegName.f k x0).bind fun r35 =>
 ((spec_Sync.f k r16.1 r35.1).bind fun r36 =>
 (bif (r36.2.1 != 0) then
 ((spec_l11Code.f k r36.2.1).bind fun r37 =>
 (some (((x18,(x16,())),(x17,(x19,(x20,(x21,()))))),(r36.1,r37))))
 else
 (L2 0 x6 x7 x8 x9 x10 x11 x12 x13 x14 x15 x16 x17 x18 x19 x20 x21 x22 x23 r36.1.1 r36.1.2.1 r36.1.2.2.1 r36.1.2.2.2.1 [] x23 0 r15.2.1 0 [] 0 0 []))))))))))
def l0 (k:Nat):Nat→T0
 | 0=>fun _ _ _ _ _ _ _ _ _ _ _ _ _ _ _ _ _ _ _ _ _ _ _ _=>none
 | n+1=>b0 k (l1 k k) (l2 k k) (l0 k n)
def t (k:Nat) (L0:T0) (a0:Ty.den TDisk):Rs :=
 ((spec_DiskOk.f k a0).bind fun r1 =>
 (bif (!r1.1) then
 ((spec_l3Copy.f k a0).bind fun r2 =>
 (some (((0,([],())),([],(0,(0,(0,()))))),(r2.1,(4,())))))
 else
 (bif a0.2.2.2.1 then
 ((spec_l3Copy.f k a0).bind fun r3 =>
 (some (((0,([],())),([],(0,(0,(0,()))))),(r3.1,(1,())))))
 else
 ((spec_FileText.f k a0 (⟨#[108,105,118,101]⟩:ByteArray)).bind fun r4 =>
 (bif (!r4.2.1) then
 ((spec_l11First_g.f k a0).bind fun r5 =>
 (some r5))
 else
 ((spec_ReadLive.f k r4.1).bind fun r6 =>
 (bif (!r6.2.1) then
 ((spec_l3Copy.f k a0).bind fun r7 =>
 (some (((0,([],())),([],(0,(0,(0,()))))),(r7.1,(3,())))))
 else
 (inb (w64 ((List.length r6.1.2.1:Int)-1)) (List.length r6.1.2.1:Int)
 (L0 (List.getD r6.1.2.1 (Int.toNat (w64 ((List.length r6.1.2.1:Int)-1))) (Ty.dflt (.int .i64))) 0 a0.1 a0.2.1 a0.2.2.1 a0.2.2.2.1 [] [] 0 0 0 0 [] 0 0 false [] [] 0 0 0 0 r6.1.2.1 r6.1.1)))))))))
def f (k:Nat):=t k (l0 k k)
end spec_Open_g
namespace spec_EngineNew_g
abbrev Rs:Type:=Option ((Ty.den TEngine) × Int × Unit)
def t (k:Nat) (a0:Ty.den TDisk):Rs :=
 ((spec_Open_g.f k a0).bind fun r1 =>
 (mks (Ty.bytes TTxn) 3
 (some (((r1.2.2.1==0),(r1.1,(r1.2.1,((List.replicate (Int.toNat 3) (Ty.dflt TTxn)),())))),r1.2.2))))
def f (k:Nat):=t k
end spec_EngineNew_g
namespace spec_l1Byte
abbrev Rs:Type:=Option ((Ty.den Tl1Cur) × Int × Unit)
def t (k:Nat) (a0:Ty.den Tl1Cur):Rs :=
 (bif (decide (a0.2.1<(List.length a0.1:Int))) then
 (inb a0.2.1 (List.length a0.1:Int)
 (some ((a0.1,((w64 (a0.2.1+1)),((w64 ((w64 (a0.2.2.1*6364136223846793005))+1442695040888963407)),()))),((w64 (((BitVec.ofInt (IntKind.bits .i64) (w64 ((w64 (((BitVec.ofInt (IntKind.bits .i64) (w64 (((BitVec.ofInt (IntKind.bits .i64) (Int.fdiv (w64 ((w64 (a0.2.2.1*6364136223846793005))+1442695040888963407)) (2 ^ (Int.toNat 33))) ^^^ BitVec.ofInt (IntKind.bits .i64) (Int.fdiv (w64 ((w64 (a0.2.2.1*6364136223846793005))+1442695040888963407)) (2 ^ (Int.toNat 45)))).toNat:Int))) &&& BitVec.ofInt (IntKind.bits .i64) 255).toNat:Int)))+(w64 (List.getD a0.1 (Int.toNat a0.2.1) (Ty.dflt (.int .u8)))))) &&& BitVec.ofInt (IntKind.bits .i64) 255).toNat:Int))),()))))
 else
 (some ((a0.1,(a0.2.1,((w64 ((w64 (a0.2.2.1*6364136223846793005))+1442695040888963407)),()))),((w64 (((BitVec.ofInt (IntKind.bits .i64) (w64 (((BitVec.ofInt (IntKind.bits .i64) (Int.fdiv (w64 ((w64 (a0.2.2.1*6364136223846793005))+1442695040888963407)) (2 ^ (Int.toNat 33))) ^^^ BitVec.ofInt (IntKind.bits .i64) (Int.fdiv (w64 ((w64 (a0.2.2.1*6364136223846793005))+1442695040888963407)) (2 ^ (Int.toNat 45)))).toNat:Int))) &&& BitVec.ofInt (IntKind.bits .i64) 255).toNat:Int))),()))))
def f (k:Nat):=t k
end spec_l1Byte
namespace spec_l1Below
abbrev Rs:Type:=Option ((Ty.den Tl1Cur) × Int × Unit)
def t (k:Nat) (a0:Ty.den Tl1Cur) (a1:Int):Rs :=
 (bif (decide (a1≤0)) then
 (some (a0,(0,())))
 else
 (bif (decide (a1≤256)) then
 ((spec_l1Byte.f k a0).bind fun r1 =>
 (bif (decide (a1=0)) then none else
 (some (r1.1,((Int.tmod r1.2.1 a1),())))))
 else
 ((spec_l1Byte.f k a0).bind fun r2 =>
 ((spec_l1Byte.f k r2.1).bind fun r3 =>
 ((spec_l1Byte.f k r3.1).bind fun r4 =>
 ((spec_l1Byte.f k r4.1).bind fun r5 =>
 (bif (decide (a1=0)) then none else
 (some (r5.1,((Int.tmod (w64 ((w64 ((w64 ((w64 (r2.2.1*16777216))+(w64 (r3.2.1*65536))))+(w64 (r4.2.1*256))))+r5.2.1)) a1),()))))))))))
def f (k:Nat):=t k
end spec_l1Below
namespace spec_l1PickInt
abbrev Rs:Type:=Option ((Ty.den Tl1Cur) × Int × Unit)
def t (k:Nat) (a0:Ty.den Tl1Cur) (a1:List Int):Rs :=
 ((spec_l1Below.f k a0 (List.length a1:Int)).bind fun r1 =>
 (inb r1.2.1 (List.length a1:Int)
 (some (r1.1,((List.getD a1 (Int.toNat r1.2.1) (Ty.dflt (.int .i64))),())))))
def f (k:Nat):=t k
end spec_l1PickInt
namespace spec_l1Pick
abbrev Rs:Type:=Option ((Ty.den Tl1Cur) × ByteArray × Unit)
def t (k:Nat) (a0:Ty.den Tl1Cur) (a1:List ByteArray):Rs :=
 ((spec_l1Below.f k a0 (List.length a1:Int)).bind fun r1 =>
 (inb r1.2.1 (List.length a1:Int)
 (some (r1.1,((List.getD a1 (Int.toNat r1.2.1) (Ty.dflt .str)),())))))
def f (k:Nat):=t k
end spec_l1Pick
namespace spec_l5Key
abbrev Rs:Type:=Option ((Ty.den Tl1Cur) × ByteArray × Unit)
def t (k:Nat) (a0:Ty.den Tl1Cur):Rs :=
 ((spec_l1Pick.f k a0 [(⟨#[97]⟩:ByteArray),(⟨#[98]⟩:ByteArray),(⟨#[99]⟩:ByteArray),(⟨#[107,101,121]⟩:ByteArray),(⟨#[108,111,110,103,110,97,109,101]⟩:ByteArray)]).bind fun r1 =>
 (some r1))
def f (k:Nat):=t k
end spec_l5Key
namespace spec_l1Text
abbrev Rs:Type:=Option ((Ty.den Tl1Cur) × ByteArray × Unit)
abbrev T0:Type:=Int→Int→List Int→Int→Int→List Int→Rs
def b0 (k:Nat) (L0:T0):T0:=fun x0 x1 x2 x3 x4 x5 =>
 (bif (decide (x1 > 0)) then
 ((spec_l1Byte.f k (x2,(x3,(x4,())))).bind fun r3 =>
 (bif (x0==1) then
 (bif (x0==2) then
 (rm (Ty.bytes (.int .u8)) (List.length x5+1)
 (L0 x0 (w64 (x1-1)) r3.1.1 r3.1.2.1 r3.1.2.2.1 (x5++[(IntKind.wrap .u8 (w64 (97+(Int.tmod (Int.tmod r3.2.1 2) 4))))])))
 else
 (rm (Ty.bytes (.int .u8)) (List.length x5+1)
 (L0 x0 (w64 (x1-1)) r3.1.1 r3.1.2.1 r3.1.2.2.1 (x5++[(IntKind.wrap .u8 (Int.tmod r3.2.1 2))]))))
 else
 (bif (x0==2) then
 (rm (Ty.bytes (.int .u8)) (List.length x5+1)
 (L0 x0 (w64 (x1-1)) r3.1.1 r3.1.2.1 r3.1.2.2.1 (x5++[(IntKind.wrap .u8 (w64 (97+(Int.tmod r3.2.1 4))))])))
 else
 (rm (Ty.bytes (.int .u8)) (List.length x5+1)
 (L0 x0 (w64 (x1-1)) r3.1.1 r3.1.2.1 r3.1.2.2.1 (x5++[(IntKind.wrap .u8 r3.2.1)]))))))
 else
 (some ((x2,(x3,(x4,()))),((bytesOf x5),()))))
def l0 (k:Nat):Nat→T0
 | 0=>fun _ _ _ _ _ _=>none
 | n+1=>b0 k (l0 k n)
def t (k:Nat) (L0:T0) (a0:Ty.den Tl1Cur) (a1:Int):Rs :=
 ((spec_l1Below.f k a0 4).bind fun r1 =>
 ((spec_l1Below.f k r1.1 (w64 (a1+1))).bind fun r2 =>
 (L0 r1.2.1 r2.2.1 r2.1.1 r2.1.2.1 r2.1.2.2.1 [])))
def f (k:Nat):=t k (l0 k k)
end spec_l1Text
namespace spec_l16Step
abbrev Rs:Type:=Option ((Ty.den Tl1Cur) × (Ty.den TStep) × Unit)
def t (k:Nat) (a0:Ty.den Tl1Cur):Rs :=
 ((spec_l1PickInt.f k a0 [1,2,2,3,3,3,4,5,5,6,7,8,1,5]).bind fun r1 =>
 ((spec_l1Below.f k r1.1 3).bind fun r2 =>
 (bif (r1.2.1==2) then
 (bif (r1.2.1==2) then
 ((spec_l5Key.f k r2.1).bind fun r3 =>
 ((spec_l1Below.f k r3.1 40).bind fun r4 =>
 (bif (r4.2.1==0) then
 (some (r4.1,((9,(0,(ByteArray.empty,(ByteArray.empty,(0,()))))),())))
 else
 (bif (r4.2.1==1) then
 (bif (r4.2.1==1) then
 (some (r4.1,((10,(0,(ByteArray.empty,(ByteArray.empty,(0,()))))),())))
 else
 (bif (r4.2.1==3) then
 ((spec_l1PickInt.f k r4.1 [(-1),3]).bind fun r5 =>
 (some (r5.1,((r1.2.1,(r5.2.1,(r3.2.1,(ByteArray.empty,(0,()))))),()))))
 else
 (bif (r4.2.1==4) then
 ((spec_l1Pick.f k r4.1 [(⟨#[]⟩:ByteArray),(⟨#[110,105,110,101,98,121,116,101,115]⟩:ByteArray)]).bind fun r6 =>
 (some (r6.1,((r1.2.1,(r2.2.1,(r6.2.1,(ByteArray.empty,(0,()))))),()))))
 else
 (bif (r4.2.1==5) then
 ((spec_l1PickInt.f k r4.1 [0,12]).bind fun r7 =>
 (some (r7.1,((r7.2.1,(r2.2.1,(r3.2.1,(ByteArray.empty,(0,()))))),()))))
 else
 (some (r4.1,((r1.2.1,(r2.2.1,(r3.2.1,(ByteArray.empty,(0,()))))),())))))))
 else
 (bif (r4.2.1==2) then
 (some (r4.1,((10,(0,(ByteArray.empty,(ByteArray.empty,(0,()))))),())))
 else
 (bif (r4.2.1==3) then
 ((spec_l1PickInt.f k r4.1 [(-1),3]).bind fun r8 =>
 (some (r8.1,((r1.2.1,(r8.2.1,(r3.2.1,(ByteArray.empty,(0,()))))),()))))
 else
 (bif (r4.2.1==4) then
 ((spec_l1Pick.f k r4.1 [(⟨#[]⟩:ByteArray),(⟨#[110,105,110,101,98,121,116,101,115]⟩:ByteArray)]).bind fun r9 =>
 (some (r9.1,((r1.2.1,(r2.2.1,(r9.2.1,(ByteArray.empty,(0,()))))),()))))
 else
 (bif (r4.2.1==5) then
 ((spec_l1PickInt.f k r4.1 [0,12]).bind fun r10 =>
 (some (r10.1,((r10.2.1,(r2.2.1,(r3.2.1,(ByteArray.empty,(0,()))))),()))))
 else
 (some (r4.1,((r1.2.1,(r2.2.1,(r3.2.1,(ByteArray.empty,(0,()))))),())))))))))))
 else
 (bif (r1.2.1==3) then
 ((spec_l5Key.f k r2.1).bind fun r11 =>
 ((spec_l1Text.f k r11.1 12).bind fun r12 =>
 ((spec_l1Below.f k r12.1 40).bind fun r13 =>
 (bif (r13.2.1==0) then
 (some (r13.1,((9,(0,(ByteArray.empty,(ByteArray.empty,(0,()))))),())))
 else
 (bif (r13.2.1==1) then
 (bif (r13.2.1==1) then
 (some (r13.1,((10,(0,(ByteArray.empty,(ByteArray.empty,(0,()))))),())))
 else
 (bif (r13.2.1==3) then
 ((spec_l1PickInt.f k r13.1 [(-1),3]).bind fun r14 =>
 (some (r14.1,((r1.2.1,(r14.2.1,(r11.2.1,(r12.2.1,(0,()))))),()))))
 else
 (bif (r13.2.1==4) then
 ((spec_l1Pick.f k r13.1 [(⟨#[]⟩:ByteArray),(⟨#[110,105,110,101,98,121,116,101,115]⟩:ByteArray)]).bind fun r15 =>
 (some (r15.1,((r1.2.1,(r2.2.1,(r15.2.1,(r12.2.1,(0,()))))),()))))
 else
 (bif (r13.2.1==5) then
 ((spec_l1PickInt.f k r13.1 [0,12]).bind fun r16 =>
 (some (r16.1,((r16.2.1,(r2.2.1,(r11.2.1,(r12.2.1,(0,()))))),()))))
 else
 (some (r13.1,((r1.2.1,(r2.2.1,(r11.2.1,(r12.2.1,(0,()))))),())))))))
 else
 (bif (r13.2.1==2) then
 (some (r13.1,((10,(0,(ByteArray.empty,(ByteArray.empty,(0,()))))),())))
 else
 (bif (r13.2.1==3) then
 ((spec_l1PickInt.f k r13.1 [(-1),3]).bind fun r17 =>
 (some (r17.1,((r1.2.1,(r17.2.1,(r11.2.1,(r12.2.1,(0,()))))),()))))
 else
 (bif (r13.2.1==4) then
 ((spec_l1Pick.f k r13.1 [(⟨#[]⟩:ByteArray),(⟨#[110,105,110,101,98,121,116,101,115]⟩:ByteArray)]).bind fun r18 =>
 (some (r18.1,((r1.2.1,(r2.2.1,(r18.2.1,(r12.2.1,(0,()))))),()))))
 else
 (bif (r13.2.1==5) then
 ((spec_l1PickInt.f k r13.1 [0,12]).bind fun r19 =>
 (some (r19.1,((r19.2.1,(r2.2.1,(r11.2.1,(r12.2.1,(0,()))))),()))))
 else
 (some (r13.1,((r1.2.1,(r2.2.1,(r11.2.1,(r12.2.1,(0,()))))),()))))))))))))
 else
 ((spec_l1Below.f k r2.1 40).bind fun r20 =>
 (bif (r20.2.1==0) then
 (some (r20.1,((9,(0,(ByteArray.empty,(ByteArray.empty,(0,()))))),())))
 else
 (bif (r20.2.1==1) then
 (bif (r20.2.1==1) then
 (some (r20.1,((10,(0,(ByteArray.empty,(ByteArray.empty,(0,()))))),())))
 else
 (bif (r20.2.1==3) then
 ((spec_l1PickInt.f k r20.1 [(-1),3]).bind fun r21 =>
 (some (r21.1,((r1.2.1,(r21.2.1,(ByteArray.empty,(ByteArray.empty,(0,()))))),()))))
 else
 (bif (r20.2.1==4) then
 ((spec_l1Pick.f k r20.1 [(⟨#[]⟩:ByteArray),(⟨#[110,105,110,101,98,121,116,101,115]⟩:ByteArray)]).bind fun r22 =>
 (some (r22.1,((r1.2.1,(r2.2.1,(r22.2.1,(ByteArray.empty,(0,()))))),()))))
 else
 (bif (r20.2.1==5) then
 ((spec_l1PickInt.f k r20.1 [0,12]).bind fun r23 =>
 (some (r23.1,((r23.2.1,(r2.2.1,(ByteArray.empty,(ByteArray.empty,(0,()))))),()))))
 else
 (some (r20.1,((r1.2.1,(r2.2.1,(ByteArray.empty,(ByteArray.empty,(0,()))))),())))))))
 else
 (bif (r20.2.1==2) then
 (some (r20.1,((10,(0,(ByteArray.empty,(ByteArray.empty,(0,()))))),())))
 else
 (bif (r20.2.1==3) then
 ((spec_l1PickInt.f k r20.1 [(-1),3]).bind fun r24 =>
 (some (r24.1,((r1.2.1,(r24.2.1,(ByteArray.empty,(ByteArray.empty,(0,()))))),()))))
 else
 (bif (r20.2.1==4) then
 ((spec_l1Pick.f k r20.1 [(⟨#[]⟩:ByteArray),(⟨#[110,105,110,101,98,121,116,101,115]⟩:ByteArray)]).bind fun r25 =>
 (some (r25.1,((r1.2.1,(r2.2.1,(r25.2.1,(ByteArray.empty,(0,()))))),()))))
 else
 (bif (r20.2.1==5) then
 ((spec_l1PickInt.f k r20.1 [0,12]).bind fun r26 =>
 (some (r26.1,((r26.2.1,(r2.2.1,(ByteArray.empty,(ByteArray.empty,(0,()))))),()))))
 else
 (some (r20.1,((r1.2.1,(r2.2.1,(ByteArray.empty,(ByteArray.empty,(0,()))))),()))))))))))))
 else
 (bif (r1.2.1==4) then
 ((spec_l5Key.f k r2.1).bind fun r27 =>
 ((spec_l1Below.f k r27.1 40).bind fun r28 =>
 (bif (r28.2.1==0) then
 (some (r28.1,((9,(0,(ByteArray.empty,(ByteArray.empty,(0,()))))),())))
 else
 (bif (r28.2.1==1) then
 (bif (r28.2.1==1) then
 (some (r28.1,((10,(0,(ByteArray.empty,(ByteArray.empty,(0,()))))),())))
 else
 (bif (r28.2.1==3) then
 ((spec_l1PickInt.f k r28.1 [(-1),3]).bind fun r29 =>
 (some (r29.1,((r1.2.1,(r29.2.1,(r27.2.1,(ByteArray.empty,(0,()))))),()))))
 else
 (bif (r28.2.1==4) then
 ((spec_l1Pick.f k r28.1 [(⟨#[]⟩:ByteArray),(⟨#[110,105,110,101,98,121,116,101,115]⟩:ByteArray)]).bind fun r30 =>
 (some (r30.1,((r1.2.1,(r2.2.1,(r30.2.1,(ByteArray.empty,(0,()))))),()))))
 else
 (bif (r28.2.1==5) then
 ((spec_l1PickInt.f k r28.1 [0,12]).bind fun r31 =>
 (some (r31.1,((r31.2.1,(r2.2.1,(r27.2.1,(ByteArray.empty,(0,()))))),()))))
 else
 (some (r28.1,((r1.2.1,(r2.2.1,(r27.2.1,(ByteArray.empty,(0,()))))),())))))))
 else
 (bif (r28.2.1==2) then
 (some (r28.1,((10,(0,(ByteArray.empty,(ByteArray.empty,(0,()))))),())))
 else
 (bif (r28.2.1==3) then
 ((spec_l1PickInt.f k r28.1 [(-1),3]).bind fun r32 =>
 (some (r32.1,((r1.2.1,(r32.2.1,(r27.2.1,(ByteArray.empty,(0,()))))),()))))
 else
 (bif (r28.2.1==4) then
 ((spec_l1Pick.f k r28.1 [(⟨#[]⟩:ByteArray),(⟨#[110,105,110,101,98,121,116,101,115]⟩:ByteArray)]).bind fun r33 =>
 (some (r33.1,((r1.2.1,(r2.2.1,(r33.2.1,(ByteArray.empty,(0,()))))),()))))
 else
 (bif (r28.2.1==5) then
 ((spec_l1PickInt.f k r28.1 [0,12]).bind fun r34 =>
 (some (r34.1,((r34.2.1,(r2.2.1,(r27.2.1,(ByteArray.empty,(0,()))))),()))))
 else
 (some (r28.1,((r1.2.1,(r2.2.1,(r27.2.1,(ByteArray.empty,(0,()))))),())))))))))))
 else
 (bif (r1.2.1==3) then
 ((spec_l5Key.f k r2.1).bind fun r35 =>
 ((spec_l1Text.f k r35.1 12).bind fun r36 =>
 ((spec_l1Below.f k r36.1 40).bind fun r37 =>
 (bif (r37.2.1==0) then
 (some (r37.1,((9,(0,(ByteArray.empty,(ByteArray.empty,(0,()))))),())))
 else
 (bif (r37.2.1==1) then
 (bif (r37.2.1==1) then
 (some (r37.1,((10,(0,(ByteArray.empty,(ByteArray.empty,(0,()))))),())))
 else
 (bif (r37.2.1==3) then
 ((spec_l1PickInt.f k r37.1 [(-1),3]).bind fun r38 =>
 (some (r38.1,((r1.2.1,(r38.2.1,(r35.2.1,(r36.2.1,(0,()))))),()))))
 else
 (bif (r37.2.1==4) then
 ((spec_l1Pick.f k r37.1 [(⟨#[]⟩:ByteArray),(⟨#[110,105,110,101,98,121,116,101,115]⟩:ByteArray)]).bind fun r39 =>
 (some (r39.1,((r1.2.1,(r2.2.1,(r39.2.1,(r36.2.1,(0,()))))),()))))
 else
 (bif (r37.2.1==5) then
 ((spec_l1PickInt.f k r37.1 [0,12]).bind fun r40 =>
 (some (r40.1,((r40.2.1,(r2.2.1,(r35.2.1,(r36.2.1,(0,()))))),()))))
 else
 (some (r37.1,((r1.2.1,(r2.2.1,(r35.2.1,(r36.2.1,(0,()))))),())))))))
 else
 (bif (r37.2.1==2) then
 (some (r37.1,((10,(0,(ByteArray.empty,(ByteArray.empty,(0,()))))),())))
 else
 (bif (r37.2.1==3) then
 ((spec_l1PickInt.f k r37.1 [(-1),3]).bind fun r41 =>
 (some (r41.1,((r1.2.1,(r41.2.1,(r35.2.1,(r36.2.1,(0,()))))),()))))
 else
 (bif (r37.2.1==4) then
 ((spec_l1Pick.f k r37.1 [(⟨#[]⟩:ByteArray),(⟨#[110,105,110,101,98,121,116,101,115]⟩:ByteArray)]).bind fun r42 =>
 (some (r42.1,((r1.2.1,(r2.2.1,(r42.2.1,(r36.2.1,(0,()))))),()))))
 else
 (bif (r37.2.1==5) then
 ((spec_l1PickInt.f k r37.1 [0,12]).bind fun r43 =>
 (some (r43.1,((r43.2.1,(r2.2.1,(r35.2.1,(r36.2.1,(0,()))))),()))))
 else
 (some (r37.1,((r1.2.1,(r2.2.1,(r35.2.1,(r36.2.1,(0,()))))),()))))))))))))
 else
 ((spec_l1Below.f k r2.1 40).bind fun r44 =>
 (bif (r44.2.1==0) then
 (some (r44.1,((9,(0,(ByteArray.empty,(ByteArray.empty,(0,()))))),())))
 else
 (bif (r44.2.1==1) then
 (bif (r44.2.1==1) then
 (some (r44.1,((10,(0,(ByteArray.empty,(ByteArray.empty,(0,()))))),())))
 else
 (bif (r44.2.1==3) then
 ((spec_l1PickInt.f k r44.1 [(-1),3]).bind fun r45 =>
 (some (r45.1,((r1.2.1,(r45.2.1,(ByteArray.empty,(ByteArray.empty,(0,()))))),()))))
 else
 (bif (r44.2.1==4) then
 ((spec_l1Pick.f k r44.1 [(⟨#[]⟩:ByteArray),(⟨#[110,105,110,101,98,121,116,101,115]⟩:ByteArray)]).bind fun r46 =>
 (some (r46.1,((r1.2.1,(r2.2.1,(r46.2.1,(ByteArray.empty,(0,()))))),()))))
 else
 (bif (r44.2.1==5) then
 ((spec_l1PickInt.f k r44.1 [0,12]).bind fun r47 =>
 (some (r47.1,((r47.2.1,(r2.2.1,(ByteArray.empty,(ByteArray.empty,(0,()))))),()))))
 else
 (some (r44.1,((r1.2.1,(r2.2.1,(ByteArray.empty,(ByteArray.empty,(0,()))))),())))))))
 else
 (bif (r44.2.1==2) then
 (some (r44.1,((10,(0,(ByteArray.empty,(ByteArray.empty,(0,()))))),())))
 else
 (bif (r44.2.1==3) then
 ((spec_l1PickInt.f k r44.1 [(-1),3]).bind fun r48 =>
 (some (r48.1,((r1.2.1,(r48.2.1,(ByteArray.empty,(ByteArray.empty,(0,()))))),()))))
 else
 (bif (r44.2.1==4) then
 ((spec_l1Pick.f k r44.1 [(⟨#[]⟩:ByteArray),(⟨#[110,105,110,101,98,121,116,101,115]⟩:ByteArray)]).bind fun r49 =>
 (some (r49.1,((r1.2.1,(r2.2.1,(r49.2.1,(ByteArray.empty,(0,()))))),()))))
 else
 (bif (r44.2.1==5) then
 ((spec_l1PickInt.f k r44.1 [0,12]).bind fun r50 =>
 (some (r50.1,((r50.2.1,(r2.2.1,(ByteArray.empty,(ByteArray.empty,(0,()))))),()))))
 else
 (some (r44.1,((r1.2.1,(r2.2.1,(ByteArray.empty,(ByteArray.empty,(0,()))))),())))))))))))))))
def f (k:Nat):=t k
end spec_l16Step
namespace spec_l1Once
abbrev Rs:Type:=Option ((Ty.den Tl1Cur) × Bool × Unit)
def t (k:Nat) (a0:Ty.den Tl1Cur) (a1:Int):Rs :=
 ((spec_l1Below.f k a0 a1).bind fun r1 =>
 (some (r1.1,((r1.2.1==0),()))))
def f (k:Nat):=t k
end spec_l1Once
namespace spec_l16Steps
abbrev Rs:Type:=Option ((Ty.den Tl1Cur) × (List (Ty.den TStep)) × Unit)
abbrev T0:Type:=Int→List Int→Int→Int→List (Ty.den TStep)→List Bool→Rs
def b0 (k:Nat) (L0:T0):T0:=fun x0 x1 x2 x3 x4 x5 =>
 (bif (decide (x0 > 0)) then
 ((spec_l16Step.f k (x1,(x2,(x3,())))).bind fun r2 =>
 (bif (decide (r2.2.1.1≤6)) then
 ((spec_l1In.f k r2.2.1.2.1 0 2).bind fun r3 =>
 (bif r3.1 then
 (inb r2.2.1.2.1 (x5.length:Int)
 (bif (!(List.getD x5 (Int.toNat r2.2.1.2.1) (Ty.dflt .bool))) then
 ((spec_l1Once.f k r2.1 8).bind fun r4 =>
 (bif (!r4.2.1) then
 (inb r2.2.1.2.1 (x5.length:Int)
 (bif (List.getD x5 (Int.toNat r2.2.1.2.1) (Ty.dflt .bool)) then
 ((spec_l1Once.f k r4.1 8).bind fun r5 =>
 (bif (!r5.2.1) then
 (inb r2.2.1.2.1 (x5.length:Int)
 (let l6:=(List.set x5 (Int.toNat r2.2.1.2.1) false);
 (rm (Ty.bytes TStep) (List.length x4+1)
 (L0 (w64 (x0-1)) r5.1.1 r5.1.2.1 r5.1.2.2.1 (x4++[(5,(r2.2.1.2.1,(ByteArray.empty,(ByteArray.empty,(0,())))))]) l6))))
 else
 (inb r2.2.1.2.1 (x5.length:Int)
 (let l7:=(List.set x5 (Int.toNat r2.2.1.2.1) true);
 (rm (Ty.bytes TStep) (List.length x4+1)
 (L0 (w64 (x0-1)) r5.1.1 r5.1.2.1 r5.1.2.2.1 (x4++[(1,(r2.2.1.2.1,(ByteArray.empty,(ByteArray.empty,(0,())))))]) l7))))))
 else
 (inb r2.2.1.2.1 (x5.length:Int)
 (let l8:=(List.set x5 (Int.toNat r2.2.1.2.1) true);
 (rm (Ty.bytes TStep) (List.length x4+1)
 (L0 (w64 (x0-1)) r4.1.1 r4.1.2.1 r4.1.2.2.1 (x4++[(1,(r2.2.1.2.1,(ByteArray.empty,(ByteArray.empty,(0,())))))]) l8))))))
 else
 (inb r2.2.1.2.1 (x5.length:Int)
 (bif (List.getD x5 (Int.toNat r2.2.1.2.1) (Ty.dflt .bool)) then
 (bif (r2.2.1.1==1) then
 ((spec_l1Once.f k r4.1 8).bind fun r9 =>
 (bif (!r9.2.1) then
 (inb r2.2.1.2.1 (x5.length:Int)
 (let l10:=(List.set x5 (Int.toNat r2.2.1.2.1) false);
 (rm (Ty.bytes TStep) (List.length x4+1)
 (L0 (w64 (x0-1)) r9.1.1 r9.1.2.1 r9.1.2.2.1 (x4++[(5,r2.2.1.2)]) l10))))
 else
 (bif (r2.2.1.1 != 5) then
 (inb r2.2.1.2.1 (x5.length:Int)
 (let l11:=(List.set x5 (Int.toNat r2.2.1.2.1) (r2.2.1.1 != 6));
 (bif (r2.2.1.1==9) then
 (mks (Ty.bytes .bool) 3
 (rm (Ty.bytes TStep) (List.length x4+1)
 (rm (Ty.bytes TStep) (List.length (x4++[r2.2.1])+1)
 (L0 (w64 (x0-1)) r9.1.1 r9.1.2.1 r9.1.2.2.1 ((x4++[r2.2.1])++[(10,(0,(ByteArray.empty,(ByteArray.empty,(0,())))))]) (List.replicate (Int.toNat 3) (Ty.dflt .bool))))))
 else
 (rm (Ty.bytes TStep) (List.length x4+1)
 (L0 (w64 (x0-1)) r9.1.1 r9.1.2.1 r9.1.2.2.1 (x4++[r2.2.1]) l11)))))
 else
 (inb r2.2.1.2.1 (x5.length:Int)
 (let l12:=(List.set x5 (Int.toNat r2.2.1.2.1) false);
 (bif (r2.2.1.1==9) then
 (mks (Ty.bytes .bool) 3
 (rm (Ty.bytes TStep) (List.length x4+1)
 (rm (Ty.bytes TStep) (List.length (x4++[r2.2.1])+1)
 (L0 (w64 (x0-1)) r9.1.1 r9.1.2.1 r9.1.2.2.1 ((x4++[r2.2.1])++[(10,(0,(ByteArray.empty,(ByteArray.empty,(0,())))))]) (List.replicate (Int.toNat 3) (Ty.dflt .bool))))))
 else
 (rm (Ty.bytes TStep) (List.length x4+1)
 (L0 (w64 (x0-1)) r9.1.1 r9.1.2.1 r9.1.2.2.1 (x4++[r2.2.1]) l12))))))))
 else
 (bif (r2.2.1.1 != 5) then
 (inb r2.2.1.2.1 (x5.length:Int)
 (let l13:=(List.set x5 (Int.toNat r2.2.1.2.1) (r2.2.1.1 != 6));
 (bif (r2.2.1.1==9) then
 (mks (Ty.bytes .bool) 3
 (rm (Ty.bytes TStep) (List.length x4+1)
 (rm (Ty.bytes TStep) (List.length (x4++[r2.2.1])+1)
 (L0 (w64 (x0-1)) r4.1.1 r4.1.2.1 r4.1.2.2.1 ((x4++[r2.2.1])++[(10,(0,(ByteArray.empty,(ByteArray.empty,(0,())))))]) (List.replicate (Int.toNat 3) (Ty.dflt .bool))))))
 else
 (rm (Ty.bytes TStep) (List.length x4+1)
 (L0 (w64 (x0-1)) r4.1.1 r4.1.2.1 r4.1.2.2.1 (x4++[r2.2.1]) l13)))))
 else
 (inb r2.2.1.2.1 (x5.length:Int)
 (let l14:=(List.set x5 (Int.toNat r2.2.1.2.1) false);
 (bif (r2.2.1.1==9) then
 (mks (Ty.bytes .bool) 3
 (rm (Ty.bytes TStep) (List.length x4+1)
 (rm (Ty.bytes TStep) (List.length (x4++[r2.2.1])+1)
 (L0 (w64 (x0-1)) r4.1.1 r4.1.2.1 r4.1.2.2.1 ((x4++[r2.2.1])++[(10,(0,(ByteArray.empty,(ByteArray.empty,(0,())))))]) (List.replicate (Int.toNat 3) (Ty.dflt .bool))))))
 else
 (rm (Ty.bytes TStep) (List.length x4+1)
 (L0 (w64 (x0-1)) r4.1.1 r4.1.2.1 r4.1.2.2.1 (x4++[r2.2.1]) l14)))))))
 else
 (bif (r2.2.1.1 != 5) then
 (inb r2.2.1.2.1 (x5.length:Int)
 (let l15:=(List.set x5 (Int.toNat r2.2.1.2.1) (r2.2.1.1 != 6));
 (bif (r2.2.1.1==9) then
 (mks (Ty.bytes .bool) 3
 (rm (Ty.bytes TStep) (List.length x4+1)
 (rm (Ty.bytes TStep) (List.length (x4++[r2.2.1])+1)
 (L0 (w64 (x0-1)) r4.1.1 r4.1.2.1 r4.1.2.2.1 ((x4++[r2.2.1])++[(10,(0,(ByteArray.empty,(ByteArray.empty,(0,())))))]) (List.replicate (Int.toNat 3) (Ty.dflt .bool))))))
 else
 (rm (Ty.bytes TStep) (List.length x4+1)
 (L0 (w64 (x0-1)) r4.1.1 r4.1.2.1 r4.1.2.2.1 (x4++[r2.2.1]) l15)))))
 else
 (inb r2.2.1.2.1 (x5.length:Int)
 (let l16:=(List.set x5 (Int.toNat r2.2.1.2.1) false);
 (bif (r2.2.1.1==9) then
 (mks (Ty.bytes .bool) 3
 (rm (Ty.bytes TStep) (List.length x4+1)
 (rm (Ty.bytes TStep) (List.length (x4++[r2.2.1])+1)
 (L0 (w64 (x0-1)) r4.1.1 r4.1.2.1 r4.1.2.2.1 ((x4++[r2.2.1])++[(10,(0,(ByteArray.empty,(ByteArray.empty,(0,())))))]) (List.replicate (Int.toNat 3) (Ty.dflt .bool))))))
 else
 (rm (Ty.bytes TStep) (List.length x4+1)
 (L0 (w64 (x0-1)) r4.1.1 r4.1.2.1 r4.1.2.2.1 (x4++[r2.2.1]) l16))))))))))
 else
 (inb r2.2.1.2.1 (x5.length:Int)
 (bif (List.getD x5 (Int.toNat r2.2.1.2.1) (Ty.dflt .bool)) then
 (bif (r2.2.1.1==1) then
 ((spec_l1Once.f k r2.1 8).bind fun r17 =>
 (bif (!r17.2.1) then
 (inb r2.2.1.2.1 (x5.length:Int)
 (let l18:=(List.set x5 (Int.toNat r2.2.1.2.1) false);
 (rm (Ty.bytes TStep) (List.length x4+1)
 (L0 (w64 (x0-1)) r17.1.1 r17.1.2.1 r17.1.2.2.1 (x4++[(5,r2.2.1.2)]) l18))))
 else
 (bif (r2.2.1.1 != 5) then
 (inb r2.2.1.2.1 (x5.length:Int)
 (let l19:=(List.set x5 (Int.toNat r2.2.1.2.1) (r2.2.1.1 != 6));
 (bif (r2.2.1.1==9) then
 (mks (Ty.bytes .bool) 3
 (rm (Ty.bytes TStep) (List.length x4+1)
 (rm (Ty.bytes TStep) (List.length (x4++[r2.2.1])+1)
 (L0 (w64 (x0-1)) r17.1.1 r17.1.2.1 r17.1.2.2.1 ((x4++[r2.2.1])++[(10,(0,(ByteArray.empty,(ByteArray.empty,(0,())))))]) (List.replicate (Int.toNat 3) (Ty.dflt .bool))))))
 else
 (rm (Ty.bytes TStep) (List.length x4+1)
 (L0 (w64 (x0-1)) r17.1.1 r17.1.2.1 r17.1.2.2.1 (x4++[r2.2.1]) l19)))))
 else
 (inb r2.2.1.2.1 (x5.length:Int)
 (let l20:=(List.set x5 (Int.toNat r2.2.1.2.1) false);
 (bif (r2.2.1.1==9) then
 (mks (Ty.bytes .bool) 3
 (rm (Ty.bytes TStep) (List.length x4+1)
 (rm (Ty.bytes TStep) (List.length (x4++[r2.2.1])+1)
 (L0 (w64 (x0-1)) r17.1.1 r17.1.2.1 r17.1.2.2.1 ((x4++[r2.2.1])++[(10,(0,(ByteArray.empty,(ByteArray.empty,(0,())))))]) (List.replicate (Int.toNat 3) (Ty.dflt .bool))))))
 else
 (rm (Ty.bytes TStep) (List.length x4+1)
 (L0 (w64 (x0-1)) r17.1.1 r17.1.2.1 r17.1.2.2.1 (x4++[r2.2.1]) l20))))))))
 else
 (bif (r2.2.1.1 != 5) then
 (inb r2.2.1.2.1 (x5.length:Int)
 (let l21:=(List.set x5 (Int.toNat r2.2.1.2.1) (r2.2.1.1 != 6));
 (bif (r2.2.1.1==9) then
 (mks (Ty.bytes .bool) 3
 (rm (Ty.bytes TStep) (List.length x4+1)
 (rm (Ty.bytes TStep) (List.length (x4++[r2.2.1])+1)
 (L0 (w64 (x0-1)) r2.1.1 r2.1.2.1 r2.1.2.2.1 ((x4++[r2.2.1])++[(10,(0,(ByteArray.empty,(ByteArray.empty,(0,())))))]) (List.replicate (Int.toNat 3) (Ty.dflt .bool))))))
 else
 (rm (Ty.bytes TStep) (List.length x4+1)
 (L0 (w64 (x0-1)) r2.1.1 r2.1.2.1 r2.1.2.2.1 (x4++[r2.2.1]) l21)))))
 else
 (inb r2.2.1.2.1 (x5.length:Int)
 (let l22:=(List.set x5 (Int.toNat r2.2.1.2.1) false);
 (bif (r2.2.1.1==9) then
 (mks (Ty.bytes .bool) 3
 (rm (Ty.bytes TStep) (List.length x4+1)
 (rm (Ty.bytes TStep) (List.length (x4++[r2.2.1])+1)
 (L0 (w64 (x0-1)) r2.1.1 r2.1.2.1 r2.1.2.2.1 ((x4++[r2.2.1])++[(10,(0,(ByteArray.empty,(ByteArray.empty,(0,())))))]) (List.replicate (Int.toNat 3) (Ty.dflt .bool))))))
 else
 (rm (Ty.bytes TStep) (List.length x4+1)
 (L0 (w64 (x0-1)) r2.1.1 r2.1.2.1 r2.1.2.2.1 (x4++[r2.2.1]) l22)))))))
 else
 (bif (r2.2.1.1 != 5) then
 (inb r2.2.1.2.1 (x5.length:Int)
 (let l23:=(List.set x5 (Int.toNat r2.2.1.2.1) (r2.2.1.1 != 6));
 (bif (r2.2.1.1==9) then
 (mks (Ty.bytes .bool) 3
 (rm (Ty.bytes TStep) (List.length x4+1)
 (rm (Ty.bytes TStep) (List.length (x4++[r2.2.1])+1)
 (L0 (w64 (x0-1)) r2.1.1 r2.1.2.1 r2.1.2.2.1 ((x4++[r2.2.1])++[(10,(0,(ByteArray.empty,(ByteArray.empty,(0,())))))]) (List.replicate (Int.toNat 3) (Ty.dflt .bool))))))
 else
 (rm (Ty.bytes TStep) (List.length x4+1)
 (L0 (w64 (x0-1)) r2.1.1 r2.1.2.1 r2.1.2.2.1 (x4++[r2.2.1]) l23)))))
 else
 (inb r2.2.1.2.1 (x5.length:Int)
 (let l24:=(List.set x5 (Int.toNat r2.2.1.2.1) false);
 (bif (r2.2.1.1==9) then
 (mks (Ty.bytes .bool) 3
 (rm (Ty.bytes TStep) (List.length x4+1)
 (rm (Ty.bytes TStep) (List.length (x4++[r2.2.1])+1)
 (L0 (w64 (x0-1)) r2.1.1 r2.1.2.1 r2.1.2.2.1 ((x4++[r2.2.1])++[(10,(0,(ByteArray.empty,(ByteArray.empty,(0,())))))]) (List.replicate (Int.toNat 3) (Ty.dflt .bool))))))
 else
 (rm (Ty.bytes TStep) (List.length x4+1)
 (L0 (w64 (x0-1)) r2.1.1 r2.1.2.1 r2.1.2.2.1 (x4++[r2.2.1]) l24))))))))))
 else
 (bif (r2.2.1.1==9) then
 (mks (Ty.bytes .bool) 3
 (rm (Ty.bytes TStep) (List.length x4+1)
 (rm (Ty.bytes TStep) (List.length (x4++[r2.2.1])+1)
 (L0 (w64 (x0-1)) r2.1.1 r2.1.2.1 r2.1.2.2.1 ((x4++[r2.2.1])++[(10,(0,(ByteArray.empty,(ByteArray.empty,(0,())))))]) (List.replicate (Int.toNat 3) (Ty.dflt .bool))))))
 else
 (rm (Ty.bytes TStep) (List.length x4+1)
 (L0 (w64 (x0-1)) r2.1.1 r2.1.2.1 r2.1.2.2.1 (x4++[r2.2.1]) x5)))))
 else
 (bif (r2.2.1.1==9) then
 (mks (Ty.bytes .bool) 3
 (rm (Ty.bytes TStep) (List.length x4+1)
 (rm (Ty.bytes TStep) (List.length (x4++[r2.2.1])+1)
 (L0 (w64 (x0-1)) r2.1.1 r2.1.2.1 r2.1.2.2.1 ((x4++[r2.2.1])++[(10,(0,(ByteArray.empty,(ByteArray.empty,(0,())))))]) (List.replicate (Int.toNat 3) (Ty.dflt .bool))))))
 else
 (rm (Ty.bytes TStep) (List.length x4+1)
 (L0 (w64 (x0-1)) r2.1.1 r2.1.2.1 r2.1.2.2.1 (x4++[r2.2.1]) x5)))))
 else
 (some ((x1,(x2,(x3,()))),(x4,()))))
def l0 (k:Nat):Nat→T0
 | 0=>fun _ _ _ _ _ _=>none
 | n+1=>b0 k (l0 k n)
def t (k:Nat) (L0:T0) (a0:Ty.den Tl1Cur) (a1:Int):Rs :=
 (mks (Ty.bytes .bool) 3
 ((spec_l1Below.f k a0 (w64 (a1+1))).bind fun r1 =>
 (L0 r1.2.1 r1.1.1 r1.1.2.1 r1.1.2.2.1 [] (List.replicate (Int.toNat 3) (Ty.dflt .bool)))))
def f (k:Nat):=t k (l0 k k)
end spec_l16Steps
namespace spec_l18Script
abbrev Rs:Type:=Option ((Ty.den Tl1Cur) × (Ty.den TScript) × Unit)
def t (k:Nat) (a0:Ty.den Tl1Cur) (a1:Int):Rs :=
 ((spec_l16Steps.f k a0 a1).bind fun r1 =>
 ((spec_l1Below.f k r1.1 6).bind fun r2 =>
 (bif (r2.2.1==0) then
 ((spec_l1Below.f k r2.1 300).bind fun r3 =>
 (some (r3.1,(((w64 (100+r3.2.1)),((-1),r1.2)),()))))
 else
 (bif (r2.2.1==1) then
 ((spec_l1Below.f k r2.1 (w64 ((List.length r1.2.1:Int)+1))).bind fun r4 =>
 (inc r4.2.1 (List.length r1.2.1:Int)
 (rm (Ty.bytes TStep) (0+List.length (List.take (Int.toNat r4.2.1) r1.2.1))
 ((spec_l1Below.f k r4.1 120).bind fun r5 =>
 (rm (Ty.bytes TStep) (List.length ([]++(List.take (Int.toNat r4.2.1) r1.2.1))+1)
 (inc r4.2.1 (List.length r1.2.1:Int)
 (rm (Ty.bytes TStep) (List.length (([]++(List.take (Int.toNat r4.2.1) r1.2.1))++[(11,(0,(ByteArray.empty,(ByteArray.empty,r5.2))))])+List.length (List.drop (Int.toNat r4.2.1) r1.2.1))
 (some (r5.1,((100000,((-1),(((([]++(List.take (Int.toNat r4.2.1) r1.2.1))++[(11,(0,(ByteArray.empty,(ByteArray.empty,r5.2))))])++(List.drop (Int.toNat r4.2.1) r1.2.1)),()))),()))))))))))
 else
 (some (r2.1,((100000,((-1),r1.2)),())))))))
def f (k:Nat):=t k
end spec_l18Script
namespace spec_l12Copy
abbrev Rs:Type:=Option ((Ty.den TStore) × Unit)
def t (k:Nat) (a0:Ty.den TStore):Rs :=
 (rm (Ty.bytes (.int .i64)) (0+List.length a0.1.2.1)
 (rm (Ty.bytes TEntry) (0+List.length a0.2.1)
 (some (((a0.1.1,(([]++a0.1.2.1),())),(([]++a0.2.1),a0.2.2)),()))))
def f (k:Nat):=t k
end spec_l12Copy
namespace spec_l15Copy
abbrev Rs:Type:=Option ((Ty.den TTxn) × Unit)
def t (k:Nat) (a0:Ty.den TTxn):Rs :=
 (rm (Ty.bytes TReadRow) (0+List.length a0.2.1)
 (rm (Ty.bytes TPut) (0+List.length a0.2.2.1)
 (some ((a0.1,(([]++a0.2.1),(([]++a0.2.2.1),()))),()))))
def f (k:Nat):=t k
end spec_l15Copy
namespace spec_l16Copy
abbrev Rs:Type:=Option ((Ty.den TEngine) × Unit)
abbrev T0:Type:=Int→List Int→List (Ty.den TEntry)→List (Ty.den TPair)→Bool→Int→Int→Int→Int→Int→Int→Bool→List (Ty.den TTxn)→List Int→List (Ty.den TEntry)→List (Ty.den TPair)→List (Ty.den TTxn)→Bool→Int→Int→Int→Int→Int→Int→Bool→List (Ty.den TTxn)→Rs
def b0 (k:Nat) (L0:T0):T0:=fun x0 x1 x2 x3 x4 x5 x6 x7 x8 x9 x10 x11 x12 x13 x14 x15 x16 x17 x18 x19 x20 x21 x22 x23 x24 x25 =>
 (bif (decide (x0<(x12.length:Int))) then
 (inb x0 (x12.length:Int)
 ((spec_l15Copy.f k (List.getD x12 (Int.toNat x0) (Ty.dflt TTxn))).bind fun r3 =>
 (rm (Ty.bytes TTxn) (List.length x25+1)
 (L0 (w64 (x0+1)) x1 x2 x3 x4 x5 x6 x7 x8 x9 x10 x11 x12 x13 x14 x15 x16 x17 x18 x19 x20 x21 x22 x23 x24 (x25++[r3.1])))))
 else
 (some ((x4,(((x5,(x1,())),(x2,(x6,(x7,(x8,()))))),((x3,(x9,(x10,(x11,())))),(x25,())))),())))
def l0 (k:Nat):Nat→T0
 | 0=>fun _ _ _ _ _ _ _ _ _ _ _ _ _ _ _ _ _ _ _ _ _ _ _ _ _ _=>none
 | n+1=>b0 k (l0 k n)
def t (k:Nat) (L0:T0) (a0:Ty.den TEngine):Rs :=
 ((spec_l12Copy.f k a0.2.1).bind fun r1 =>
 ((spec_l3Copy.f k a0.2.2.1).bind fun r2 =>
 (L0 0 r1.1.1.2.1 r1.1.2.1 r2.1.1 a0.1 r1.1.1.1 r1.1.2.2.1 r1.1.2.2.2.1 r1.1.2.2.2.2.1 r2.1.2.1 r2.1.2.2.1 r2.1.2.2.2.1 a0.2.2.2.1 [] [] [] [] false 0 0 0 0 0 0 false [])))
def f (k:Nat):=t k (l0 k k)
end spec_l16Copy
namespace spec_OwnWrite
abbrev Rs:Type:=Option ((Ty.den TPut) × Bool × Unit)
abbrev T0:Type:=ByteArray→Int→Bool→List (Ty.den TReadRow)→List (Ty.den TPut)→ByteArray→Bool→ByteArray→Rs
def b0 (k:Nat) (L0:T0):T0:=fun x0 x1 x2 x3 x4 x5 x6 x7 =>
 (bif (decide (x1≥0)) then
 (inb x1 (x4.length:Int)
 (bif (seq (List.getD x4 (Int.toNat x1) (Ty.dflt TPut)).1 x0) then
 (inb x1 (x4.length:Int)
 (some ((List.getD x4 (Int.toNat x1) (Ty.dflt TPut)),(true,()))))
 else
 (L0 x0 (w64 (x1-1)) x2 x3 x4 x5 x6 x7)))
 else
 (some ((ByteArray.empty,(false,(ByteArray.empty,()))),(false,()))))
def l0 (k:Nat):Nat→T0
 | 0=>fun _ _ _ _ _ _ _ _=>none
 | n+1=>b0 k (l0 k n)
def t (k:Nat) (L0:T0) (a0:Ty.den TTxn) (a1:ByteArray):Rs :=
 (L0 a1 (w64 ((List.length a0.2.2.1:Int)-1)) a0.1 a0.2.1 a0.2.2.1 ByteArray.empty false ByteArray.empty)
def f (k:Nat):=t k (l0 k k)
end spec_OwnWrite
namespace spec_NetWrites
abbrev Rs:Type:=Option ((List (Ty.den TPut)) × Unit)
abbrev T1:Type:=Int→Bool→Int→Bool→List (Ty.den TReadRow)→List (Ty.den TPut)→List (Ty.den TPut)→Rs
abbrev T0:Type:=Int→Bool→List (Ty.den TReadRow)→List (Ty.den TPut)→List (Ty.den TPut)→Rs
def b1 (k:Nat) (L0:T0) (L1:T1):T1:=fun x0 x1 x2 x3 x4 x5 x6 =>
 (bif (decide (x2<x0)) then
 (bif x1 then
 (inb x2 (x5.length:Int)
 (inb x0 (x5.length:Int)
 (L1 x0 (!(seq (List.getD x5 (Int.toNat x2) (Ty.dflt TPut)).1 (List.getD x5 (Int.toNat x0) (Ty.dflt TPut)).1)) (w64 (x2+1)) x3 x4 x5 x6)))
 else
 (L1 x0 false (w64 (x2+1)) x3 x4 x5 x6))
 else
 (bif x1 then
 (inb x0 (x5.length:Int)
 ((spec_OwnWrite.f k (x3,(x4,(x5,()))) (List.getD x5 (Int.toNat x0) (Ty.dflt TPut)).1).bind fun r1 =>
 (rm (Ty.bytes TPut) (List.length x6+1)
 (L0 (w64 (x0+1)) x3 x4 x5 (x6++[r1.1])))))
 else
 (L0 (w64 (x0+1)) x3 x4 x5 x6)))
def l1 (k:Nat) (L0:T0):Nat→T1
 | 0=>fun _ _ _ _ _ _ _=>none
 | n+1=>b1 k L0 (l1 k L0 n)
def b0 (k:Nat) (L1:T1) (L0:T0):T0:=fun x0 x1 x2 x3 x4 =>
 (bif (decide (x0<(x3.length:Int))) then
 (L1 x0 true 0 x1 x2 x3 x4)
 else
 (some (x4,())))
def l0 (k:Nat):Nat→T0
 | 0=>fun _ _ _ _ _=>none
 | n+1=>b0 k (l1 k (l0 k n) k) (l0 k n)
def t (k:Nat) (L0:T0) (a0:Ty.den TTxn):Rs :=
 (L0 0 a0.1 a0.2.1 a0.2.2.1 [])
def f (k:Nat):=t k (l0 k k)
end spec_NetWrites
namespace spec_Used
abbrev Rs:Type:=Option (Int × Unit)
def t (k:Nat) (a0:Ty.den TDisk):Rs :=
 ((spec_DiskOk.f k a0).bind fun r1 =>
 (bif (!r1.1) then
 (some (0,()))
 else
 ((spec_l3Used.f k a0).bind fun r2 =>
 (some r2))))
def f (k:Nat):=t k
end spec_Used
namespace spec_RecAt
abbrev Rs:Type:=Option ((Ty.den TRec) × Bool × Unit)
def t (k:Nat) (a0:ByteArray) (a1:Int) (a2:Int):Rs :=
 ((spec_l1In.f k a1 0 (ByteArray.size a0:Int)).bind fun r1 =>
 (bif (!r1.1) then
 (some ((0,(0,(ByteArray.empty,(ByteArray.empty,(0,(0,())))))),(false,())))
 else
 ((spec_l1In.f k a2 1 (w64 ((ByteArray.size a0:Int)-a1))).bind fun r2 =>
 (bif (!r2.1) then
 (some ((0,(0,(ByteArray.empty,(ByteArray.empty,(0,(0,())))))),(false,())))
 else
 (inc2 a1 (w64 (a1+a2)) (ByteArray.size a0:Int)
 ((spec_Unframe.f k (ByteArray.extract a0 (Int.toNat a1) (Int.toNat (w64 (a1+a2))))).bind fun r3 =>
 ((spec_ReadRec.f k r3.1).bind fun r4 =>
 (bif (r3.2.1 != a2) then
 (some ((0,(0,(ByteArray.empty,(ByteArray.empty,(0,(0,())))))),(false,())))
 else
 (bif (!r4.2.1) then
 (some ((0,(0,(ByteArray.empty,(ByteArray.empty,(0,(0,())))))),(false,())))
 else
 (some (r4.1,(true,()))))))))))))
def f (k:Nat):=t k
end spec_RecAt
namespace spec_StoreOk
abbrev Rs:Type:=Option (Bool × Unit)
abbrev T1:Type:=Int→Int→List Int→List (Ty.den TEntry)→Int→Int→Int→List (Ty.den TPair)→Int→Int→Bool→Rs
abbrev T0:Type:=Int→Int→List Int→List (Ty.den TEntry)→Int→Int→Int→List (Ty.den TPair)→Int→Int→Bool→Rs
def b1 (k:Nat) (L1:T1):T1:=fun x0 x1 x2 x3 x4 x5 x6 x7 x8 x9 x10 =>
 (bif (decide (x0<(x3.length:Int))) then
 (inb x0 (x3.length:Int)
 ((spec_SegName.f k (List.getD x3 (Int.toNat x0) (Ty.dflt TEntry)).2.1).bind fun r8 =>
 ((spec_FileText.f k (x7,(x8,(x9,(x10,())))) r8.1).bind fun r9 =>
 ((spec_RecAt.f k r9.1 (List.getD x3 (Int.toNat x0) (Ty.dflt TEntry)).2.2.1 (List.getD x3 (Int.toNat x0) (Ty.dflt TEntry)).2.2.2.1).bind fun r10 =>
 (bif (!r10.2.1) then
 (some (false,()))
 else
 (bif (!(seq r10.1.2.2.1 (List.getD x3 (Int.toNat x0) (Ty.dflt TEntry)).1)) then
 (some (false,()))
 else
 (bif (r10.1.2.1 != (List.getD x3 (Int.toNat x0) (Ty.dflt TEntry)).2.2.2.2.1) then
 (some (false,()))
 else
 (bif (r10.1.1 != 1) then
 (bif (r10.1.1 != 4) then
 (some (false,()))
 else
 (bif (decide ((List.getD x3 (Int.toNat x0) (Ty.dflt TEntry)).2.2.2.2.1≥x4)) then
 (some (false,()))
 else
 (L1 (w64 (x0+1)) x1 x2 x3 x4 x5 x6 x7 x8 x9 x10)))
 else
 (bif (decide ((List.getD x3 (Int.toNat x0) (Ty.dflt TEntry)).2.2.2.2.1≥x4)) then
 (some (false,()))
 else
 (L1 (w64 (x0+1)) x1 x2 x3 x4 x5 x6 x7 x8 x9 x10))))))))))
 else
 (some (true,())))
def l1 (k:Nat):Nat→T1
 | 0=>fun _ _ _ _ _ _ _ _ _ _ _=>none
 | n+1=>b1 k (l1 k n)
def b0 (k:Nat) (L1:T1) (L0:T0):T0:=fun x0 x1 x2 x3 x4 x5 x6 x7 x8 x9 x10 =>
 (bif (decide (x0<(x2.length:Int))) then
 (inb x0 (x2.length:Int)
 ((spec_SegName.f k (List.getD x2 (Int.toNat x0) (Ty.dflt (.int .i64)))).bind fun r5 =>
 ((spec_FileText.f k (x7,(x8,(x9,(x10,())))) r5.1).bind fun r6 =>
 ((spec_ScanRecs.f k r6.1).bind fun r7 =>
 (bif (!r6.2.1) then
 (some (false,()))
 else
 (bif (decide (r7.2.1<(ByteArray.size r6.1:Int))) then
 (some (false,()))
 else
 (bif ((w64 (x0+1))==(x2.length:Int)) then
 (bif (x5 != (ByteArray.size r6.1:Int)) then
 (some (false,()))
 else
 (L0 (w64 (x0+1)) x1 x2 x3 x4 x5 x6 x7 x8 x9 x10))
 else
 (L0 (w64 (x0+1)) x1 x2 x3 x4 x5 x6 x7 x8 x9 x10))))))))
 else
 (L1 0 x1 x2 x3 x4 x5 x6 x7 x8 x9 x10))
def l0 (k:Nat):Nat→T0
 | 0=>fun _ _ _ _ _ _ _ _ _ _ _=>none
 | n+1=>b0 k (l1 k k) (l0 k n)
def t (k:Nat) (L0:T0) (a0:Ty.den TStore) (a1:Ty.den TDisk):Rs :=
 ((spec_DiskOk.f k a1).bind fun r1 =>
 (bif (!r1.1) then
 (some (false,()))
 else
 ((spec_LiveOk.f k a0.1).bind fun r2 =>
 (bif (!r2.1) then
 (some (false,()))
 else
 ((spec_DirOk.f k a0.2.1).bind fun r3 =>
 (bif (!r3.1) then
 (some (false,()))
 else
 ((spec_l1In.f k a0.2.2.1 1 1000001).bind fun r4 =>
 (bif (!r4.1) then
 (some (false,()))
 else
 (L0 0 a0.1.1 a0.1.2.1 a0.2.1 a0.2.2.1 a0.2.2.2.1 a0.2.2.2.2.1 a1.1 a1.2.1 a1.2.2.1 a1.2.2.2.1)))))))))
def f (k:Nat):=t k (l0 k k)
end spec_StoreOk
namespace spec_DirGet
abbrev Rs:Type:=Option ((Ty.den TEntry) × Bool × Unit)
abbrev T0:Type:=List (Ty.den TEntry)→ByteArray→Int→ByteArray→Int→Int→Int→Int→Rs
def b0 (k:Nat) (L0:T0):T0:=fun x0 x1 x2 x3 x4 x5 x6 x7 =>
 (bif (decide (x2<(x0.length:Int))) then
 (inb x2 (x0.length:Int)
 (bif (seq (List.getD x0 (Int.toNat x2) (Ty.dflt TEntry)).1 x1) then
 (inb x2 (x0.length:Int)
 (some ((List.getD x0 (Int.toNat x2) (Ty.dflt TEntry)),(true,()))))
 else
 (L0 x0 x1 (w64 (x2+1)) x3 x4 x5 x6 x7)))
 else
 (some ((ByteArray.empty,(0,(0,(0,(0,()))))),(false,()))))
def l0 (k:Nat):Nat→T0
 | 0=>fun _ _ _ _ _ _ _ _=>none
 | n+1=>b0 k (l0 k n)
def t (k:Nat) (L0:T0) (a0:List (Ty.den TEntry)) (a1:ByteArray):Rs :=
 (L0 a0 a1 0 ByteArray.empty 0 0 0 0)
def f (k:Nat):=t k (l0 k k)
end spec_DirGet
namespace spec_Get
abbrev Rs:Type:=Option ((Ty.den TPair) × Int × Unit)
def t (k:Nat) (a0:Ty.den TStore) (a1:Ty.den TDisk) (a2:ByteArray):Rs :=
 ((spec_DirGet.f k a0.2.1 a2).bind fun r1 =>
 (bif (!r1.2.1) then
 (some ((ByteArray.empty,(ByteArray.empty,(0,()))),(8,())))
 else
 ((spec_SegName.f k r1.1.2.1).bind fun r2 =>
 ((spec_FileText.f k a1 r2.1).bind fun r3 =>
 ((spec_RecAt.f k r3.1 r1.1.2.2.1 r1.1.2.2.2.1).bind fun r4 =>
 (bif (!r3.2.1) then
 (some ((ByteArray.empty,(ByteArray.empty,(0,()))),(3,())))
 else
 (bif (!r4.2.1) then
 (some ((ByteArray.empty,(ByteArray.empty,(0,()))),(3,())))
 else
 (bif (!(seq r4.1.2.2.1 a2)) then
 (some ((ByteArray.empty,(ByteArray.empty,(0,()))),(3,())))
 else
 (bif (r4.1.1 != 1) then
 (bif (r4.1.1 != 4) then
 (some ((ByteArray.empty,(ByteArray.empty,(0,()))),(3,())))
 else
 (some ((a2,(r4.1.2.2.2.1,(r4.1.2.1,()))),(0,()))))
 else
 (some ((a2,(r4.1.2.2.2.1,(r4.1.2.1,()))),(0,()))))))))))))
def f (k:Nat):=t k
end spec_Get
namespace spec_Dump
abbrev Rs:Type:=Option ((List (Ty.den TPair)) × Int × Unit)
abbrev T0:Type:=Int→Int→List Int→List (Ty.den TEntry)→Int→Int→Int→List (Ty.den TPair)→Int→Int→Bool→List (Ty.den TPair)→Rs
def b0 (k:Nat) (L0:T0):T0:=fun x0 x1 x2 x3 x4 x5 x6 x7 x8 x9 x10 x11 =>
 (bif (decide (x0<(x3.length:Int))) then
 (inb x0 (x3.length:Int)
 ((spec_Get.f k ((x1,(x2,())),(x3,(x4,(x5,(x6,()))))) (x7,(x8,(x9,(x10,())))) (List.getD x3 (Int.toNat x0) (Ty.dflt TEntry)).1).bind fun r1 =>
 (bif (r1.2.1 != 0) then
 (some ([],r1.2))
 else
 (rm (Ty.bytes TPair) (List.length x11+1)
 (L0 (w64 (x0+1)) x1 x2 x3 x4 x5 x6 x7 x8 x9 x10 (x11++[r1.1]))))))
 else
 (some (x11,(0,()))))
def l0 (k:Nat):Nat→T0
 | 0=>fun _ _ _ _ _ _ _ _ _ _ _ _=>none
 | n+1=>b0 k (l0 k n)
def t (k:Nat) (L0:T0) (a0:Ty.den TStore) (a1:Ty.den TDisk):Rs :=
 (L0 0 a0.1.1 a0.1.2.1 a0.2.1 a0.2.2.1 a0.2.2.2.1 a0.2.2.2.2.1 a1.1 a1.2.1 a1.2.2.1 a1.2.2.2.1 [])
def f (k:Nat):=t k (l0 k k)
end spec_Dump
namespace spec_l14Keep
abbrev Rs:Type:=Option ((Ty.den TRec) × Unit)
def t (k:Nat) (a0:Ty.den TPair):Rs :=
 (some ((4,(a0.2.2.1,(a0.1,(a0.2.1,(0,(0,())))))),()))
def f (k:Nat):=t k
end spec_l14Keep
namespace spec_l9Seal
abbrev Rs:Type:=Option ((Ty.den TRec) × Unit)
def t (k:Nat) (a0:List (Ty.den TRec)) (a1:Int) (a2:Int):Rs :=
 ((spec_SumOf.f k a0).bind fun r1 =>
 (some ((a2,(a1,(ByteArray.empty,(ByteArray.empty,((List.length a0:Int),r1))))),())))
def f (k:Nat):=t k
end spec_l9Seal
namespace spec_l14Write
abbrev Rs:Type:=Option ((Ty.den TDisk) × (List (Ty.den TEntry)) × Int × Unit)
abbrev T0:Type:=Int→List (Ty.den TPair)→Int→Int→Int→Int→List (Ty.den TPair)→Int→Int→Bool→List (Ty.den TEntry)→List (Ty.den TPair)→Int→Int→Bool→List (Ty.den TRec)→Rs
def b0 (k:Nat) (L0:T0):T0:=fun x0 x1 x2 x3 x4 x5 x6 x7 x8 x9 x10 x11 x12 x13 x14 x15 =>
 (bif (decide (x5<(x1.length:Int))) then
 (bif (x3==0) then
 (inb x5 (x1.length:Int)
 ((spec_l14Keep.f k (List.getD x1 (Int.toNat x5) (Ty.dflt TPair))).bind fun r3 =>
 ((spec_ShowRec.f k r3.1).bind fun r4 =>
 ((spec_Frame.f k r4.1).bind fun r5 =>
 ((spec_SegName.f k x0).bind fun r6 =>
 ((spec_Append.f k (x11,(x12,(x13,(x14,())))) r6.1 r5.1).bind fun r7 =>
 (rm (Ty.bytes TRec) (List.length x15+1)
 (rm (Ty.bytes TEntry) (List.length x10+1)
 (L0 x0 x1 x2 r7.2.1 (w64 (x4+(ByteArray.size r5.1:Int))) (w64 (x5+1)) x6 x7 x8 x9 (x10++[(r3.1.2.2.1,(x0,(x4,((ByteArray.size r5.1:Int),(r3.1.2.1,())))))]) r7.1.1 r7.1.2.1 r7.1.2.2.1 r7.1.2.2.2.1 (x15++[r3.1]))))))))))
 else
 (bif (x3==0) then
 ((spec_SegName.f k x0).bind fun r8 =>
 ((spec_l9Seal.f k x15 x2 5).bind fun r9 =>
 ((spec_ShowRec.f k r9.1).bind fun r10 =>
 ((spec_Frame.f k r10.1).bind fun r11 =>
 ((spec_Append.f k (x11,(x12,(x13,(x14,())))) r8.1 r11.1).bind fun r12 =>
 (bif (r12.2.1==0) then
 ((spec_SegName.f k x0).bind fun r13 =>
 ((spec_Sync.f k r12.1 r13.1).bind fun r14 =>
 ((spec_l11Code.f k r14.2.1).bind fun r15 =>
 (some (r14.1,(x10,r15))))))
 else
 ((spec_l11Code.f k r12.2.1).bind fun r16 =>
 (some (r12.1,(x10,r16))))))))))
 else
 (bif (x3==0) then
 ((spec_SegName.f k x0).bind fun r17 =>
 ((spec_Sync.f k (x11,(x12,(x13,(x14,())))) r17.1).bind fun r18 =>
 ((spec_l11Code.f k r18.2.1).bind fun r19 =>
 (some (r18.1,(x10,r19))))))
 else
 ((spec_l11Code.f k x3).bind fun r20 =>
 (some ((x11,(x12,(x13,(x14,())))),(x10,r20)))))))
 else
 (bif (x3==0) then
 ((spec_SegName.f k x0).bind fun r21 =>
 ((spec_l9Seal.f k x15 x2 5).bind fun r22 =>
 ((spec_ShowRec.f k r22.1).bind fun r23 =>
 ((spec_Frame.f k r23.1).bind fun r24 =>
 ((spec_Append.f k (x11,(x12,(x13,(x14,())))) r21.1 r24.1).bind fun r25 =>
 (bif (r25.2.1==0) then
 ((spec_SegName.f k x0).bind fun r26 =>
 ((spec_Sync.f k r25.1 r26.1).bind fun r27 =>
 ((spec_l11Code.f k r27.2.1).bind fun r28 =>
 (some (r27.1,(x10,r28))))))
 else
 ((spec_l11Code.f k r25.2.1).bind fun r29 =>
 (some (r25.1,(x10,r29))))))))))
 else
 (bif (x3==0) then
 ((spec_SegName.f k x0).bind fun r30 =>
 ((spec_Sync.f k (x11,(x12,(x13,(x14,())))) r30.1).bind fun r31 =>
 ((spec_l11Code.f k r31.2.1).bind fun r32 =>
 (some (r31.1,(x10,r32))))))
 else
 ((spec_l11Code.f k x3).bind fun r33 =>
 (some ((x11,(x12,(x13,(x14,())))),(x10,r33)))))))
def l0 (k:Nat):Nat→T0
 | 0=>fun _ _ _ _ _ _ _ _ _ _ _ _ _ _ _ _=>none
 | n+1=>b0 k (l0 k n)
def t (k:Nat) (L0:T0) (a0:Ty.den TDisk) (a1:Int) (a2:List (Ty.den TPair)) (a3:Int):Rs :=
 ((spec_SegName.f k a1).bind fun r1 =>
 ((spec_l11Fresh.f k a0 r1.1).bind fun r2 =>
 (L0 a1 a2 a3 r2.2.1 0 0 [] 0 0 false [] r2.1.1 r2.1.2.1 r2.1.2.2.1 r2.1.2.2.2.1 [])))
def f (k:Nat):=t k (l0 k k)
end spec_l14Write
namespace spec_l14Drop_g
abbrev Rs:Type:=Option ((Ty.den TDisk) × Int × Unit)
abbrev T0:Type:=List ByteArray→Int→List (Ty.den TPair)→Int→Int→Bool→List (Ty.den TPair)→Int→Int→Bool→Rs
def b0 (k:Nat) (L0:T0):T0:=fun x0 x1 x2 x3 x4 x5 x6 x7 x8 x9 =>
 (bif (decide (x1<(x0.length:Int))) then
 (inb x1 (x0.length:Int)
 ((spec_l3Find.f k (x2,(x3,(x4,(x5,())))) (List.getD x0 (Int.toNat x1) (Ty.dflt .str))).bind fun r1 =>
 (bif (decide (r1.1<0)) then
 (L0 x0 (w64 (x1+1)) x2 x3 x4 x5 x6 x7 x8 x9)
 else
 (inb x1 (x0.length:Int)
 ((spec_Remove.f k (x2,(x3,(x4,(x5,())))) (List.getD x0 (Int.toNat x1) (Ty.dflt .str))).bind fun r2 =>
 (bif (r2.2.1 != 0) then
 (some r2)
 else
 (L0 x0 (w64 (x1+1)) r2.1.1 r2.1.2.1 r2.1.2.2.1 r2.1.2.2.2.1 x6 x7 x8 x9)))))))
 else
 (some ((x2,(x3,(x4,(x5,())))),(0,()))))
def l0 (k:Nat):Nat→T0
 | 0=>fun _ _ _ _ _ _ _ _ _ _=>none
 | n+1=>b0 k (l0 k n)
def t (k:Nat) (L0:T0) (a0:Ty.den TDisk) (a1:List ByteArray):Rs :=
 (L0 a1 0 a0.1 a0.2.1 a0.2.2.1 a0.2.2.2.1 [] 0 0 false)
def f (k:Nat):=t k (l0 k k)
end spec_l14Drop_g
namespace spec_l14Fail_ga
abbrev Rs:Type:=Option ((Ty.den TStore) × (Ty.den TDisk) × Int × Unit)
def t (k:Nat) (a0:Ty.den TStore) (a1:Ty.den TDisk) (a2:Int) (a3:Int):Rs :=
 (bif (a3 != 2) then
 (some (a0,(a1,(a3,()))))
 else
 ((spec_SegName.f k a2).bind fun r1 =>
 ((spec_SegName.f k (w64 (a2+1))).bind fun r2 =>
 ((spec_HintName.f k a2).bind fun r3 =>
 ((spec_l14Drop_g.f k a1 [(⟨#[116,101,109,112]⟩:ByteArray),r1.1,r2.1,r3.1]).bind fun r4 =>
 (bif (r4.2.1 != 0) then
 ((spec_l11Code.f k r4.2.1).bind fun r5 =>
 (some (a0,(r4.1,r5))))
 else
 (some (a0,(r4.1,(a3,()))))))))))
def f (k:Nat):=t k
end spec_l14Fail_ga
namespace spec_l14Merge_g
abbrev Rs:Type:=Option ((Ty.den TStore) × (Ty.den TDisk) × Int × Unit)
abbrev T0:Type:=Int→List Int→List (Ty.den TEntry)→Int→Int→Int→Int→List Int→List (Ty.den TEntry)→Int→Int→Int→Int→List (Ty.den TPair)→Int→Int→Bool→List (Ty.den TPair)→Int→Int→Bool→List Int→Rs
def b0 (k:Nat) (L0:T0):T0:=fun x0 x1 x2 x3 x4 x5 x6 x7 x8 x9 x10 x11 x12 x13 x14 x15 x16 x17 x18 x19 x20 x21 =>
 (bif (decide (x0<(x21.length:Int))) then
 (inb x0 (x21.length:Int)
 ((spec_SegName.f k (List.getD x21 (Int.toNat x0) (Ty.dflt (.int .i64)))).bind fun r18 =>
 (inb x0 (x21.length:Int)
 ((spec_HintName.f k (List.getD x21 (Int.toNat x0) (Ty.dflt (.int .i64)))).bind fun r19 =>
 ((spec_l14Drop_g.f k (x17,(x18,(x19,(x20,())))) [r18.1,r19.1]).bind fun r20 =>
 (bif (r20.2.1 != 0) then
 ((spec_l11Code.f k r20.2.1).bind fun r21 =>
 (some (((x3,(x1,())),(x2,(x4,(x5,(x6,()))))),(r20.1,r21))))
 else
 (L0 (w64 (x0+1)) x1 x2 x3 x4 x5 x6 x7 x8 x9 x10 x11 x12 x13 x14 x15 x16 r20.1.1 r20.1.2.1 r20.1.2.2.1 r20.1.2.2.2.1 x21)))))))
 else
 (some (((x3,(x1,())),(x2,(x4,(x5,(x6,()))))),((x17,(x18,(x19,(x20,())))),(0,())))))
def l0 (k:Nat):Nat→T0
 | 0=>fun _ _ _ _ _ _ _ _ _ _ _ _ _ _ _ _ _ _ _ _ _ _=>none
 | n+1=>b0 k (l0 k n)
def t (k:Nat) (L0:T0) (a0:Ty.den TStore) (a1:Ty.den TDisk) (a2:List (Ty.den TPair)):Rs :=
 ((spec_l14Write.f k a1 a0.1.1 a2 (w64 (a0.2.2.1-1))).bind fun r1 =>
 (bif (r1.2.2.1 != 0) then
 ((spec_l14Fail_ga.f k (((w64 (a0.1.1+2)),a0.1.2),a0.2) r1.1 a0.1.1 r1.2.2.1).bind fun r2 =>
 (some r2))
 else
 ((spec_SegName.f k (w64 (a0.1.1+1))).bind fun r3 =>
 ((spec_l11Fresh.f k r1.1 r3.1).bind fun r4 =>
 (bif (r4.2.1 != 0) then
 ((spec_l11Code.f k r4.2.1).bind fun r5 =>
 ((spec_l14Fail_ga.f k (((w64 (a0.1.1+2)),a0.1.2),a0.2) r4.1 a0.1.1 r5.1).bind fun r6 =>
 (some r6)))
 else
 ((spec_SegName.f k a0.1.1).bind fun r7 =>
 ((spec_FileText.f k r4.1 r7.1).bind fun r8 =>
 ((spec_HintOf.f k a0.1.1 r8.1).bind fun r9 =>
 ((spec_HintName.f k a0.1.1).bind fun r10 =>
 ((spec_ShowHint.f k r9.1).bind fun r11 =>
 ((spec_l11File.f k r4.1 r10.1 r11.1).bind fun r12 =>
 (bif (r12.2.1==2) then
 ((spec_HintName.f k a0.1.1).bind fun r13 =>
 ((spec_l14Drop_g.f k r12.1 [r13.1]).bind fun r14 =>
 (bif (r14.2.1 != 0) then
 ((spec_l11Code.f k r14.2.1).bind fun r15 =>
 (some ((((w64 (a0.1.1+2)),a0.1.2),a0.2),(r14.1,r15))))
 else
 (rm (Ty.bytes (.int .i64)) (0+List.length a0.1.2.1)
 ((spec_PutLive.f k r14.1 ((w64 (a0.1.1+2)),([a0.1.1,(w64 (a0.1.1+1))],()))).bind fun r16 =>
 (bif (r16.2.1 != 0) then
 ((spec_l14Fail_ga.f k (((w64 (a0.1.1+2)),a0.1.2),a0.2) r16.1 a0.1.1 r16.2.1).bind fun r17 =>
 (some r17))
 else
 (L0 0 [a0.1.1,(w64 (a0.1.1+1))] r1.2.1 (w64 (a0.1.1+2)) a0.2.2.1 0 0 [] [] 0 0 0 0 [] 0 0 false r16.1.1 r16.1.2.1 r16.1.2.2.1 r16.1.2.2.2.1 ([]++a0.1.2.1))))))))
 else
 (bif (r12.2.1 != 0) then
 ((spec_l11Code.f k r12.2.1).bind fun r22 =>
 (some ((((w64 (a0.1.1+2)),a0.1.2),a0.2),(r12.1,r22))))
 else
 (rm (Ty.bytes (.int .i64)) (0+List.length a0.1.2.1)
 ((spec_PutLive.f k r12.1 ((w64 (a0.1.1+2)),([a0.1.1,(w64 (a0.1.1+1))],()))).bind fun r23 =>
 (bif (r23.2.1 != 0) then
 ((spec_l14Fail_ga.f k (((w64 (a0.1.1+2)),a0.1.2),a0.2) r23.1 a0.1.1 r23.2.1).bind fun r24 =>
 (some r24))
 else
 (L0 0 [a0.1.1,(w64 (a0.1.1+1))] r1.2.1 (w64 (a0.1.1+2)) a0.2.2.1 0 0 [] [] 0 0 0 0 [] 0 0 false r23.1.1 r23.1.2.1 r23.1.2.2.1 r23.1.2.2.2.1 ([]++a0.1.2.1))))))))))))))))))
def f (k:Nat):=t k (l0 k k)
end spec_l14Merge_g
namespace spec_Merge
abbrev Rs:Type:=Option ((Ty.den TStore) × (Ty.den TDisk) × Int × Unit)
def t (k:Nat) (a0:Ty.den TStore) (a1:Ty.den TDisk):Rs :=
 ((spec_l12Copy.f k a0).bind fun r1 =>
 ((spec_l3Copy.f k a1).bind fun r2 =>
 ((spec_StoreOk.f k a0 a1).bind fun r3 =>
 (bif (!r3.1) then
 (some (r1.1,(r2.1,(4,()))))
 else
 (bif (decide ((w64 (a0.1.1+2)) > 100000)) then
 (some (r1.1,(r2.1,(5,()))))
 else
 ((spec_Dump.f k a0 a1).bind fun r4 =>
 (bif (r4.2.1 != 0) then
 (some (r1.1,(r2.1,r4.2)))
 else
 ((spec_l14Merge_g.f k r1.1 r2.1 r4.1).bind fun r5 =>
 (some r5)))))))))
def f (k:Nat):=t k
end spec_Merge
namespace spec_DirKeys
abbrev Rs:Type:=Option ((List ByteArray) × Unit)
abbrev T0:Type:=List (Ty.den TEntry)→Int→List ByteArray→Rs
def b0 (k:Nat) (L0:T0):T0:=fun x0 x1 x2 =>
 (bif (decide (x1<(x0.length:Int))) then
 (inb x1 (x0.length:Int)
 (rm (Ty.bytes .str) (List.length x2+1)
 (L0 x0 (w64 (x1+1)) (x2++[(List.getD x0 (Int.toNat x1) (Ty.dflt TEntry)).1]))))
 else
 (some (x2,())))
def l0 (k:Nat):Nat→T0
 | 0=>fun _ _ _=>none
 | n+1=>b0 k (l0 k n)
def t (k:Nat) (L0:T0) (a0:List (Ty.den TEntry)):Rs :=
 (L0 a0 0 [])
def f (k:Nat):=t k (l0 k k)
end spec_DirKeys
namespace spec_TxnRead
abbrev Rs:Type:=Option ((Ty.den TTxn) × Int × Unit)
abbrev T0:Type:=ByteArray→Int→Int→Bool→List (Ty.den TReadRow)→List (Ty.den TPut)→List (Ty.den TReadRow)→List (Ty.den TPut)→Bool→List (Ty.den TReadRow)→List (Ty.den TPut)→Bool→Rs
def b0 (k:Nat) (L0:T0):T0:=fun x0 x1 x2 x3 x4 x5 x6 x7 x8 x9 x10 x11 =>
 (bif (decide (x2<(x4.length:Int))) then
 (inb x2 (x4.length:Int)
 (bif (seq (List.getD x4 (Int.toNat x2) (Ty.dflt TReadRow)).1 x0) then
 (inb x2 (x4.length:Int)
 (bif ((List.getD x4 (Int.toNat x2) (Ty.dflt TReadRow)).2.1 != x1) then
 (some ((x11,(x9,(x10,()))),(7,())))
 else
 (some ((x11,(x9,(x10,()))),(0,())))))
 else
 (L0 x0 x1 (w64 (x2+1)) x3 x4 x5 x6 x7 x8 x9 x10 x11)))
 else
 (bif (decide ((x4.length:Int)≥20)) then
 (some ((x11,(x9,(x10,()))),(5,())))
 else
 (rm (Ty.bytes TReadRow) (List.length x9+1)
 (some ((x11,((x9++[(x0,(x1,()))]),(x10,()))),(0,()))))))
def l0 (k:Nat):Nat→T0
 | 0=>fun _ _ _ _ _ _ _ _ _ _ _ _=>none
 | n+1=>b0 k (l0 k n)
def t (k:Nat) (L0:T0) (a0:Ty.den TTxn) (a1:ByteArray) (a2:Int):Rs :=
 ((spec_l15Copy.f k a0).bind fun r1 =>
 (bif (!a0.1) then
 (some (r1.1,(4,())))
 else
 ((spec_KeyOk.f k a1).bind fun r2 =>
 (bif (!r2.1) then
 (some (r1.1,(4,())))
 else
 (L0 a1 a2 0 a0.1 a0.2.1 a0.2.2.1 [] [] false r1.1.2.1 r1.1.2.2.1 r1.1.1)))))
def f (k:Nat):=t k (l0 k k)
end spec_TxnRead
namespace spec_l16Get_g
abbrev Rs:Type:=Option ((Ty.den TEngine) × (Ty.den TAnswer) × Unit)
def t (k:Nat) (a0:Ty.den TEngine) (a1:Ty.den TStep):Rs :=
 (inb a1.2.1 (List.length a0.2.2.2.1:Int)
 ((spec_KeyOk.f k a1.2.2.1).bind fun r1 =>
 (bif (!r1.1) then
 (some (a0,((4,(ByteArray.empty,([],()))),())))
 else
 ((spec_OwnWrite.f k (List.getD a0.2.2.2.1 (Int.toNat a1.2.1) (Ty.dflt TTxn)) a1.2.2.1).bind fun r2 =>
 (bif r2.2.1 then
 (bif r2.1.2.1 then
 (some (a0,((8,(ByteArray.empty,([],()))),())))
 else
 (some (a0,((0,(r2.1.2.2.1,([],()))),()))))
 else
 ((spec_Get.f k a0.2.1 a0.2.2.1 a1.2.2.1).bind fun r3 =>
 (bif (r3.2.1==3) then
 (some (a0,((r3.2.1,(ByteArray.empty,([],()))),())))
 else
 ((spec_TxnRead.f k (List.getD a0.2.2.2.1 (Int.toNat a1.2.1) (Ty.dflt TTxn)) a1.2.2.1 r3.1.2.2.1).bind fun r4 =>
 (bif (r4.2.1 != 0) then
 (some (a0,((r4.2.1,(ByteArray.empty,([],()))),())))
 else
 (inb a1.2.1 (List.length a0.2.2.2.1:Int)
 (let l5:=(List.set a0.2.2.2.1 (Int.toNat a1.2.1) r4.1);
 (some ((a0.1,(a0.2.1,(a0.2.2.1,(l5,())))),((r3.2.1,(r3.1.2.1,([],()))),()))))))))))))))
def f (k:Nat):=t k
end spec_l16Get_g
namespace spec_Valid
abbrev Rs:Type:=Option (Bool × Unit)
abbrev T0:Type:=List (Ty.den TEntry)→Int→Bool→List (Ty.den TReadRow)→List (Ty.den TPut)→Rs
def b0 (k:Nat) (L0:T0):T0:=fun x0 x1 x2 x3 x4 =>
 (bif (decide (x1<(x3.length:Int))) then
 (inb x1 (x3.length:Int)
 ((spec_DirGet.f k x0 (List.getD x3 (Int.toNat x1) (Ty.dflt TReadRow)).1).bind fun r1 =>
 (inb x1 (x3.length:Int)
 (bif (r1.1.2.2.2.2.1 != (List.getD x3 (Int.toNat x1) (Ty.dflt TReadRow)).2.1) then
 (some (false,()))
 else
 (L0 x0 (w64 (x1+1)) x2 x3 x4)))))
 else
 (some (true,())))
def l0 (k:Nat):Nat→T0
 | 0=>fun _ _ _ _ _=>none
 | n+1=>b0 k (l0 k n)
def t (k:Nat) (L0:T0) (a0:Ty.den TTxn) (a1:List (Ty.den TEntry)):Rs :=
 (L0 a1 0 a0.1 a0.2.1 a0.2.2.1)
def f (k:Nat):=t k (l0 k k)
end spec_Valid
namespace spec_PutsOk
abbrev Rs:Type:=Option (Bool × Unit)
abbrev T0:Type:=List (Ty.den TPut)→Int→Rs
def b0 (k:Nat) (L0:T0):T0:=fun x0 x1 =>
 (bif (decide (x1<(x0.length:Int))) then
 (inb x1 (x0.length:Int)
 ((spec_KeyOk.f k (List.getD x0 (Int.toNat x1) (Ty.dflt TPut)).1).bind fun r1 =>
 (bif (!r1.1) then
 (some (false,()))
 else
 (inb x1 (x0.length:Int)
 (bif (decide ((ByteArray.size (List.getD x0 (Int.toNat x1) (Ty.dflt TPut)).2.2.1:Int) > 24)) then
 (some (false,()))
 else
 (inb x1 (x0.length:Int)
 (bif (List.getD x0 (Int.toNat x1) (Ty.dflt TPut)).2.1 then
 (inb x1 (x0.length:Int)
 (bif (!(seq (List.getD x0 (Int.toNat x1) (Ty.dflt TPut)).2.2.1 (⟨#[]⟩:ByteArray))) then
 (some (false,()))
 else
 (L0 x0 (w64 (x1+1)))))
 else
 (L0 x0 (w64 (x1+1))))))))))
 else
 (some (true,())))
def l0 (k:Nat):Nat→T0
 | 0=>fun _ _=>none
 | n+1=>b0 k (l0 k n)
def t (k:Nat) (L0:T0) (a0:List (Ty.den TPut)):Rs :=
 (bif (decide ((List.length a0:Int) > 8)) then
 (some (false,()))
 else
 (L0 a0 0))
def f (k:Nat):=t k (l0 k k)
end spec_PutsOk
namespace spec_l12After
abbrev Rs:Type:=Option (Int × Unit)
abbrev T1:Type:=List (Ty.den TPut)→Int→List (Ty.den TEntry)→Rs
abbrev T0:Type:=List (Ty.den TEntry)→List (Ty.den TPut)→Int→Rs
def b1 (k:Nat) (L1:T1):T1:=fun x0 x1 x2 =>
 (bif (decide (x1<(x0.length:Int))) then
 (inb x1 (x0.length:Int)
 (bif (List.getD x0 (Int.toNat x1) (Ty.dflt TPut)).2.1 then
 (inb x1 (x0.length:Int)
 ((spec_DirDrop.f k x2 (List.getD x0 (Int.toNat x1) (Ty.dflt TPut)).1).bind fun r2 =>
 (L1 x0 (w64 (x1+1)) r2.1)))
 else
 (inb x1 (x0.length:Int)
 ((spec_DirPut.f k x2 ((List.getD x0 (Int.toNat x1) (Ty.dflt TPut)).1,(0,(0,(0,(0,())))))).bind fun r3 =>
 (L1 x0 (w64 (x1+1)) r3.1)))))
 else
 (some ((x2.length:Int),())))
def l1 (k:Nat):Nat→T1
 | 0=>fun _ _ _=>none
 | n+1=>b1 k (l1 k n)
def b0 (k:Nat) (L1:T1):T0:=fun x0 x1 x2 =>
 (bif (decide (x2<(x1.length:Int))) then
 (inb x2 (x1.length:Int)
 (bif (List.getD x1 (Int.toNat x2) (Ty.dflt TPut)).2.1 then
 (inb x2 (x1.length:Int)
 ((spec_DirDrop.f k x0 (List.getD x1 (Int.toNat x2) (Ty.dflt TPut)).1).bind fun r1 =>
 (L1 x1 (w64 (x2+1)) r1.1)))
 else
 (inb x2 (x1.length:Int)
 ((spec_DirPut.f k x0 ((List.getD x1 (Int.toNat x2) (Ty.dflt TPut)).1,(0,(0,(0,(0,())))))).bind fun r4 =>
 (L1 x1 (w64 (x2+1)) r4.1)))))
 else
 (some ((x0.length:Int),())))
def l0 (k:Nat):Nat→T0
 | 0=>fun _ _ _=>none
 | n+1=>b0 k (l1 k n)
def t (k:Nat) (L0:T0) (a0:List (Ty.den TEntry)) (a1:List (Ty.den TPut)):Rs :=
 (L0 a0 a1 0)
def f (k:Nat):=t k (l0 k k)
end spec_l12After
namespace spec_l12Active
abbrev Rs:Type:=Option (ByteArray × Unit)
def t (k:Nat) (a0:Ty.den TStore):Rs :=
 (inb (w64 ((List.length a0.1.2.1:Int)-1)) (List.length a0.1.2.1:Int)
 ((spec_SegName.f k (List.getD a0.1.2.1 (Int.toNat (w64 ((List.length a0.1.2.1:Int)-1))) (Ty.dflt (.int .i64)))).bind fun r1 =>
 (some r1)))
def f (k:Nat):=t k
end spec_l12Active
namespace spec_l12Rotate_ga
abbrev Rs:Type:=Option ((Ty.den TStore) × (Ty.den TDisk) × Int × Unit)
def t (k:Nat) (a0:Ty.den TStore) (a1:Ty.den TDisk):Rs :=
 (bif (decide ((List.length a0.1.2.1:Int)≥60)) then
 (some (a0,(a1,(5,()))))
 else
 (bif (decide (a0.1.1≥100000)) then
 (some (a0,(a1,(5,()))))
 else
 ((spec_l12Active.f k a0).bind fun r1 =>
 ((spec_Sync.f k a1 r1.1).bind fun r2 =>
 (bif (r2.2.1 != 0) then
 ((spec_l11Code.f k r2.2.1).bind fun r3 =>
 (some (a0,(r2.1,r3))))
 else
 ((spec_SegName.f k a0.1.1).bind fun r4 =>
 ((spec_l11Fresh.f k r2.1 r4.1).bind fun r5 =>
 (bif (r5.2.1 != 0) then
 ((spec_l11Code.f k r5.2.1).bind fun r6 =>
 (some ((((w64 (a0.1.1+1)),a0.1.2),a0.2),(r5.1,r6))))
 else
 (rm (Ty.bytes (.int .i64)) (0+List.length a0.1.2.1)
 (rm (Ty.bytes (.int .i64)) (List.length ([]++a0.1.2.1)+1)
 ((spec_PutLive.f k r5.1 ((w64 (a0.1.1+1)),((([]++a0.1.2.1)++[a0.1.1]),()))).bind fun r7 =>
 (bif (r7.2.1==2) then
 ((spec_SegName.f k a0.1.1).bind fun r8 =>
 ((spec_l14Drop_g.f k r7.1 [(⟨#[116,101,109,112]⟩:ByteArray),r8.1]).bind fun r9 =>
 (bif (r9.2.1 != 0) then
 ((spec_l11Code.f k r9.2.1).bind fun r10 =>
 (some ((((w64 (a0.1.1+1)),a0.1.2),a0.2),(r9.1,r10))))
 else
 (some ((((w64 (a0.1.1+1)),a0.1.2),a0.2),(r9.1,r7.2))))))
 else
 (bif (r7.2.1 != 0) then
 (some ((((w64 (a0.1.1+1)),a0.1.2),a0.2),r7))
 else
 (some ((((w64 (a0.1.1+1)),((([]++a0.1.2.1)++[a0.1.1]),())),(a0.2.1,(a0.2.2.1,(0,a0.2.2.2.2)))),(r7.1,(0,())))))))))))))))))
def f (k:Nat):=t k
end spec_l12Rotate_ga
namespace spec_l12Add_ga
abbrev Rs:Type:=Option ((Ty.den TStore) × (Ty.den TDisk) × (Ty.den TPlace) × Int × Unit)
def t (k:Nat) (a0:Ty.den TStore) (a1:Ty.den TDisk) (a2:Ty.den TRec):Rs :=
 ((spec_ShowRec.f k a2).bind fun r1 =>
 ((spec_Frame.f k r1.1).bind fun r2 =>
 (bif (decide (a0.2.2.2.1 > 0)) then
 (bif (decide ((w64 (a0.2.2.2.1+(ByteArray.size r2.1:Int))) > 200)) then
 ((spec_l12Rotate_ga.f k a0 a1).bind fun r3 =>
 (bif (r3.2.2.1 != 0) then
 (some (r3.1,(r3.2.1,((0,(0,(0,((0,(0,(ByteArray.empty,(ByteArray.empty,(0,(0,())))))),())))),r3.2.2))))
 else
 ((spec_l12Active.f k r3.1).bind fun r4 =>
 ((spec_Append.f k r3.2.1 r4.1 r2.1).bind fun r5 =>
 (bif (r5.2.1 != 0) then
 ((spec_l11Code.f k r5.2.1).bind fun r6 =>
 (some (r3.1,(r5.1,((0,(0,(0,((0,(0,(ByteArray.empty,(ByteArray.empty,(0,(0,())))))),())))),r6)))))
 else
 (inb (w64 ((List.length r3.1.1.2.1:Int)-1)) (List.length r3.1.1.2.1:Int)
 (some ((r3.1.1,(r3.1.2.1,(r3.1.2.2.1,((w64 (r3.1.2.2.2.1+(ByteArray.size r2.1:Int))),r3.1.2.2.2.2)))),(r5.1,(((List.getD r3.1.1.2.1 (Int.toNat (w64 ((List.length r3.1.1.2.1:Int)-1))) (Ty.dflt (.int .i64))),(r3.1.2.2.2.1,((ByteArray.size r2.1:Int),(a2,())))),(0,())))))))))))
 else
 ((spec_l12Active.f k a0).bind fun r7 =>
 ((spec_Append.f k a1 r7.1 r2.1).bind fun r8 =>
 (bif (r8.2.1 != 0) then
 ((spec_l11Code.f k r8.2.1).bind fun r9 =>
 (some (a0,(r8.1,((0,(0,(0,((0,(0,(ByteArray.empty,(ByteArray.empty,(0,(0,())))))),())))),r9)))))
 else
 (inb (w64 ((List.length a0.1.2.1:Int)-1)) (List.length a0.1.2.1:Int)
 (some ((a0.1,(a0.2.1,(a0.2.2.1,((w64 (a0.2.2.2.1+(ByteArray.size r2.1:Int))),a0.2.2.2.2)))),(r8.1,(((List.getD a0.1.2.1 (Int.toNat (w64 ((List.length a0.1.2.1:Int)-1))) (Ty.dflt (.int .i64))),(a0.2.2.2.1,((ByteArray.size r2.1:Int),(a2,())))),(0,()))))))))))
 else
 ((spec_l12Active.f k a0).bind fun r10 =>
 ((spec_Append.f k a1 r10.1 r2.1).bind fun r11 =>
 (bif (r11.2.1 != 0) then
 ((spec_l11Code.f k r11.2.1).bind fun r12 =>
 (some (a0,(r11.1,((0,(0,(0,((0,(0,(ByteArray.empty,(ByteArray.empty,(0,(0,())))))),())))),r12)))))
 else
 (inb (w64 ((List.length a0.1.2.1:Int)-1)) (List.length a0.1.2.1:Int)
 (some ((a0.1,(a0.2.1,(a0.2.2.1,((w64 (a0.2.2.2.1+(ByteArray.size r2.1:Int))),a0.2.2.2.2)))),(r11.1,(((List.getD a0.1.2.1 (Int.toNat (w64 ((List.length a0.1.2.1:Int)-1))) (Ty.dflt (.int .i64))),(a0.2.2.2.1,((ByteArray.size r2.1:Int),(a2,())))),(0,()))))))))))))
def f (k:Nat):=t k
end spec_l12Add_ga
namespace spec_l12Commit_ga
abbrev Rs:Type:=Option ((Ty.den TStore) × (Ty.den TDisk) × Int × Unit)
abbrev T0:Type:=Int→Int→List (Ty.den TPut)→List Int→List (Ty.den TEntry)→Int→Int→Int→Int→List (Ty.den TPair)→Int→Int→Bool→List Int→List (Ty.den TEntry)→Int→Int→Int→Int→List (Ty.den TPair)→Int→Int→Bool→List (Ty.den TRec)→List (Ty.den TEntry)→Rs
def b0 (k:Nat) (L0:T0):T0:=fun x0 x1 x2 x3 x4 x5 x6 x7 x8 x9 x10 x11 x12 x13 x14 x15 x16 x17 x18 x19 x20 x21 x22 x23 x24 =>
 (bif (decide (x1<(x2.length:Int))) then
 (inb x1 (x2.length:Int)
 (inb x1 (x2.length:Int)
 (inb x1 (x2.length:Int)
 (bif (List.getD x2 (Int.toNat x1) (Ty.dflt TPut)).2.1 then
 ((spec_l12Add_ga.f k ((x5,(x3,())),(x4,(x6,(x7,(x8,()))))) (x9,(x10,(x11,(x12,())))) (2,(x0,((List.getD x2 (Int.toNat x1) (Ty.dflt TPut)).1,((List.getD x2 (Int.toNat x1) (Ty.dflt TPut)).2.2.1,(0,(0,()))))))).bind fun r1 =>
 (bif (r1.2.2.2.1 != 0) then
 (some (r1.1,(r1.2.1,r1.2.2.2)))
 else
 ((spec_l9Put.f k x24 r1.2.2.1).bind fun r2 =>
 (rm (Ty.bytes TRec) (List.length x23+1)
 (L0 x0 (w64 (x1+1)) x2 r1.1.1.2.1 r1.1.2.1 r1.1.1.1 r1.1.2.2.1 r1.1.2.2.2.1 r1.1.2.2.2.2.1 r1.2.1.1 r1.2.1.2.1 r1.2.1.2.2.1 r1.2.1.2.2.2.1 x13 x14 x15 x16 x17 x18 x19 x20 x21 x22 (x23++[(2,(x0,((List.getD x2 (Int.toNat x1) (Ty.dflt TPut)).1,((List.getD x2 (Int.toNat x1) (Ty.dflt TPut)).2.2.1,(0,(0,()))))))]) r2.1)))))
 else
 ((spec_l12Add_ga.f k ((x5,(x3,())),(x4,(x6,(x7,(x8,()))))) (x9,(x10,(x11,(x12,())))) (1,(x0,((List.getD x2 (Int.toNat x1) (Ty.dflt TPut)).1,((List.getD x2 (Int.toNat x1) (Ty.dflt TPut)).2.2.1,(0,(0,()))))))).bind fun r3 =>
 (bif (r3.2.2.2.1 != 0) then
 (some (r3.1,(r3.2.1,r3.2.2.2)))
 else
 ((spec_l9Put.f k x24 r3.2.2.1).bind fun r4 =>
 (rm (Ty.bytes TRec) (List.length x23+1)
 (L0 x0 (w64 (x1+1)) x2 r3.1.1.2.1 r3.1.2.1 r3.1.1.1 r3.1.2.2.1 r3.1.2.2.2.1 r3.1.2.2.2.2.1 r3.2.1.1 r3.2.1.2.1 r3.2.1.2.2.1 r3.2.1.2.2.2.1 x13 x14 x15 x16 x17 x18 x19 x20 x21 x22 (x23++[(1,(x0,((List.getD x2 (Int.toNat x1) (Ty.dflt TPut)).1,((List.getD x2 (Int.toNat x1) (Ty.dflt TPut)).2.2.1,(0,(0,()))))))]) r4.1)))))))))
 else
 ((spec_l9Seal.f k x23 x0 3).bind fun r5 =>
 ((spec_l12Add_ga.f k ((x5,(x3,())),(x4,(x6,(x7,(x8,()))))) (x9,(x10,(x11,(x12,())))) r5.1).bind fun r6 =>
 (bif (r6.2.2.2.1 != 0) then
 (some (r6.1,(r6.2.1,r6.2.2.2)))
 else
 ((spec_l12Active.f k r6.1).bind fun r7 =>
 ((spec_Sync.f k r6.2.1 r7.1).bind fun r8 =>
 (bif (r8.2.1 != 0) then
 ((spec_l11Code.f k r8.2.1).bind fun r9 =>
 (some (r6.1,(r8.1,r9))))
 else
 (some ((r6.1.1,(x24,r6.1.2.2)),(r8.1,(0,())))))))))))
def l0 (k:Nat):Nat→T0
 | 0=>fun _ _ _ _ _ _ _ _ _ _ _ _ _ _ _ _ _ _ _ _ _ _ _ _ _=>none
 | n+1=>b0 k (l0 k n)
def t (k:Nat) (L0:T0) (a0:Ty.den TStore) (a1:Ty.den TDisk) (a2:List (Ty.den TPut)):Rs :=
 (rm (Ty.bytes TEntry) (0+List.length a0.2.1)
 (L0 a0.2.2.1 0 a2 a0.1.2.1 a0.2.1 a0.1.1 (w64 (a0.2.2.1+1)) a0.2.2.2.1 a0.2.2.2.2.1 a1.1 a1.2.1 a1.2.2.1 a1.2.2.2.1 [] [] 0 0 0 0 [] 0 0 false [] ([]++a0.2.1)))
def f (k:Nat):=t k (l0 k k)
end spec_l12Commit_ga
namespace spec_Commit_g2
abbrev Rs:Type:=Option ((Ty.den TStore) × (Ty.den TDisk) × Int × Unit)
def t (k:Nat) (a0:Ty.den TStore) (a1:Ty.den TDisk) (a2:List (Ty.den TPut)):Rs :=
 ((spec_l12Copy.f k a0).bind fun r1 =>
 ((spec_l3Copy.f k a1).bind fun r2 =>
 ((spec_StoreOk.f k a0 a1).bind fun r3 =>
 (bif (!r3.1) then
 (some (r1.1,(r2.1,(4,()))))
 else
 ((spec_PutsOk.f k a2).bind fun r4 =>
 (bif (!r4.1) then
 (some (r1.1,(r2.1,(4,()))))
 else
 (bif ((List.length a2:Int)==0) then
 (some (r1.1,(r2.1,(0,()))))
 else
 ((spec_l12After.f k a0.2.1 a2).bind fun r5 =>
 (bif (decide (r5.1 > 20)) then
 (some (r1.1,(r2.1,(5,()))))
 else
 (bif (decide (a0.2.2.1 > 1000000)) then
 (some (r1.1,(r2.1,(5,()))))
 else
 ((spec_l12Commit_ga.f k r1.1 r2.1 a2).bind fun r6 =>
 (some r6))))))))))))
def f (k:Nat):=t k
end spec_Commit_g2
namespace spec_l16Commit_g
abbrev Rs:Type:=Option ((Ty.den TEngine) × (Ty.den TAnswer) × Unit)
def t (k:Nat) (a0:Ty.den TEngine) (a1:Ty.den TStep):Rs :=
 (inb a1.2.1 (List.length a0.2.2.2.1:Int)
 (inb a1.2.1 (List.length a0.2.2.2.1:Int)
 (let l1:=(List.set a0.2.2.2.1 (Int.toNat a1.2.1) (false,([],([],()))));
 ((spec_Valid.f k (List.getD a0.2.2.2.1 (Int.toNat a1.2.1) (Ty.dflt TTxn)) a0.2.1.2.1).bind fun r2 =>
 (bif (!r2.1) then
 (some ((a0.1,(a0.2.1,(a0.2.2.1,(l1,())))),((7,(ByteArray.empty,([],()))),())))
 else
 ((spec_NetWrites.f k (List.getD a0.2.2.2.1 (Int.toNat a1.2.1) (Ty.dflt TTxn))).bind fun r3 =>
 ((spec_Commit_g2.f k a0.2.1 a0.2.2.1 r3.1).bind fun r4 =>
 (some ((a0.1,(r4.1,(r4.2.1,(l1,())))),((r4.2.2.1,(ByteArray.empty,([],()))),()))))))))))
def f (k:Nat):=t k
end spec_l16Commit_g
namespace spec_TxnWrite
abbrev Rs:Type:=Option ((Ty.den TTxn) × Bool × Unit)
def t (k:Nat) (a0:Ty.den TTxn) (a1:Ty.den TPut):Rs :=
 ((spec_l15Copy.f k a0).bind fun r1 =>
 (bif (!a0.1) then
 (some (r1.1,(false,())))
 else
 ((spec_PutsOk.f k [a1]).bind fun r2 =>
 (bif (!r2.1) then
 (some (r1.1,(false,())))
 else
 (rm (Ty.bytes TPut) (List.length r1.1.2.2.1+1)
 ((spec_NetWrites.f k (r1.1.1,(r1.1.2.1,((r1.1.2.2.1++[a1]),())))).bind fun r3 =>
 (bif (decide ((List.length r3.1:Int) > 8)) then
 ((spec_l15Copy.f k a0).bind fun r4 =>
 (some (r4.1,(false,()))))
 else
 (bif (decide ((List.length (r1.1.2.2.1++[a1]):Int) > 50)) then
 ((spec_l15Copy.f k a0).bind fun r5 =>
 (some (r5.1,(false,()))))
 else
 (some ((r1.1.1,(r1.1.2.1,((r1.1.2.2.1++[a1]),()))),(true,())))))))))))
def f (k:Nat):=t k
end spec_TxnWrite
namespace spec_EngineStep_g
abbrev Rs:Type:=Option ((Ty.den TEngine) × (Ty.den TAnswer) × Unit)
def t (k:Nat) (a0:Ty.den TEngine) (a1:Ty.den TStep):Rs :=
 ((spec_l16Copy.f k a0).bind fun r1 =>
 (bif (a1.1==10) then
 (bif a0.1 then
 (some (r1.1,((4,(ByteArray.empty,([],()))),())))
 else
 ((spec_EngineNew_g.f k a0.2.2.1).bind fun r2 =>
 (some (r2.1,((r2.2.1,(ByteArray.empty,([],()))),())))))
 else
 (bif (a1.1==11) then
 ((spec_DiskOk.f k a0.2.2.1).bind fun r3 =>
 (bif (!r3.1) then
 (some (r1.1,((4,(ByteArray.empty,([],()))),())))
 else
 ((spec_Used.f k a0.2.2.1).bind fun r4 =>
 ((spec_l1In.f k a1.2.2.2.2.1 0 (w64 (100000-r4.1))).bind fun r5 =>
 (bif (!r5.1) then
 (some (r1.1,((4,(ByteArray.empty,([],()))),())))
 else
 ((spec_Used.f k a0.2.2.1).bind fun r6 =>
 (some ((r1.1.1,(r1.1.2.1,((r1.1.2.2.1.1,((w64 (r6.1+a1.2.2.2.2.1)),r1.1.2.2.1.2.2)),r1.1.2.2.2))),((0,(ByteArray.empty,([],()))),())))))))))
 else
 (bif (!a0.1) then
 (some (r1.1,((6,(ByteArray.empty,([],()))),())))
 else
 (bif (a1.1==7) then
 ((spec_Merge.f k r1.1.2.1 r1.1.2.2.1).bind fun r7 =>
 (some ((r1.1.1,(r7.1,(r7.2.1,r1.1.2.2.2))),((r7.2.2.1,(ByteArray.empty,([],()))),()))))
 else
 (bif (a1.1==8) then
 ((spec_DirKeys.f k r1.1.2.1.2.1).bind fun r8 =>
 (some (r1.1,((0,(ByteArray.empty,r8)),()))))
 else
 (bif (a1.1==9) then
 (mks (Ty.bytes TTxn) 3
 (some ((false,(((0,([],())),([],(0,(0,(0,()))))),(r1.1.2.2.1,((List.replicate (Int.toNat 3) (Ty.dflt TTxn)),())))),((0,(ByteArray.empty,([],()))),()))))
 else
 ((spec_l1In.f k a1.2.1 0 (w64 ((List.length a0.2.2.2.1:Int)-1))).bind fun r9 =>
 (bif (!r9.1) then
 (some (r1.1,((4,(ByteArray.empty,([],()))),())))
 else
 ((spec_l1In.f k a1.1 1 6).bind fun r10 =>
 (bif (!r10.1) then
 (some (r1.1,((4,(ByteArray.empty,([],()))),())))
 else
 (bif (a1.1==1) then
 (inb a1.2.1 (List.length a0.2.2.2.1:Int)
 (bif (List.getD a0.2.2.2.1 (Int.toNat a1.2.1) (Ty.dflt TTxn)).1 then
 (some (r1.1,((4,(ByteArray.empty,([],()))),())))
 else
 (bif (a1.1 != 1) then
 (inb a1.2.1 (List.length a0.2.2.2.1:Int)
 (bif (!(List.getD a0.2.2.2.1 (Int.toNat a1.2.1) (Ty.dflt TTxn)).1) then
 (some (r1.1,((4,(ByteArray.empty,([],()))),())))
 else
 (bif (a1.1==1) then
 (inb a1.2.1 (List.length r1.1.2.2.2.1:Int)
 (let l11:=(List.set r1.1.2.2.2.1 (Int.toNat a1.2.1) (true,([],([],()))));
 (some ((r1.1.1,(r1.1.2.1,(r1.1.2.2.1,(l11,())))),((0,(ByteArray.empty,([],()))),())))))
 else
 (bif (a1.1==6) then
 (inb a1.2.1 (List.length r1.1.2.2.2.1:Int)
 (let l12:=(List.set r1.1.2.2.2.1 (Int.toNat a1.2.1) (false,([],([],()))));
 (some ((r1.1.1,(r1.1.2.1,(r1.1.2.2.1,(l12,())))),((0,(ByteArray.empty,([],()))),())))))
 else
 (bif (a1.1==2) then
 ((spec_l16Get_g.f k r1.1 a1).bind fun r13 =>
 (some r13))
 else
 (bif (a1.1==5) then
 ((spec_l16Commit_g.f k r1.1 a1).bind fun r14 =>
 (some r14))
 else
 ((spec_PutsOk.f k [(a1.2.2.1,((a1.1==4),(a1.2.2.2.1,())))]).bind fun r15 =>
 (bif (!r15.1) then
 (some (r1.1,((4,(ByteArray.empty,([],()))),())))
 else
 (inb a1.2.1 (List.length r1.1.2.2.2.1:Int)
 ((spec_TxnWrite.f k (List.getD r1.1.2.2.2.1 (Int.toNat a1.2.1) (Ty.dflt TTxn)) (a1.2.2.1,((a1.1==4),(a1.2.2.2.1,())))).bind fun r16 =>
 (bif (!r16.2.1) then
 (some (r1.1,((5,(ByteArray.empty,([],()))),())))
 else
 (inb a1.2.1 (List.length r1.1.2.2.2.1:Int)
 (let l17:=(List.set r1.1.2.2.2.1 (Int.toNat a1.2.1) r16.1);
 (some ((r1.1.1,(r1.1.2.1,(r1.1.2.2.1,(l17,())))),((0,(ByteArray.empty,([],()))),()))))))))))))))))
 else
 (bif (a1.1==1) then
 (inb a1.2.1 (List.length r1.1.2.2.2.1:Int)
 (let l18:=(List.set r1.1.2.2.2.1 (Int.toNat a1.2.1) (true,([],([],()))));
 (some ((r1.1.1,(r1.1.2.1,(r1.1.2.2.1,(l18,())))),((0,(ByteArray.empty,([],()))),())))))
 else
 (bif (a1.1==6) then
 (inb a1.2.1 (List.length r1.1.2.2.2.1:Int)
 (let l19:=(List.set r1.1.2.2.2.1 (Int.toNat a1.2.1) (false,([],([],()))));
 (some ((r1.1.1,(r1.1.2.1,(r1.1.2.2.1,(l19,())))),((0,(ByteArray.empty,([],()))),())))))
 else
 (bif (a1.1==2) then
 ((spec_l16Get_g.f k r1.1 a1).bind fun r20 =>
 (some r20))
 else
 (bif (a1.1==5) then
 ((spec_l16Commit_g.f k r1.1 a1).bind fun r21 =>
 (some r21))
 else
 ((spec_PutsOk.f k [(a1.2.2.1,((a1.1==4),(a1.2.2.2.1,())))]).bind fun r22 =>
 (bif (!r22.1) then
 (some (r1.1,((4,(ByteArray.empty,([],()))),())))
 else
 (inb a1.2.1 (List.length r1.1.2.2.2.1:Int)
 ((spec_TxnWrite.f k (List.getD r1.1.2.2.2.1 (Int.toNat a1.2.1) (Ty.dflt TTxn)) (a1.2.2.1,((a1.1==4),(a1.2.2.2.1,())))).bind fun r23 =>
 (bif (!r23.2.1) then
 (some (r1.1,((5,(ByteArray.empty,([],()))),())))
 else
 (inb a1.2.1 (List.length r1.1.2.2.2.1:Int)
 (let l24:=(List.set r1.1.2.2.2.1 (Int.toNat a1.2.1) r23.1);
 (some ((r1.1.1,(r1.1.2.1,(r1.1.2.2.1,(l24,())))),((0,(ByteArray.empty,([],()))),())))))))))))))))))
 else
 (bif (a1.1 != 1) then
 (inb a1.2.1 (List.length a0.2.2.2.1:Int)
 (bif (!(List.getD a0.2.2.2.1 (Int.toNat a1.2.1) (Ty.dflt TTxn)).1) then
 (some (r1.1,((4,(ByteArray.empty,([],()))),())))
 else
 (bif (a1.1==1) then
 (inb a1.2.1 (List.length r1.1.2.2.2.1:Int)
 (let l25:=(List.set r1.1.2.2.2.1 (Int.toNat a1.2.1) (true,([],([],()))));
 (some ((r1.1.1,(r1.1.2.1,(r1.1.2.2.1,(l25,())))),((0,(ByteArray.empty,([],()))),())))))
 else
 (bif (a1.1==6) then
 (inb a1.2.1 (List.length r1.1.2.2.2.1:Int)
 (let l26:=(List.set r1.1.2.2.2.1 (Int.toNat a1.2.1) (false,([],([],()))));
 (some ((r1.1.1,(r1.1.2.1,(r1.1.2.2.1,(l26,())))),((0,(ByteArray.empty,([],()))),())))))
 else
 (bif (a1.1==2) then
 ((spec_l16Get_g.f k r1.1 a1).bind fun r27 =>
 (some r27))
 else
 (bif (a1.1==5) then
 ((spec_l16Commit_g.f k r1.1 a1).bind fun r28 =>
 (some r28))
 else
 ((spec_PutsOk.f k [(a1.2.2.1,((a1.1==4),(a1.2.2.2.1,())))]).bind fun r29 =>
 (bif (!r29.1) then
 (some (r1.1,((4,(ByteArray.empty,([],()))),())))
 else
 (inb a1.2.1 (List.length r1.1.2.2.2.1:Int)
 ((spec_TxnWrite.f k (List.getD r1.1.2.2.2.1 (Int.toNat a1.2.1) (Ty.dflt TTxn)) (a1.2.2.1,((a1.1==4),(a1.2.2.2.1,())))).bind fun r30 =>
 (bif (!r30.2.1) then
 (some (r1.1,((5,(ByteArray.empty,([],()))),())))
 else
 (inb a1.2.1 (List.length r1.1.2.2.2.1:Int)
 (let l31:=(List.set r1.1.2.2.2.1 (Int.toNat a1.2.1) r30.1);
 (some ((r1.1.1,(r1.1.2.1,(r1.1.2.2.1,(l31,())))),((0,(ByteArray.empty,([],()))),()))))))))))))))))
 else
 (bif (a1.1==1) then
 (inb a1.2.1 (List.length r1.1.2.2.2.1:Int)
 (let l32:=(List.set r1.1.2.2.2.1 (Int.toNat a1.2.1) (true,([],([],()))));
 (some ((r1.1.1,(r1.1.2.1,(r1.1.2.2.1,(l32,())))),((0,(ByteArray.empty,([],()))),())))))
 else
 (bif (a1.1==6) then
 (inb a1.2.1 (List.length r1.1.2.2.2.1:Int)
 (let l33:=(List.set r1.1.2.2.2.1 (Int.toNat a1.2.1) (false,([],([],()))));
 (some ((r1.1.1,(r1.1.2.1,(r1.1.2.2.1,(l33,())))),((0,(ByteArray.empty,([],()))),())))))
 else
 (bif (a1.1==2) then
 ((spec_l16Get_g.f k r1.1 a1).bind fun r34 =>
 (some r34))
 else
 (bif (a1.1==5) then
 ((spec_l16Commit_g.f k r1.1 a1).bind fun r35 =>
 (some r35))
 else
 ((spec_PutsOk.f k [(a1.2.2.1,((a1.1==4),(a1.2.2.2.1,())))]).bind fun r36 =>
 (bif (!r36.1) then
 (some (r1.1,((4,(ByteArray.empty,([],()))),())))
 else
 (inb a1.2.1 (List.length r1.1.2.2.2.1:Int)
 ((spec_TxnWrite.f k (List.getD r1.1.2.2.2.1 (Int.toNat a1.2.1) (Ty.dflt TTxn)) (a1.2.2.1,((a1.1==4),(a1.2.2.2.1,())))).bind fun r37 =>
 (bif (!r37.2.1) then
 (some (r1.1,((5,(ByteArray.empty,([],()))),())))
 else
 (inb a1.2.1 (List.length r1.1.2.2.2.1:Int)
 (let l38:=(List.set r1.1.2.2.2.1 (Int.toNat a1.2.1) r37.1);
 (some ((r1.1.1,(r1.1.2.1,(r1.1.2.2.1,(l38,())))),((0,(ByteArray.empty,([],()))),())))))))))))))))))))))))))))
def f (k:Nat):=t k
end spec_EngineStep_g
namespace spec_Run
abbrev Rs:Type:=Option ((Ty.den TResult) × Unit)
abbrev T1:Type:=List (Ty.den TStep)→Int→List Int→List (Ty.den TEntry)→List (Ty.den TPair)→List (Ty.den TTxn)→List (Ty.den TAnswer)→List (Ty.den TAck)→List (Ty.den TPut)→Bool→Int→Int→Int→Int→Int→Int→Bool→List Int→List (Ty.den TEntry)→List (Ty.den TPair)→List (Ty.den TTxn)→List (Ty.den TAnswer)→List (Ty.den TAck)→List (Ty.den TPut)→Bool→Int→Int→Int→Int→Int→Int→Bool→Rs
abbrev T0:Type:=List (Ty.den TStep)→Int→List Int→List (Ty.den TEntry)→List (Ty.den TPair)→List (Ty.den TTxn)→List (Ty.den TAnswer)→List (Ty.den TAck)→List (Ty.den TPut)→Bool→Int→Int→Int→Int→Int→Int→Bool→List Int→List (Ty.den TEntry)→List (Ty.den TPair)→List (Ty.den TTxn)→List (Ty.den TAnswer)→List (Ty.den TAck)→List (Ty.den TPut)→Bool→Int→Int→Int→Int→Int→Int→Bool→Rs
def b1 (k:Nat) (L1:T1):T1:=fun x0 x1 x2 x3 x4 x5 x6 x7 x8 x9 x10 x11 x12 x13 x14 x15 x16 x17 x18 x19 x20 x21 x22 x23 x24 x25 x26 x27 x28 x29 x30 x31 =>
 (bif (decide (x1<(x0.length:Int))) then
 (bif (decide (x1<300)) then
 (inb x1 (x0.length:Int)
 (bif ((List.getD x0 (Int.toNat x1) (Ty.dflt TStep)).1==5) then
 (bif x24 then
 ((spec_l1In.f k (List.getD x0 (Int.toNat x1) (Ty.dflt TStep)).2.1 0 (w64 ((x20.length:Int)-1))).bind fun r5 =>
 (bif r5.1 then
 (inb (List.getD x0 (Int.toNat x1) (Ty.dflt TStep)).2.1 (x20.length:Int)
 (bif (List.getD x20 (Int.toNat (List.getD x0 (Int.toNat x1) (Ty.dflt TStep)).2.1) (Ty.dflt TTxn)).1 then
 (inb (List.getD x0 (Int.toNat x1) (Ty.dflt TStep)).2.1 (x20.length:Int)
 ((spec_NetWrites.f k (List.getD x20 (Int.toNat (List.getD x0 (Int.toNat x1) (Ty.dflt TStep)).2.1) (Ty.dflt TTxn))).bind fun r6 =>
 ((spec_EngineStep_g.f k (x24,(((x25,(x17,())),(x18,(x26,(x27,(x28,()))))),((x19,(x29,(x30,(x31,())))),(x20,())))) (List.getD x0 (Int.toNat x1) (Ty.dflt TStep))).bind fun r7 =>
 (rm (Ty.bytes TAnswer) (List.length x21+1)
 (bif (r7.2.1.1==0) then
 (bif (decide ((List.length r6.1:Int) > 0)) then
 (rm (Ty.bytes TAck) (List.length x22+1)
 (bif (r7.2.1.1==1) then
 (some ((r7.1,((x21++[r7.2.1]),((x22++[(x26,r6)]),r6))),()))
 else
 (L1 x0 (w64 (x1+1)) x2 x3 x4 x5 x6 x7 x8 x9 x10 x11 x12 x13 x14 x15 x16 r7.1.2.1.1.2.1 r7.1.2.1.2.1 r7.1.2.2.1.1 r7.1.2.2.2.1 (x21++[r7.2.1]) (x22++[(x26,r6)]) x23 r7.1.1 r7.1.2.1.1.1 r7.1.2.1.2.2.1 r7.1.2.1.2.2.2.1 r7.1.2.1.2.2.2.2.1 r7.1.2.2.1.2.1 r7.1.2.2.1.2.2.1 r7.1.2.2.1.2.2.2.1)))
 else
 (bif (r7.2.1.1==1) then
 (some ((r7.1,((x21++[r7.2.1]),(x22,r6))),()))
 else
 (L1 x0 (w64 (x1+1)) x2 x3 x4 x5 x6 x7 x8 x9 x10 x11 x12 x13 x14 x15 x16 r7.1.2.1.1.2.1 r7.1.2.1.2.1 r7.1.2.2.1.1 r7.1.2.2.2.1 (x21++[r7.2.1]) x22 x23 r7.1.1 r7.1.2.1.1.1 r7.1.2.1.2.2.1 r7.1.2.1.2.2.2.1 r7.1.2.1.2.2.2.2.1 r7.1.2.2.1.2.1 r7.1.2.2.1.2.2.1 r7.1.2.2.1.2.2.2.1)))
 else
 (bif (r7.2.1.1==1) then
 (some ((r7.1,((x21++[r7.2.1]),(x22,r6))),()))
 else
 (L1 x0 (w64 (x1+1)) x2 x3 x4 x5 x6 x7 x8 x9 x10 x11 x12 x13 x14 x15 x16 r7.1.2.1.1.2.1 r7.1.2.1.2.1 r7.1.2.2.1.1 r7.1.2.2.2.1 (x21++[r7.2.1]) x22 x23 r7.1.1 r7.1.2.1.1.1 r7.1.2.1.2.2.1 r7.1.2.1.2.2.2.1 r7.1.2.1.2.2.2.2.1 r7.1.2.2.1.2.1 r7.1.2.2.1.2.2.1 r7.1.2.2.1.2.2.2.1)))))))
 else
 ((spec_EngineStep_g.f k (x24,(((x25,(x17,())),(x18,(x26,(x27,(x28,()))))),((x19,(x29,(x30,(x31,())))),(x20,())))) (List.getD x0 (Int.toNat x1) (Ty.dflt TStep))).bind fun r8 =>
 (rm (Ty.bytes TAnswer) (List.length x21+1)
 (bif (r8.2.1.1==0) then
 (bif (r8.2.1.1==1) then
 (some ((r8.1,((x21++[r8.2.1]),(x22,([],())))),()))
 else
 (L1 x0 (w64 (x1+1)) x2 x3 x4 x5 x6 x7 x8 x9 x10 x11 x12 x13 x14 x15 x16 r8.1.2.1.1.2.1 r8.1.2.1.2.1 r8.1.2.2.1.1 r8.1.2.2.2.1 (x21++[r8.2.1]) x22 x23 r8.1.1 r8.1.2.1.1.1 r8.1.2.1.2.2.1 r8.1.2.1.2.2.2.1 r8.1.2.1.2.2.2.2.1 r8.1.2.2.1.2.1 r8.1.2.2.1.2.2.1 r8.1.2.2.1.2.2.2.1))
 else
 (bif (r8.2.1.1==1) then
 (some ((r8.1,((x21++[r8.2.1]),(x22,([],())))),()))
 else
 (L1 x0 (w64 (x1+1)) x2 x3 x4 x5 x6 x7 x8 x9 x10 x11 x12 x13 x14 x15 x16 r8.1.2.1.1.2.1 r8.1.2.1.2.1 r8.1.2.2.1.1 r8.1.2.2.2.1 (x21++[r8.2.1]) x22 x23 r8.1.1 r8.1.2.1.1.1 r8.1.2.1.2.2.1 r8.1.2.1.2.2.2.1 r8.1.2.1.2.2.2.2.1 r8.1.2.2.1.2.1 r8.1.2.2.1.2.2.1 r8.1.2.2.1.2.2.2.1)))))))
 else
 ((spec_EngineStep_g.f k (x24,(((x25,(x17,())),(x18,(x26,(x27,(x28,()))))),((x19,(x29,(x30,(x31,())))),(x20,())))) (List.getD x0 (Int.toNat x1) (Ty.dflt TStep))).bind fun r9 =>
 (rm (Ty.bytes TAnswer) (List.length x21+1)
 (bif (r9.2.1.1==0) then
 (bif (r9.2.1.1==1) then
 (some ((r9.1,((x21++[r9.2.1]),(x22,([],())))),()))
 else
 (L1 x0 (w64 (x1+1)) x2 x3 x4 x5 x6 x7 x8 x9 x10 x11 x12 x13 x14 x15 x16 r9.1.2.1.1.2.1 r9.1.2.1.2.1 r9.1.2.2.1.1 r9.1.2.2.2.1 (x21++[r9.2.1]) x22 x23 r9.1.1 r9.1.2.1.1.1 r9.1.2.1.2.2.1 r9.1.2.1.2.2.2.1 r9.1.2.1.2.2.2.2.1 r9.1.2.2.1.2.1 r9.1.2.2.1.2.2.1 r9.1.2.2.1.2.2.2.1))
 else
 (bif (r9.2.1.1==1) then
 (some ((r9.1,((x21++[r9.2.1]),(x22,([],())))),()))
 else
 (L1 x0 (w64 (x1+1)) x2 x3 x4 x5 x6 x7 x8 x9 x10 x11 x12 x13 x14 x15 x16 r9.1.2.1.1.2.1 r9.1.2.1.2.1 r9.1.2.2.1.1 r9.1.2.2.2.1 (x21++[r9.2.1]) x22 x23 r9.1.1 r9.1.2.1.1.1 r9.1.2.1.2.2.1 r9.1.2.1.2.2.2.1 r9.1.2.1.2.2.2.2.1 r9.1.2.2.1.2.1 r9.1.2.2.1.2.2.1 r9.1.2.2.1.2.2.2.1)))))))
 else
 ((spec_EngineStep_g.f k (x24,(((x25,(x17,())),(x18,(x26,(x27,(x28,()))))),((x19,(x29,(x30,(x31,())))),(x20,())))) (List.getD x0 (Int.toNat x1) (Ty.dflt TStep))).bind fun r10 =>
 (rm (Ty.bytes TAnswer) (List.length x21+1)
 (bif (r10.2.1.1==0) then
 (bif (r10.2.1.1==1) then
 (some ((r10.1,((x21++[r10.2.1]),(x22,([],())))),()))
 else
 (L1 x0 (w64 (x1+1)) x2 x3 x4 x5 x6 x7 x8 x9 x10 x11 x12 x13 x14 x15 x16 r10.1.2.1.1.2.1 r10.1.2.1.2.1 r10.1.2.2.1.1 r10.1.2.2.2.1 (x21++[r10.2.1]) x22 x23 r10.1.1 r10.1.2.1.1.1 r10.1.2.1.2.2.1 r10.1.2.1.2.2.2.1 r10.1.2.1.2.2.2.2.1 r10.1.2.2.1.2.1 r10.1.2.2.1.2.2.1 r10.1.2.2.1.2.2.2.1))
 else
 (bif (r10.2.1.1==1) then
 (some ((r10.1,((x21++[r10.2.1]),(x22,([],())))),()))
 else
 (L1 x0 (w64 (x1+1)) x2 x3 x4 x5 x6 x7 x8 x9 x10 x11 x12 x13 x14 x15 x16 r10.1.2.1.1.2.1 r10.1.2.1.2.1 r10.1.2.2.1.1 r10.1.2.2.2.1 (x21++[r10.2.1]) x22 x23 r10.1.1 r10.1.2.1.1.1 r10.1.2.1.2.2.1 r10.1.2.1.2.2.2.1 r10.1.2.1.2.2.2.2.1 r10.1.2.2.1.2.1 r10.1.2.2.1.2.2.1 r10.1.2.2.1.2.2.2.1))))))
 else
 ((spec_EngineStep_g.f k (x24,(((x25,(x17,())),(x18,(x26,(x27,(x28,()))))),((x19,(x29,(x30,(x31,())))),(x20,())))) (List.getD x0 (Int.toNat x1) (Ty.dflt TStep))).bind fun r11 =>
 (rm (Ty.bytes TAnswer) (List.length x21+1)
 (bif (r11.2.1.1==0) then
 (bif (r11.2.1.1==1) then
 (some ((r11.1,((x21++[r11.2.1]),(x22,([],())))),()))
 else
 (L1 x0 (w64 (x1+1)) x2 x3 x4 x5 x6 x7 x8 x9 x10 x11 x12 x13 x14 x15 x16 r11.1.2.1.1.2.1 r11.1.2.1.2.1 r11.1.2.2.1.1 r11.1.2.2.2.1 (x21++[r11.2.1]) x22 x23 r11.1.1 r11.1.2.1.1.1 r11.1.2.1.2.2.1 r11.1.2.1.2.2.2.1 r11.1.2.1.2.2.2.2.1 r11.1.2.2.1.2.1 r11.1.2.2.1.2.2.1 r11.1.2.2.1.2.2.2.1))
 else
 (bif (r11.2.1.1==1) then
 (some ((r11.1,((x21++[r11.2.1]),(x22,([],())))),()))
 else
 (L1 x0 (w64 (x1+1)) x2 x3 x4 x5 x6 x7 x8 x9 x10 x11 x12 x13 x14 x15 x16 r11.1.2.1.1.2.1 r11.1.2.1.2.1 r11.1.2.2.1.1 r11.1.2.2.2.1 (x21++[r11.2.1]) x22 x23 r11.1.1 r11.1.2.1.1.1 r11.1.2.1.2.2.1 r11.1.2.1.2.2.2.1 r11.1.2.1.2.2.2.2.1 r11.1.2.2.1.2.1 r11.1.2.2.1.2.2.1 r11.1.2.2.1.2.2.2.1)))))))
 else
 (some (((x24,(((x25,(x17,())),(x18,(x26,(x27,(x28,()))))),((x19,(x29,(x30,(x31,())))),(x20,())))),(x21,(x22,(x23,())))),())))
 else
 (some (((x24,(((x25,(x17,())),(x18,(x26,(x27,(x28,()))))),((x19,(x29,(x30,(x31,())))),(x20,())))),(x21,(x22,(x23,())))),())))
def l1 (k:Nat):Nat→T1
 | 0=>fun _ _ _ _ _ _ _ _ _ _ _ _ _ _ _ _ _ _ _ _ _ _ _ _ _ _ _ _ _ _ _ _=>none
 | n+1=>b1 k (l1 k n)
def b0 (k:Nat) (L1:T1):T0:=fun x0 x1 x2 x3 x4 x5 x6 x7 x8 x9 x10 x11 x12 x13 x14 x15 x16 x17 x18 x19 x20 x21 x22 x23 x24 x25 x26 x27 x28 x29 x30 x31 =>
 (bif (decide (x1<(x0.length:Int))) then
 (bif (decide (x1<300)) then
 (inb x1 (x0.length:Int)
 (bif ((List.getD x0 (Int.toNat x1) (Ty.dflt TStep)).1==5) then
 (bif x24 then
 ((spec_l1In.f k (List.getD x0 (Int.toNat x1) (Ty.dflt TStep)).2.1 0 (w64 ((x20.length:Int)-1))).bind fun r2 =>
 (bif r2.1 then
 (inb (List.getD x0 (Int.toNat x1) (Ty.dflt TStep)).2.1 (x20.length:Int)
 (bif (List.getD x20 (Int.toNat (List.getD x0 (Int.toNat x1) (Ty.dflt TStep)).2.1) (Ty.dflt TTxn)).1 then
 (inb (List.getD x0 (Int.toNat x1) (Ty.dflt TStep)).2.1 (x20.length:Int)
 ((spec_NetWrites.f k (List.getD x20 (Int.toNat (List.getD x0 (Int.toNat x1) (Ty.dflt TStep)).2.1) (Ty.dflt TTxn))).bind fun r3 =>
 ((spec_EngineStep_g.f k (x24,(((x25,(x17,())),(x18,(x26,(x27,(x28,()))))),((x19,(x29,(x30,(x31,())))),(x20,())))) (List.getD x0 (Int.toNat x1) (Ty.dflt TStep))).bind fun r4 =>
 (rm (Ty.bytes TAnswer) (List.length x21+1)
 (bif (r4.2.1.1==0) then
 (bif (decide ((List.length r3.1:Int) > 0)) then
 (rm (Ty.bytes TAck) (List.length x22+1)
 (bif (r4.2.1.1==1) then
 (some ((r4.1,((x21++[r4.2.1]),((x22++[(x26,r3)]),r3))),()))
 else
 (L1 x0 (w64 (x1+1)) x2 x3 x4 x5 x6 x7 x8 x9 x10 x11 x12 x13 x14 x15 x16 r4.1.2.1.1.2.1 r4.1.2.1.2.1 r4.1.2.2.1.1 r4.1.2.2.2.1 (x21++[r4.2.1]) (x22++[(x26,r3)]) x23 r4.1.1 r4.1.2.1.1.1 r4.1.2.1.2.2.1 r4.1.2.1.2.2.2.1 r4.1.2.1.2.2.2.2.1 r4.1.2.2.1.2.1 r4.1.2.2.1.2.2.1 r4.1.2.2.1.2.2.2.1)))
 else
 (bif (r4.2.1.1==1) then
 (some ((r4.1,((x21++[r4.2.1]),(x22,r3))),()))
 else
 (L1 x0 (w64 (x1+1)) x2 x3 x4 x5 x6 x7 x8 x9 x10 x11 x12 x13 x14 x15 x16 r4.1.2.1.1.2.1 r4.1.2.1.2.1 r4.1.2.2.1.1 r4.1.2.2.2.1 (x21++[r4.2.1]) x22 x23 r4.1.1 r4.1.2.1.1.1 r4.1.2.1.2.2.1 r4.1.2.1.2.2.2.1 r4.1.2.1.2.2.2.2.1 r4.1.2.2.1.2.1 r4.1.2.2.1.2.2.1 r4.1.2.2.1.2.2.2.1)))
 else
 (bif (r4.2.1.1==1) then
 (some ((r4.1,((x21++[r4.2.1]),(x22,r3))),()))
 else
 (L1 x0 (w64 (x1+1)) x2 x3 x4 x5 x6 x7 x8 x9 x10 x11 x12 x13 x14 x15 x16 r4.1.2.1.1.2.1 r4.1.2.1.2.1 r4.1.2.2.1.1 r4.1.2.2.2.1 (x21++[r4.2.1]) x22 x23 r4.1.1 r4.1.2.1.1.1 r4.1.2.1.2.2.1 r4.1.2.1.2.2.2.1 r4.1.2.1.2.2.2.2.1 r4.1.2.2.1.2.1 r4.1.2.2.1.2.2.1 r4.1.2.2.1.2.2.2.1)))))))
 else
 ((spec_EngineStep_g.f k (x24,(((x25,(x17,())),(x18,(x26,(x27,(x28,()))))),((x19,(x29,(x30,(x31,())))),(x20,())))) (List.getD x0 (Int.toNat x1) (Ty.dflt TStep))).bind fun r12 =>
 (rm (Ty.bytes TAnswer) (List.length x21+1)
 (bif (r12.2.1.1==0) then
 (bif (r12.2.1.1==1) then
 (some ((r12.1,((x21++[r12.2.1]),(x22,([],())))),()))
 else
 (L1 x0 (w64 (x1+1)) x2 x3 x4 x5 x6 x7 x8 x9 x10 x11 x12 x13 x14 x15 x16 r12.1.2.1.1.2.1 r12.1.2.1.2.1 r12.1.2.2.1.1 r12.1.2.2.2.1 (x21++[r12.2.1]) x22 x23 r12.1.1 r12.1.2.1.1.1 r12.1.2.1.2.2.1 r12.1.2.1.2.2.2.1 r12.1.2.1.2.2.2.2.1 r12.1.2.2.1.2.1 r12.1.2.2.1.2.2.1 r12.1.2.2.1.2.2.2.1))
 else
 (bif (r12.2.1.1==1) then
 (some ((r12.1,((x21++[r12.2.1]),(x22,([],())))),()))
 else
 (L1 x0 (w64 (x1+1)) x2 x3 x4 x5 x6 x7 x8 x9 x10 x11 x12 x13 x14 x15 x16 r12.1.2.1.1.2.1 r12.1.2.1.2.1 r12.1.2.2.1.1 r12.1.2.2.2.1 (x21++[r12.2.1]) x22 x23 r12.1.1 r12.1.2.1.1.1 r12.1.2.1.2.2.1 r12.1.2.1.2.2.2.1 r12.1.2.1.2.2.2.2.1 r12.1.2.2.1.2.1 r12.1.2.2.1.2.2.1 r12.1.2.2.1.2.2.2.1)))))))
 else
 ((spec_EngineStep_g.f k (x24,(((x25,(x17,())),(x18,(x26,(x27,(x28,()))))),((x19,(x29,(x30,(x31,())))),(x20,())))) (List.getD x0 (Int.toNat x1) (Ty.dflt TStep))).bind fun r13 =>
 (rm (Ty.bytes TAnswer) (List.length x21+1)
 (bif (r13.2.1.1==0) then
 (bif (r13.2.1.1==1) then
 (some ((r13.1,((x21++[r13.2.1]),(x22,([],())))),()))
 else
 (L1 x0 (w64 (x1+1)) x2 x3 x4 x5 x6 x7 x8 x9 x10 x11 x12 x13 x14 x15 x16 r13.1.2.1.1.2.1 r13.1.2.1.2.1 r13.1.2.2.1.1 r13.1.2.2.2.1 (x21++[r13.2.1]) x22 x23 r13.1.1 r13.1.2.1.1.1 r13.1.2.1.2.2.1 r13.1.2.1.2.2.2.1 r13.1.2.1.2.2.2.2.1 r13.1.2.2.1.2.1 r13.1.2.2.1.2.2.1 r13.1.2.2.1.2.2.2.1))
 else
 (bif (r13.2.1.1==1) then
 (some ((r13.1,((x21++[r13.2.1]),(x22,([],())))),()))
 else
 (L1 x0 (w64 (x1+1)) x2 x3 x4 x5 x6 x7 x8 x9 x10 x11 x12 x13 x14 x15 x16 r13.1.2.1.1.2.1 r13.1.2.1.2.1 r13.1.2.2.1.1 r13.1.2.2.2.1 (x21++[r13.2.1]) x22 x23 r13.1.1 r13.1.2.1.1.1 r13.1.2.1.2.2.1 r13.1.2.1.2.2.2.1 r13.1.2.1.2.2.2.2.1 r13.1.2.2.1.2.1 r13.1.2.2.1.2.2.1 r13.1.2.2.1.2.2.2.1)))))))
 else
 ((spec_EngineStep_g.f k (x24,(((x25,(x17,())),(x18,(x26,(x27,(x28,()))))),((x19,(x29,(x30,(x31,())))),(x20,())))) (List.getD x0 (Int.toNat x1) (Ty.dflt TStep))).bind fun r14 =>
 (rm (Ty.bytes TAnswer) (List.length x21+1)
 (bif (r14.2.1.1==0) then
 (bif (r14.2.1.1==1) then
 (some ((r14.1,((x21++[r14.2.1]),(x22,([],())))),()))
 else
 (L1 x0 (w64 (x1+1)) x2 x3 x4 x5 x6 x7 x8 x9 x10 x11 x12 x13 x14 x15 x16 r14.1.2.1.1.2.1 r14.1.2.1.2.1 r14.1.2.2.1.1 r14.1.2.2.2.1 (x21++[r14.2.1]) x22 x23 r14.1.1 r14.1.2.1.1.1 r14.1.2.1.2.2.1 r14.1.2.1.2.2.2.1 r14.1.2.1.2.2.2.2.1 r14.1.2.2.1.2.1 r14.1.2.2.1.2.2.1 r14.1.2.2.1.2.2.2.1))
 else
 (bif (r14.2.1.1==1) then
 (some ((r14.1,((x21++[r14.2.1]),(x22,([],())))),()))
 else
 (L1 x0 (w64 (x1+1)) x2 x3 x4 x5 x6 x7 x8 x9 x10 x11 x12 x13 x14 x15 x16 r14.1.2.1.1.2.1 r14.1.2.1.2.1 r14.1.2.2.1.1 r14.1.2.2.2.1 (x21++[r14.2.1]) x22 x23 r14.1.1 r14.1.2.1.1.1 r14.1.2.1.2.2.1 r14.1.2.1.2.2.2.1 r14.1.2.1.2.2.2.2.1 r14.1.2.2.1.2.1 r14.1.2.2.1.2.2.1 r14.1.2.2.1.2.2.2.1))))))
 else
 ((spec_EngineStep_g.f k (x24,(((x25,(x17,())),(x18,(x26,(x27,(x28,()))))),((x19,(x29,(x30,(x31,())))),(x20,())))) (List.getD x0 (Int.toNat x1) (Ty.dflt TStep))).bind fun r15 =>
 (rm (Ty.bytes TAnswer) (List.length x21+1)
 (bif (r15.2.1.1==0) then
 (bif (r15.2.1.1==1) then
 (some ((r15.1,((x21++[r15.2.1]),(x22,([],())))),()))
 else
 (L1 x0 (w64 (x1+1)) x2 x3 x4 x5 x6 x7 x8 x9 x10 x11 x12 x13 x14 x15 x16 r15.1.2.1.1.2.1 r15.1.2.1.2.1 r15.1.2.2.1.1 r15.1.2.2.2.1 (x21++[r15.2.1]) x22 x23 r15.1.1 r15.1.2.1.1.1 r15.1.2.1.2.2.1 r15.1.2.1.2.2.2.1 r15.1.2.1.2.2.2.2.1 r15.1.2.2.1.2.1 r15.1.2.2.1.2.2.1 r15.1.2.2.1.2.2.2.1))
 else
 (bif (r15.2.1.1==1) then
 (some ((r15.1,((x21++[r15.2.1]),(x22,([],())))),()))
 else
 (L1 x0 (w64 (x1+1)) x2 x3 x4 x5 x6 x7 x8 x9 x10 x11 x12 x13 x14 x15 x16 r15.1.2.1.1.2.1 r15.1.2.1.2.1 r15.1.2.2.1.1 r15.1.2.2.2.1 (x21++[r15.2.1]) x22 x23 r15.1.1 r15.1.2.1.1.1 r15.1.2.1.2.2.1 r15.1.2.1.2.2.2.1 r15.1.2.1.2.2.2.2.1 r15.1.2.2.1.2.1 r15.1.2.2.1.2.2.1 r15.1.2.2.1.2.2.2.1)))))))
 else
 (some (((x24,(((x25,(x17,())),(x18,(x26,(x27,(x28,()))))),((x19,(x29,(x30,(x31,())))),(x20,())))),(x21,(x22,(x23,())))),())))
 else
 (some (((x24,(((x25,(x17,())),(x18,(x26,(x27,(x28,()))))),((x19,(x29,(x30,(x31,())))),(x20,())))),(x21,(x22,(x23,())))),())))
def l0 (k:Nat):Nat→T0
 | 0=>fun _ _ _ _ _ _ _ _ _ _ _ _ _ _ _ _ _ _ _ _ _ _ _ _ _ _ _ _ _ _ _ _=>none
 | n+1=>b0 k (l1 k n)
def t (k:Nat) (L0:T0) (a0:Ty.den TEngine) (a1:List (Ty.den TStep)):Rs :=
 ((spec_l16Copy.f k a0).bind fun r1 =>
 (L0 a1 0 [] [] [] [] [] [] [] false 0 0 0 0 0 0 false r1.1.2.1.1.2.1 r1.1.2.1.2.1 r1.1.2.2.1.1 r1.1.2.2.2.1 [] [] [] r1.1.1 r1.1.2.1.1.1 r1.1.2.1.2.2.1 r1.1.2.1.2.2.2.1 r1.1.2.1.2.2.2.2.1 r1.1.2.2.1.2.1 r1.1.2.2.1.2.2.1 r1.1.2.2.1.2.2.2.1))
def f (k:Nat):=t k (l0 k k)
end spec_Run
namespace spec_l27Text
abbrev Rs:Type:=Option (ByteArray × Unit)
abbrev T0:Type:=Int→Int→Int→List (Ty.den TPiece)→Rs
def b0 (k:Nat) (L0:T0):T0:=fun x0 x1 x2 x3 =>
 (bif (decide (x1<(x3.length:Int))) then
 (inb x1 (x3.length:Int)
 (bif ((List.getD x3 (Int.toNat x1) (Ty.dflt TPiece)).1==x0) then
 (inb x1 (x3.length:Int)
 (some (List.getD x3 (Int.toNat x1) (Ty.dflt TPiece)).2))
 else
 (L0 x0 (w64 (x1+1)) x2 x3)))
 else
 (some ((⟨#[]⟩:ByteArray),())))
def l0 (k:Nat):Nat→T0
 | 0=>fun _ _ _ _=>none
 | n+1=>b0 k (l0 k n)
def t (k:Nat) (L0:T0) (a0:Ty.den TFollower) (a1:Int):Rs :=
 (L0 a1 0 a0.1 a0.2.1)
def f (k:Nat):=t k (l0 k k)
end spec_l27Text
namespace spec_Ship
abbrev Rs:Type:=Option ((Ty.den TParcel) × Unit)
abbrev T0:Type:=Int→Int→List Int→List (Ty.den TEntry)→Int→Int→Int→List (Ty.den TPair)→Int→Int→Bool→Int→List (Ty.den TPiece)→List (Ty.den TBit)→Int→List (Ty.den TBit)→Int→Rs
def b0 (k:Nat) (L0:T0):T0:=fun x0 x1 x2 x3 x4 x5 x6 x7 x8 x9 x10 x11 x12 x13 x14 x15 x16 =>
 (bif (decide (x0<(x2.length:Int))) then
 (inb x0 (x2.length:Int)
 ((spec_SegName.f k (List.getD x2 (Int.toNat x0) (Ty.dflt (.int .i64)))).bind fun r2 =>
 ((spec_FileText.f k (x7,(x8,(x9,(x10,())))) r2.1).bind fun r3 =>
 ((spec_l27Text.f k (x11,(x12,())) (List.getD x2 (Int.toNat x0) (Ty.dflt (.int .i64)))).bind fun r4 =>
 (bif (decide ((ByteArray.size r4.1:Int)≤(ByteArray.size r3.1:Int))) then
 (inc (ByteArray.size r4.1:Int) (ByteArray.size r3.1:Int)
 (bif (seq (ByteArray.extract r3.1 0 (Int.toNat (ByteArray.size r4.1:Int))) r4.1) then
 (inc (ByteArray.size r4.1:Int) (ByteArray.size r3.1:Int)
 (rm (Ty.bytes TBit) (List.length x15+1)
 (L0 (w64 (x0+1)) x1 x2 x3 x4 x5 x6 x7 x8 x9 x10 x11 x12 x13 x14 (x15++[((List.getD x2 (Int.toNat x0) (Ty.dflt (.int .i64))),((ByteArray.size r4.1:Int),((ByteArray.extract r3.1 (Int.toNat (ByteArray.size r4.1:Int)) (ByteArray.size r3.1)),())))]) x16)))
 else
 (inc 0 (ByteArray.size r3.1:Int)
 (rm (Ty.bytes TBit) (List.length x15+1)
 (L0 (w64 (x0+1)) x1 x2 x3 x4 x5 x6 x7 x8 x9 x10 x11 x12 x13 x14 (x15++[((List.getD x2 (Int.toNat x0) (Ty.dflt (.int .i64))),(0,((ByteArray.extract r3.1 0 (ByteArray.size r3.1)),())))]) x16)))))
 else
 (inc 0 (ByteArray.size r3.1:Int)
 (rm (Ty.bytes TBit) (List.length x15+1)
 (L0 (w64 (x0+1)) x1 x2 x3 x4 x5 x6 x7 x8 x9 x10 x11 x12 x13 x14 (x15++[((List.getD x2 (Int.toNat x0) (Ty.dflt (.int .i64))),(0,((ByteArray.extract r3.1 0 (ByteArray.size r3.1)),())))]) x16))))))))
 else
 (some ((x16,(x15,())),())))
def l0 (k:Nat):Nat→T0
 | 0=>fun _ _ _ _ _ _ _ _ _ _ _ _ _ _ _ _ _=>none
 | n+1=>b0 k (l0 k n)
def t (k:Nat) (L0:T0) (a0:Ty.den TStore) (a1:Ty.den TDisk) (a2:Ty.den TFollower):Rs :=
 ((spec_StoreOk.f k a0 a1).bind fun r1 =>
 (bif (!r1.1) then
 (some ((0,([],())),()))
 else
 (L0 0 a0.1.1 a0.1.2.1 a0.2.1 a0.2.2.1 a0.2.2.2.1 a0.2.2.2.2.1 a1.1 a1.2.1 a1.2.2.1 a1.2.2.2.1 a2.1 a2.2.1 [] 0 [] a0.1.1)))
def f (k:Nat):=t k (l0 k k)
end spec_Ship
namespace spec_Receive
abbrev Rs:Type:=Option ((Ty.den TFollower) × Bool × Unit)
abbrev T0:Type:=Int→Int→List (Ty.den TPiece)→Int→List (Ty.den TBit)→List (Ty.den TPiece)→Int→List (Ty.den TPiece)→Int→List (Ty.den TPiece)→Int→List Int→Rs
def b0 (k:Nat) (L0:T0):T0:=fun x0 x1 x2 x3 x4 x5 x6 x7 x8 x9 x10 x11 =>
 (bif (decide (x0<(x4.length:Int))) then
 (inb x0 (x4.length:Int)
 ((spec_l27Text.f k (x1,(x2,())) (List.getD x4 (Int.toNat x0) (Ty.dflt TBit)).1).bind fun r1 =>
 ((spec_l1In.f k (List.getD x4 (Int.toNat x0) (Ty.dflt TBit)).2.1 0 (ByteArray.size r1.1:Int)).bind fun r2 =>
 (bif (!r2.1) then
 (some ((x8,(x7,())),(false,())))
 else
 (inc (List.getD x4 (Int.toNat x0) (Ty.dflt TBit)).2.1 (ByteArray.size r1.1:Int)
 (cat (ByteArray.extract r1.1 0 (Int.toNat (List.getD x4 (Int.toNat x0) (Ty.dflt TBit)).2.1)) (List.getD x4 (Int.toNat x0) (Ty.dflt TBit)).2.2.1
 (rm (Ty.bytes TPiece) (List.length x9+1)
 (rm (Ty.bytes (.int .i64)) (List.length x11+1)
 (L0 (w64 (x0+1)) x1 x2 x3 x4 x5 x6 x7 x8 (x9++[((List.getD x4 (Int.toNat x0) (Ty.dflt TBit)).1,(((ByteArray.extract r1.1 0 (Int.toNat (List.getD x4 (Int.toNat x0) (Ty.dflt TBit)).2.1))++(List.getD x4 (Int.toNat x0) (Ty.dflt TBit)).2.2.1),()))]) x10 (x11++[(List.getD x4 (Int.toNat x0) (Ty.dflt TBit)).1]))))))))))
 else
 ((spec_LiveOk.f k (x3,(x11,()))).bind fun r3 =>
 (bif (!r3.1) then
 (some ((x8,(x7,())),(false,())))
 else
 (some ((x10,(x9,())),(true,()))))))
def l0 (k:Nat):Nat→T0
 | 0=>fun _ _ _ _ _ _ _ _ _ _ _ _=>none
 | n+1=>b0 k (l0 k n)
def t (k:Nat) (L0:T0) (a0:Ty.den TFollower) (a1:Ty.den TParcel):Rs :=
 (rm (Ty.bytes TPiece) (0+List.length a0.2.1)
 (L0 0 a0.1 a0.2.1 a1.1 a1.2.1 [] 0 ([]++a0.2.1) a0.1 [] a1.1 []))
def f (k:Nat):=t k (l0 k k)
end spec_Receive
namespace spec_l27Some
abbrev Rs:Type:=Option ((Ty.den Tl1Cur) × (Ty.den TStore) × (Ty.den TDisk) × (Ty.den TFollower) × Unit)
def t (k:Nat) (a0:Ty.den Tl1Cur):Rs :=
 ((spec_DiskNew.f k 20000).bind fun r1 =>
 ((spec_EngineNew_g.f k r1.1).bind fun r2 =>
 ((spec_l18Script.f k a0 40).bind fun r3 =>
 ((spec_l1Below.f k r3.1 (w64 ((List.length r3.2.1.2.2.1:Int)+1))).bind fun r4 =>
 (inc r4.2.1 (List.length r3.2.1.2.2.1:Int)
 ((spec_Run.f k r2.1 (List.take (Int.toNat r4.2.1) r3.2.1.2.2.1)).bind fun r5 =>
 (bif r5.1.1.1 then
 ((spec_Ship.f k r5.1.1.2.1 r5.1.1.2.2.1 (0,([],()))).bind fun r6 =>
 ((spec_Receive.f k (0,([],())) r6.1).bind fun r7 =>
 (inc r4.2.1 (List.length r3.2.1.2.2.1:Int)
 ((spec_Run.f k r5.1.1 (List.drop (Int.toNat r4.2.1) r3.2.1.2.2.1)).bind fun r8 =>
 (bif (decide ((List.length r7.1.2.1:Int) > 0)) then
 ((spec_l1Once.f k r4.1 8).bind fun r9 =>
 (bif r9.2.1 then
 (inb 0 (List.length r7.1.2.1:Int)
 (cat (List.getD r7.1.2.1 0 (Ty.dflt TPiece)).2.1 (⟨#[120]⟩:ByteArray)
 (inb 0 (List.length r7.1.2.1:Int)
 (let l10:=(List.set r7.1.2.1 0 ((List.getD r7.1.2.1 0 (Ty.dflt TPiece)).1,(((List.getD r7.1.2.1 0 (Ty.dflt TPiece)).2.1++(⟨#[120]⟩:ByteArray)),(List.getD r7.1.2.1 0 (Ty.dflt TPiece)).2.2)));
 (some (r9.1,(r8.1.1.2.1,(r8.1.1.2.2.1,((r7.1.1,(l10,())),())))))))))
 else
 (some (r9.1,(r8.1.1.2.1,(r8.1.1.2.2.1,(r7.1,())))))))
 else
 (some (r4.1,(r8.1.1.2.1,(r8.1.1.2.2.1,(r7.1,()))))))))))
 else
 (inc r4.2.1 (List.length r3.2.1.2.2.1:Int)
 ((spec_Run.f k r5.1.1 (List.drop (Int.toNat r4.2.1) r3.2.1.2.2.1)).bind fun r11 =>
 (some (r4.1,(r11.1.1.2.1,(r11.1.1.2.2.1,((0,([],())),()))))))))))))))
def f (k:Nat):=t k
end spec_l27Some
namespace spec_DrawReceive
abbrev Rs:Type:=Option ((Ty.den TFollower) × (Ty.den TParcel) × Unit)
def t (k:Nat) (a0:List Int):Rs :=
 ((spec_l1New.f k a0).bind fun r1 =>
 ((spec_l27Some.f k r1.2.1).bind fun r2 =>
 ((spec_Ship.f k r2.2.1 r2.2.2.1 r2.2.2.2.1).bind fun r3 =>
 (bif (decide ((List.length r3.1.2.1:Int) > 0)) then
 ((spec_l1Below.f k r2.1 8).bind fun r4 =>
 (bif (r4.2.1==0) then
 (inb 0 (List.length r3.1.2.1:Int)
 ((spec_l1PickInt.f k r4.1 [1,(-1),99999]).bind fun r5 =>
 (inb 0 (List.length r3.1.2.1:Int)
 (let l6:=(List.set r3.1.2.1 0 ((List.getD r3.1.2.1 0 (Ty.dflt TBit)).1,((w64 ((List.getD r3.1.2.1 0 (Ty.dflt TBit)).2.1+r5.2.1)),(List.getD r3.1.2.1 0 (Ty.dflt TBit)).2.2)));
 (some (r2.2.2.2.1,((r3.1.1,(l6,())),())))))))
 else
 (bif (r4.2.1==1) then
 (some (r2.2.2.2.1,((1,r3.1.2),())))
 else
 (bif (r4.2.1==2) then
 (inb 0 (List.length r3.1.2.1:Int)
 (rm (Ty.bytes TBit) (List.length r3.1.2.1+1)
 (some (r2.2.2.2.1,((r3.1.1,((r3.1.2.1++[(List.getD r3.1.2.1 0 (Ty.dflt TBit))]),())),())))))
 else
 (bif (r4.2.1==3) then
 (inc 1 (List.length r3.1.2.1:Int)
 (some (r2.2.2.2.1,((r3.1.1,((List.drop 1 r3.1.2.1),())),()))))
 else
 (some (r2.2.2.2.1,r3)))))))
 else
 (some (r2.2.2.2.1,r3))))))
def f (k:Nat):=t k
end spec_DrawReceive
namespace impl_has
abbrev Rs:Type:=Option (ByteArray × Unit)
abbrev T0:Type:=Int→List (Ty.den TPiece)→Int→Int→Rs
def b0 (k:Nat) (L0:T0):T0:=fun x0 x1 x2 x3 =>
 (bif (decide (x3<x2)) then
 (inb x3 (x1.length:Int)
 (bif ((List.getD x1 (Int.toNat x3) (Ty.dflt TPiece)).1==x0) then
 (some (List.getD x1 (Int.toNat x3) (Ty.dflt TPiece)).2)
 else
 (L0 x0 x1 x2 (w64 (x3+1)))))
 else
 (some ((⟨#[]⟩:ByteArray),())))
def l0 (k:Nat):Nat→T0
 | 0=>fun _ _ _ _=>none
 | n+1=>b0 k (l0 k n)
def t (k:Nat) (L0:T0) (a0:Ty.den TFollower) (a1:Int):Rs :=
 (L0 a1 a0.2.1 (List.length a0.2.1:Int) 0)
def f (k:Nat):=t k (l0 k k)
end impl_has
namespace impl_in
abbrev Rs:Type:=Option (Bool × Unit)
def t (k:Nat) (a0:Int) (a1:Int) (a2:Int):Rs :=
 (bif (decide (a0≥a1)) then
 (some ((decide (a0≤a2)),()))
 else
 (some (false,())))
def f (k:Nat):=t k
end impl_in
namespace impl_LiveOk
abbrev Rs:Type:=Option (Bool × Unit)
abbrev T0:Type:=List Int→Int→Int→Int→List Int→Rs
def b0 (k:Nat) (L0:T0):T0:=fun x0 x1 x2 x3 x4 =>
 (bif (decide (x2<x1)) then
 (inb x2 (x0.length:Int)
 ((impl_in.f k (List.getD x0 (Int.toNat x2) (Ty.dflt (.int .i64))) 1 (w64 (x3-1))).bind fun r1 =>
 (bif (!r1.1) then
 (some (false,()))
 else
 (bif (decide (x2 > 0)) then
 (inb (w64 (x2-1)) (x4.length:Int)
 (bif (decide ((List.getD x4 (Int.toNat (w64 (x2-1))) (Ty.dflt (.int .i64)))≥(List.getD x0 (Int.toNat x2) (Ty.dflt (.int .i64))))) then
 (some (false,()))
 else
 (L0 x0 x1 (w64 (x2+1)) x3 x4)))
 else
 (L0 x0 x1 (w64 (x2+1)) x3 x4)))))
 else
 ((impl_in.f k x3 1 100000).bind fun r2 =>
 (bif r2.1 then
 ((impl_in.f k (x4.length:Int) 1 60).bind fun r3 =>
 (some r3))
 else
 (some (false,())))))
def l0 (k:Nat):Nat→T0
 | 0=>fun _ _ _ _ _=>none
 | n+1=>b0 k (l0 k n)
def t (k:Nat) (L0:T0) (a0:Ty.den TLive):Rs :=
 (L0 a0.2.1 (List.length a0.2.1:Int) 0 a0.1 a0.2.1)
def f (k:Nat):=t k (l0 k k)
end impl_LiveOk
namespace impl_Receive
abbrev Rs:Type:=Option ((Ty.den TFollower) × Bool × Unit)
abbrev T0:Type:=List (Ty.den TBit)→Int→Int→Int→List (Ty.den TPiece)→List (Ty.den TPiece)→Int→List (Ty.den TPiece)→Int→List (Ty.den TPiece)→Int→List Int→Int→Rs
def b0 (k:Nat) (L0:T0):T0:=fun x0 x1 x2 x3 x4 x5 x6 x7 x8 x9 x10 x11 x12 =>
 (bif (decide (x2<x1)) then
 (inb x2 (x0.length:Int)
 ((impl_has.f k (x3,(x4,())) (List.getD x0 (Int.toNat x2) (Ty.dflt TBit)).1).bind fun r1 =>
 ((impl_in.f k (List.getD x0 (Int.toNat x2) (Ty.dflt TBit)).2.1 0 (ByteArray.size r1.1:Int)).bind fun r2 =>
 (bif (!r2.1) then
 (some ((x8,(x7,())),(false,())))
 else
 (inc (List.getD x0 (Int.toNat x2) (Ty.dflt TBit)).2.1 (ByteArray.size r1.1:Int)
 (cat (ByteArray.extract r1.1 0 (Int.toNat (List.getD x0 (Int.toNat x2) (Ty.dflt TBit)).2.1)) (List.getD x0 (Int.toNat x2) (Ty.dflt TBit)).2.2.1
 (rm (Ty.bytes TPiece) (List.length x9+1)
 (rm (Ty.bytes (.int .i64)) (List.length x11+1)
 (L0 x0 x1 (w64 (x2+1)) x3 x4 x5 x6 x7 x8 (x9++[((List.getD x0 (Int.toNat x2) (Ty.dflt TBit)).1,(((ByteArray.extract r1.1 0 (Int.toNat (List.getD x0 (Int.toNat x2) (Ty.dflt TBit)).2.1))++(List.getD x0 (Int.toNat x2) (Ty.dflt TBit)).2.2.1),()))]) x10 (x11++[(List.getD x0 (Int.toNat x2) (Ty.dflt TBit)).1]) x12)))))))))
 else
 ((impl_LiveOk.f k (x12,(x11,()))).bind fun r3 =>
 (bif (!r3.1) then
 (some ((x8,(x7,())),(false,())))
 else
 (some ((x10,(x9,())),(true,()))))))
def l0 (k:Nat):Nat→T0
 | 0=>fun _ _ _ _ _ _ _ _ _ _ _ _ _=>none
 | n+1=>b0 k (l0 k n)
def t (k:Nat) (L0:T0) (a0:Ty.den TFollower) (a1:Ty.den TParcel):Rs :=
 (rm (Ty.bytes TPiece) (List.length a0.2.1)
 (L0 a1.2.1 (List.length a1.2.1:Int) 0 a0.1 a0.2.1 [] 0 a0.2.1 a0.1 [] a1.1 [] a1.1))
def f (k:Nat):=t k (l0 k k)
end impl_Receive
namespace spec_SameFollower
abbrev Rs:Type:=Option (Bool × Unit)
abbrev T0:Type:=Int→Int→List (Ty.den TPiece)→Int→List (Ty.den TPiece)→Rs
def b0 (k:Nat) (L0:T0):T0:=fun x0 x1 x2 x3 x4 =>
 (bif (decide (x0<(x2.length:Int))) then
 (inb x0 (x2.length:Int)
 (inb x0 (x4.length:Int)
 (bif (!(((List.getD x2 (Int.toNat x0) (Ty.dflt TPiece)).1==(List.getD x4 (Int.toNat x0) (Ty.dflt TPiece)).1)&&(seq (List.getD x2 (Int.toNat x0) (Ty.dflt TPiece)).2.1 (List.getD x4 (Int.toNat x0) (Ty.dflt TPiece)).2.1))) then
 (some (false,()))
 else
 (L0 (w64 (x0+1)) x1 x2 x3 x4))))
 else
 (some (true,())))
def l0 (k:Nat):Nat→T0
 | 0=>fun _ _ _ _ _=>none
 | n+1=>b0 k (l0 k n)
def t (k:Nat) (L0:T0) (a0:Ty.den TFollower) (a1:Ty.den TFollower):Rs :=
 (bif (a0.1 != a1.1) then
 (some (false,()))
 else
 (bif ((List.length a0.2.1:Int) != (List.length a1.2.1:Int)) then
 (some (false,()))
 else
 (L0 0 a0.1 a0.2.1 a1.1 a1.2.1)))
def f (k:Nat):=t k (l0 k k)
end spec_SameFollower
namespace spec_l1Spoil
abbrev Rs:Type:=Option ((Ty.den Tl1Cur) × ByteArray × Unit)
def t (k:Nat) (a0:Ty.den Tl1Cur) (a1:ByteArray):Rs :=
 (bif ((ByteArray.size a1:Int)==0) then
 ((spec_l1Text.f k a0 3).bind fun r1 =>
 (some r1))
 else
 ((spec_l1Below.f k a0 (ByteArray.size a1:Int)).bind fun r2 =>
 ((spec_l1Below.f k r2.1 4).bind fun r3 =>
 (bif (r3.2.1==0) then
 (inc r2.2.1 (ByteArray.size a1:Int)
 (inc (w64 (r2.2.1+1)) (ByteArray.size a1:Int)
 (cat (ByteArray.extract a1 0 (Int.toNat r2.2.1)) (ByteArray.extract a1 (Int.toNat (w64 (r2.2.1+1))) (ByteArray.size a1))
 (some (r3.1,(((ByteArray.extract a1 0 (Int.toNat r2.2.1))++(ByteArray.extract a1 (Int.toNat (w64 (r2.2.1+1))) (ByteArray.size a1))),()))))))
 else
 (bif (r3.2.1==1) then
 (inc r2.2.1 (ByteArray.size a1:Int)
 ((spec_l1Byte.f k r3.1).bind fun r4 =>
 (cat (ByteArray.extract a1 0 (Int.toNat r2.2.1)) (bytesOf [(IntKind.wrap .u8 r4.2.1)])
 (inc r2.2.1 (ByteArray.size a1:Int)
 (cat ((ByteArray.extract a1 0 (Int.toNat r2.2.1))++(bytesOf [(IntKind.wrap .u8 r4.2.1)])) (ByteArray.extract a1 (Int.toNat r2.2.1) (ByteArray.size a1))
 (some (r4.1,((((ByteArray.extract a1 0 (Int.toNat r2.2.1))++(bytesOf [(IntKind.wrap .u8 r4.2.1)]))++(ByteArray.extract a1 (Int.toNat r2.2.1) (ByteArray.size a1))),()))))))))
 else
 (bif (r3.2.1==2) then
 (inc r2.2.1 (ByteArray.size a1:Int)
 (some (r3.1,((ByteArray.extract a1 0 (Int.toNat r2.2.1)),()))))
 else
 (inc r2.2.1 (ByteArray.size a1:Int)
 (inb r2.2.1 (ByteArray.size a1:Int)
 ((spec_l1Below.f k r3.1 255).bind fun r5 =>
 (cat (ByteArray.extract a1 0 (Int.toNat r2.2.1)) (bytesOf [(IntKind.wrap .u8 (w64 (((BitVec.ofInt (IntKind.bits .i64) (w64 (byteAt a1 r2.2.1)) ^^^ BitVec.ofInt (IntKind.bits .i64) (w64 (1+r5.2.1))).toNat:Int))))])
 (inc (w64 (r2.2.1+1)) (ByteArray.size a1:Int)
 (cat ((ByteArray.extract a1 0 (Int.toNat r2.2.1))++(bytesOf [(IntKind.wrap .u8 (w64 (((BitVec.ofInt (IntKind.bits .i64) (w64 (byteAt a1 r2.2.1)) ^^^ BitVec.ofInt (IntKind.bits .i64) (w64 (1+r5.2.1))).toNat:Int))))])) (ByteArray.extract a1 (Int.toNat (w64 (r2.2.1+1))) (ByteArray.size a1))
 (some (r5.1,((((ByteArray.extract a1 0 (Int.toNat r2.2.1))++(bytesOf [(IntKind.wrap .u8 (w64 (((BitVec.ofInt (IntKind.bits .i64) (w64 (byteAt a1 r2.2.1)) ^^^ BitVec.ofInt (IntKind.bits .i64) (w64 (1+r5.2.1))).toNat:Int))))]))++(ByteArray.extract a1 (Int.toNat (w64 (r2.2.1+1))) (ByteArray.size a1))),())))))))))))))))
def f (k:Nat):=t k
end spec_l1Spoil
namespace spec_DrawFollowMap
abbrev Rs:Type:=Option ((Ty.den TFollower) × Unit)
def t (k:Nat) (a0:List Int):Rs :=
 ((spec_l1New.f k a0).bind fun r1 =>
 ((spec_l27Some.f k r1.2.1).bind fun r2 =>
 ((spec_Ship.f k r2.2.1 r2.2.2.1 r2.2.2.2.1).bind fun r3 =>
 ((spec_Receive.f k r2.2.2.2.1 r3.1).bind fun r4 =>
 (bif (decide ((List.length r4.1.2.1:Int) > 0)) then
 ((spec_l1Once.f k r2.1 6).bind fun r5 =>
 (bif r5.2.1 then
 ((spec_l1Below.f k r5.1 (List.length r4.1.2.1:Int)).bind fun r6 =>
 (inb r6.2.1 (List.length r4.1.2.1:Int)
 ((spec_l1Spoil.f k r6.1 (List.getD r4.1.2.1 (Int.toNat r6.2.1) (Ty.dflt TPiece)).2.1).bind fun r7 =>
 (inb r6.2.1 (List.length r4.1.2.1:Int)
 (let l8:=(List.set r4.1.2.1 (Int.toNat r6.2.1) ((List.getD r4.1.2.1 (Int.toNat r6.2.1) (Ty.dflt TPiece)).1,r7.2));
 (some ((r4.1.1,(l8,())),())))))))
 else
 (some (r4.1,()))))
 else
 (some (r4.1,())))))))
def f (k:Nat):=t k
end spec_DrawFollowMap
namespace impl_ReadVar
abbrev Rs:Type:=Option (Int × Int × Unit)
abbrev T0:Type:=ByteArray→Int→Int→Rs
def b0 (k:Nat) (L0:T0):T0:=fun x0 x1 x2 =>
 (bif (decide (x2<7)) then
 (bif (decide (x2<(ByteArray.size x0:Int))) then
 (inb x2 (ByteArray.size x0:Int)
 (bif (decide ((w64 (7*x2))<0)) then none else
 (bif (decide ((w64 (byteAt x0 x2))≥128)) then
 (L0 x0 (w64 (x1+(w64 ((Int.tmod (w64 (byteAt x0 x2)) 128)*2 ^ (min (Int.toNat (w64 (7*x2))) (IntKind.bits .i64)))))) (w64 (x2+1)))
 else
 (bif ((w64 (byteAt x0 x2))==0) then
 (bif (decide (x2 > 0)) then
 (some (0,(0,())))
 else
 (some ((w64 (x1+(w64 ((Int.tmod (w64 (byteAt x0 x2)) 128)*2 ^ (min (Int.toNat (w64 (7*x2))) (IntKind.bits .i64)))))),((w64 (x2+1)),()))))
 else
 (some ((w64 (x1+(w64 ((Int.tmod (w64 (byteAt x0 x2)) 128)*2 ^ (min (Int.toNat (w64 (7*x2))) (IntKind.bits .i64)))))),((w64 (x2+1)),())))))))
 else
 (some (0,(0,()))))
 else
 (some (0,(0,()))))
def l0 (k:Nat):Nat→T0
 | 0=>fun _ _ _=>none
 | n+1=>b0 k (l0 k n)
def t (k:Nat) (L0:T0) (a0:ByteArray):Rs :=
 (L0 a0 0 0)
def f (k:Nat):=t k (l0 k k)
end impl_ReadVar
namespace impl_Var
abbrev Rs:Type:=Option (ByteArray × Unit)
abbrev T0:Type:=Int→List Int→Rs
def b0 (k:Nat) (L0:T0):T0:=fun x0 x1 =>
 (bif (decide (x0 > 127)) then
 (rm (Ty.bytes (.int .u8)) (List.length x1+1)
 (L0 (w64 (Int.tdiv x0 128)) (x1++[(IntKind.wrap .u8 (w64 ((Int.tmod x0 128)+128)))])))
 else
 (rm (Ty.bytes (.int .u8)) (List.length x1+1)
 (some ((bytesOf (x1++[(IntKind.wrap .u8 x0)])),()))))
def l0 (k:Nat):Nat→T0
 | 0=>fun _ _=>none
 | n+1=>b0 k (l0 k n)
def t (k:Nat) (L0:T0) (a0:Int):Rs :=
 ((impl_in.f k a0 0 562949953421311).bind fun r1 =>
 (bif (!r1.1) then
 (some ((⟨#[]⟩:ByteArray),()))
 else
 (L0 a0 [])))
def f (k:Nat):=t k (l0 k k)
end impl_Var
namespace impl_textOf
abbrev Rs:Type:=Option (ByteArray × Unit)
def t (k:Nat) (a0:ByteArray):Rs :=
 ((impl_Var.f k (ByteArray.size a0:Int)).bind fun r1 =>
 (cat r1.1 a0
 (some ((r1.1++a0),()))))
def f (k:Nat):=t k
end impl_textOf
namespace impl_Crc
abbrev Rs:Type:=Option (Int × Unit)
abbrev T1:Type:=ByteArray→Int→Int→Int→Rs
abbrev T0:Type:=ByteArray→Int→Int→Rs
def b1 (k:Nat) (L0:T0) (L1:T1):T1:=fun x0 x1 x2 x3 =>
 (bif (decide (x3<8)) then
 (bif ((IntKind.wrap .u32 (((BitVec.ofInt (IntKind.bits .u32) x1 &&& BitVec.ofInt (IntKind.bits .u32) 1).toNat:Int)))==1) then
 (L1 x0 (IntKind.wrap .u32 (((BitVec.ofInt (IntKind.bits .u32) (Int.fdiv x1 (2 ^ (Int.toNat 1))) ^^^ BitVec.ofInt (IntKind.bits .u32) 2197175160).toNat:Int))) x2 (w64 (x3+1)))
 else
 (L1 x0 (Int.fdiv x1 (2 ^ (Int.toNat 1))) x2 (w64 (x3+1))))
 else
 (L0 x0 x1 (w64 (x2+1))))
def l1 (k:Nat) (L0:T0):Nat→T1
 | 0=>fun _ _ _ _=>none
 | n+1=>b1 k L0 (l1 k L0 n)
def b0 (k:Nat) (L1:T1) (L0:T0):T0:=fun x0 x1 x2 =>
 (bif (decide (x2<(ByteArray.size x0:Int))) then
 (inb x2 (ByteArray.size x0:Int)
 (L1 x0 (IntKind.wrap .u32 (((BitVec.ofInt (IntKind.bits .u32) x1 ^^^ BitVec.ofInt (IntKind.bits .u32) (IntKind.wrap .u32 (byteAt x0 x2))).toNat:Int))) x2 0))
 else
 (some ((w64 (bitNot .u32 x1)),())))
def l0 (k:Nat):Nat→T0
 | 0=>fun _ _ _=>none
 | n+1=>b0 k (l1 k (l0 k n) k) (l0 k n)
def t (k:Nat) (L0:T0) (a0:ByteArray):Rs :=
 (L0 a0 4294967295 0)
def f (k:Nat):=t k (l0 k k)
end impl_Crc
namespace impl_Fixed
abbrev Rs:Type:=Option (ByteArray × Unit)
abbrev T0:Type:=Int→Int→List Int→Rs
def b0 (k:Nat) (L0:T0):T0:=fun x0 x1 x2 =>
 (bif (decide (x1≥0)) then
 (bif (decide ((w64 (8*x1))<0)) then none else
 (rm (Ty.bytes (.int .u8)) (List.length x2+1)
 (L0 x0 (w64 (x1-1)) (x2++[(IntKind.wrap .u8 (Int.fdiv x0 (2 ^ (min (Int.toNat (w64 (8*x1))) (IntKind.bits .i64)))))]))))
 else
 (some ((bytesOf x2),())))
def l0 (k:Nat):Nat→T0
 | 0=>fun _ _ _=>none
 | n+1=>b0 k (l0 k n)
def t (k:Nat) (L0:T0) (a0:Int) (a1:Int):Rs :=
 ((impl_in.f k a1 1 7).bind fun r1 =>
 (bif (!r1.1) then
 (some ((⟨#[]⟩:ByteArray),()))
 else
 (bif (decide ((w64 (8*a1))<0)) then none else
 ((impl_in.f k a0 0 (w64 ((w64 (1*2 ^ (min (Int.toNat (w64 (8*a1))) (IntKind.bits .i64))))-1))).bind fun r2 =>
 (bif (!r2.1) then
 (some ((⟨#[]⟩:ByteArray),()))
 else
 (L0 a0 (w64 (a1-1)) []))))))
def f (k:Nat):=t k (l0 k k)
end impl_Fixed
namespace impl_Frame
abbrev Rs:Type:=Option (ByteArray × Unit)
def t (k:Nat) (a0:ByteArray):Rs :=
 (bif (decide ((ByteArray.size a0:Int) > 200)) then
 (some ((⟨#[]⟩:ByteArray),()))
 else
 ((impl_textOf.f k a0).bind fun r1 =>
 ((impl_Crc.f k r1.1).bind fun r2 =>
 ((impl_Fixed.f k r2.1 4).bind fun r3 =>
 (cat r3.1 r1.1
 (some ((r3.1++r1.1),())))))))
def f (k:Nat):=t k
end impl_Frame
namespace impl_Unframe
abbrev Rs:Type:=Option (ByteArray × Int × Unit)
def t (k:Nat) (a0:ByteArray):Rs :=
 (bif (decide ((ByteArray.size a0:Int)<4)) then
 (some ((⟨#[]⟩:ByteArray),(0,())))
 else
 (inc 4 (ByteArray.size a0:Int)
 ((impl_ReadVar.f k (ByteArray.extract a0 4 (ByteArray.size a0))).bind fun r1 =>
 (bif (r1.2.1==0) then
 (some ((⟨#[]⟩:ByteArray),(0,())))
 else
 (bif (decide (r1.1 > 200)) then
 (some ((⟨#[]⟩:ByteArray),(0,())))
 else
 (bif (decide (r1.1 > (w64 ((w64 ((ByteArray.size a0:Int)-4))-r1.2.1)))) then
 (some ((⟨#[]⟩:ByteArray),(0,())))
 else
 (inc2 (w64 (4+r1.2.1)) (w64 ((w64 (4+r1.2.1))+r1.1)) (ByteArray.size a0:Int)
 ((impl_Frame.f k (ByteArray.extract a0 (Int.toNat (w64 (4+r1.2.1))) (Int.toNat (w64 ((w64 (4+r1.2.1))+r1.1))))).bind fun r2 =>
 (inc (w64 ((w64 (4+r1.2.1))+r1.1)) (ByteArray.size a0:Int)
 (bif (!(seq r2.1 (ByteArray.extract a0 0 (Int.toNat (w64 ((w64 (4+r1.2.1))+r1.1)))))) then
 (some ((⟨#[]⟩:ByteArray),(0,())))
 else
 (some ((ByteArray.extract a0 (Int.toNat (w64 (4+r1.2.1))) (Int.toNat (w64 ((w64 (4+r1.2.1))+r1.1)))),((w64 ((w64 (4+r1.2.1))+r1.1)),())))))))))))))
def f (k:Nat):=t k
end impl_Unframe
namespace impl_scanner__num
abbrev Rs:Type:=Option ((Ty.den Tscanner) × Int × Unit)
def t (k:Nat) (a0:Ty.den Tscanner):Rs :=
 ((impl_ReadVar.f k a0.1).bind fun r1 =>
 (bif a0.2.1 then
 (some ((a0.1,(true,())),(0,())))
 else
 (bif (r1.2.1==0) then
 (some ((a0.1,(true,())),(0,())))
 else
 (inc r1.2.1 (ByteArray.size a0.1:Int)
 (some (((ByteArray.extract a0.1 (Int.toNat r1.2.1) (ByteArray.size a0.1)),a0.2),(r1.1,())))))))
def f (k:Nat):=t k
end impl_scanner__num
namespace impl_scanner__bytes
abbrev Rs:Type:=Option ((Ty.den Tscanner) × ByteArray × Unit)
def t (k:Nat) (a0:Ty.den Tscanner) (a1:Int):Rs :=
 (bif a0.2.1 then
 (some ((a0.1,(true,())),((⟨#[]⟩:ByteArray),())))
 else
 (bif (decide (a1 > (ByteArray.size a0.1:Int))) then
 (some ((a0.1,(true,())),((⟨#[]⟩:ByteArray),())))
 else
 (inc a1 (ByteArray.size a0.1:Int)
 (inc a1 (ByteArray.size a0.1:Int)
 (some (((ByteArray.extract a0.1 (Int.toNat a1) (ByteArray.size a0.1)),a0.2),((ByteArray.extract a0.1 0 (Int.toNat a1)),())))))))
def f (k:Nat):=t k
end impl_scanner__bytes
namespace impl_scanner__text
abbrev Rs:Type:=Option ((Ty.den Tscanner) × ByteArray × Unit)
def t (k:Nat) (a0:Ty.den Tscanner):Rs :=
 ((impl_scanner__num.f k a0).bind fun r1 =>
 ((impl_scanner__bytes.f k r1.1 r1.2.1).bind fun r2 =>
 (some r2)))
def f (k:Nat):=t k
end impl_scanner__text
namespace impl_KeyOk
abbrev Rs:Type:=Option (Bool × Unit)
def t (k:Nat) (a0:ByteArray):Rs :=
 ((impl_in.f k (ByteArray.size a0:Int) 1 8).bind fun r1 =>
 (some r1))
def f (k:Nat):=t k
end impl_KeyOk
namespace impl_RecOk
abbrev Rs:Type:=Option (Bool × Unit)
def t (k:Nat) (a0:Ty.den TRec):Rs :=
 (bif (a0.1==1) then
 (bif (a0.1==1) then
 ((impl_KeyOk.f k a0.2.2.1).bind fun r1 =>
 (bif r1.1 then
 (bif (decide ((ByteArray.size a0.2.2.2.1:Int)≤24)) then
 ((impl_in.f k a0.2.1 1 1000000).bind fun r2 =>
 (bif r2.1 then
 (some (((a0.1==a0.1)&&((a0.2.1==a0.2.1)&&((seq a0.2.2.1 a0.2.2.1)&&((seq a0.2.2.2.1 a0.2.2.2.1)&&((a0.2.2.2.2.1==0)&&(a0.2.2.2.2.2.1==0)))))),()))
 else
 (some (false,()))))
 else
 (some (false,())))
 else
 (some (false,()))))
 else
 (bif (a0.1==2) then
 ((impl_KeyOk.f k a0.2.2.1).bind fun r3 =>
 (bif r3.1 then
 ((impl_in.f k a0.2.1 1 1000000).bind fun r4 =>
 (bif r4.1 then
 (some (((a0.1==a0.1)&&((a0.2.1==a0.2.1)&&((seq a0.2.2.1 a0.2.2.1)&&((seq a0.2.2.2.1 ByteArray.empty)&&((a0.2.2.2.2.1==0)&&(a0.2.2.2.2.2.1==0)))))),()))
 else
 (some (false,()))))
 else
 (some (false,()))))
 else
 (bif (a0.1==3) then
 ((impl_in.f k a0.2.2.2.2.1 0 8).bind fun r5 =>
 (bif r5.1 then
 ((impl_in.f k a0.2.2.2.2.2.1 0 4294967295).bind fun r6 =>
 (bif r6.1 then
 ((impl_in.f k a0.2.1 1 1000000).bind fun r7 =>
 (bif r7.1 then
 (some (((a0.1==a0.1)&&((a0.2.1==a0.2.1)&&((seq a0.2.2.1 ByteArray.empty)&&((seq a0.2.2.2.1 ByteArray.empty)&&((a0.2.2.2.2.1==a0.2.2.2.2.1)&&(a0.2.2.2.2.2.1==a0.2.2.2.2.2.1)))))),()))
 else
 (some (false,()))))
 else
 (some (false,()))))
 else
 (some (false,()))))
 else
 (bif (a0.1==5) then
 ((impl_in.f k a0.2.2.2.2.1 0 20).bind fun r8 =>
 (bif r8.1 then
 ((impl_in.f k a0.2.2.2.2.2.1 0 4294967295).bind fun r9 =>
 (bif r9.1 then
 ((impl_in.f k a0.2.1 0 1000000).bind fun r10 =>
 (bif r10.1 then
 (some (((a0.1==a0.1)&&((a0.2.1==a0.2.1)&&((seq a0.2.2.1 ByteArray.empty)&&((seq a0.2.2.2.1 ByteArray.empty)&&((a0.2.2.2.2.1==a0.2.2.2.2.1)&&(a0.2.2.2.2.2.1==a0.2.2.2.2.2.1)))))),()))
 else
 (some (false,()))))
 else
 (some (false,()))))
 else
 (some (false,()))))
 else
 (some (false,()))))))
 else
 (bif (a0.1==4) then
 ((impl_KeyOk.f k a0.2.2.1).bind fun r11 =>
 (bif r11.1 then
 (bif (decide ((ByteArray.size a0.2.2.2.1:Int)≤24)) then
 ((impl_in.f k a0.2.1 1 1000000).bind fun r12 =>
 (bif r12.1 then
 (some (((a0.1==a0.1)&&((a0.2.1==a0.2.1)&&((seq a0.2.2.1 a0.2.2.1)&&((seq a0.2.2.2.1 a0.2.2.2.1)&&((a0.2.2.2.2.1==0)&&(a0.2.2.2.2.2.1==0)))))),()))
 else
 (some (false,()))))
 else
 (some (false,())))
 else
 (some (false,()))))
 else
 (bif (a0.1==2) then
 ((impl_KeyOk.f k a0.2.2.1).bind fun r13 =>
 (bif r13.1 then
 ((impl_in.f k a0.2.1 1 1000000).bind fun r14 =>
 (bif r14.1 then
 (some (((a0.1==a0.1)&&((a0.2.1==a0.2.1)&&((seq a0.2.2.1 a0.2.2.1)&&((seq a0.2.2.2.1 ByteArray.empty)&&((a0.2.2.2.2.1==0)&&(a0.2.2.2.2.2.1==0)))))),()))
 else
 (some (false,()))))
 else
 (some (false,()))))
 else
 (bif (a0.1==3) then
 ((impl_in.f k a0.2.2.2.2.1 0 8).bind fun r15 =>
 (bif r15.1 then
 ((impl_in.f k a0.2.2.2.2.2.1 0 4294967295).bind fun r16 =>
 (bif r16.1 then
 ((impl_in.f k a0.2.1 1 1000000).bind fun r17 =>
 (bif r17.1 then
 (some (((a0.1==a0.1)&&((a0.2.1==a0.2.1)&&((seq a0.2.2.1 ByteArray.empty)&&((seq a0.2.2.2.1 ByteArray.empty)&&((a0.2.2.2.2.1==a0.2.2.2.2.1)&&(a0.2.2.2.2.2.1==a0.2.2.2.2.2.1)))))),()))
 else
 (some (false,()))))
 else
 (some (false,()))))
 else
 (some (false,()))))
 else
 (bif (a0.1==5) then
 ((impl_in.f k a0.2.2.2.2.1 0 20).bind fun r18 =>
 (bif r18.1 then
 ((impl_in.f k a0.2.2.2.2.2.1 0 4294967295).bind fun r19 =>
 (bif r19.1 then
 ((impl_in.f k a0.2.1 0 1000000).bind fun r20 =>
 (bif r20.1 then
 (some (((a0.1==a0.1)&&((a0.2.1==a0.2.1)&&((seq a0.2.2.1 ByteArray.empty)&&((seq a0.2.2.2.1 ByteArray.empty)&&((a0.2.2.2.2.1==a0.2.2.2.2.1)&&(a0.2.2.2.2.2.1==a0.2.2.2.2.2.1)))))),()))
 else
 (some (false,()))))
 else
 (some (false,()))))
 else
 (some (false,()))))
 else
 (some (false,())))))))
def f (k:Nat):=t k
end impl_RecOk
namespace impl_ReadFixed
abbrev Rs:Type:=Option (Int × Bool × Unit)
abbrev T0:Type:=ByteArray→Int→Int→Int→Rs
def b0 (k:Nat) (L0:T0):T0:=fun x0 x1 x2 x3 =>
 (bif (decide (x3<x2)) then
 (inb x3 (ByteArray.size x0:Int)
 (L0 x0 (w64 (((BitVec.ofInt (IntKind.bits .i64) (w64 (x1*2 ^ (min (Int.toNat 8) (IntKind.bits .i64)))) ||| BitVec.ofInt (IntKind.bits .i64) (w64 (byteAt x0 x3))).toNat:Int))) x2 (w64 (x3+1))))
 else
 (some (x1,(true,()))))
def l0 (k:Nat):Nat→T0
 | 0=>fun _ _ _ _=>none
 | n+1=>b0 k (l0 k n)
def t (k:Nat) (L0:T0) (a0:ByteArray) (a1:Int):Rs :=
 ((impl_in.f k a1 1 7).bind fun r1 =>
 (bif (!r1.1) then
 (some (0,(false,())))
 else
 (bif (decide ((ByteArray.size a0:Int)<a1)) then
 (some (0,(false,())))
 else
 (L0 a0 0 a1 0))))
def f (k:Nat):=t k (l0 k k)
end impl_ReadFixed
namespace impl_ReadRec
abbrev Rs:Type:=Option ((Ty.den TRec) × Bool × Unit)
def t (k:Nat) (a0:ByteArray):Rs :=
 ((impl_scanner__num.f k (a0,(false,()))).bind fun r1 =>
 ((impl_scanner__num.f k r1.1).bind fun r2 =>
 (bif (r1.2.1==1) then
 (bif (r1.2.1==1) then
 ((impl_scanner__text.f k r2.1).bind fun r3 =>
 ((impl_scanner__text.f k r3.1).bind fun r4 =>
 (bif r4.1.2.1 then
 (some ((0,(0,(ByteArray.empty,(ByteArray.empty,(0,(0,())))))),(false,())))
 else
 (bif (!(seq r4.1.1 (⟨#[]⟩:ByteArray))) then
 (some ((0,(0,(ByteArray.empty,(ByteArray.empty,(0,(0,())))))),(false,())))
 else
 ((impl_RecOk.f k (r1.2.1,(r2.2.1,(r3.2.1,(r4.2.1,(0,(0,()))))))).bind fun r5 =>
 (bif (!r5.1) then
 (some ((0,(0,(ByteArray.empty,(ByteArray.empty,(0,(0,())))))),(false,())))
 else
 (some ((r1.2.1,(r2.2.1,(r3.2.1,(r4.2.1,(0,(0,())))))),(true,())))))))))
 else
 (bif (r1.2.1==2) then
 ((impl_scanner__text.f k r2.1).bind fun r6 =>
 (bif r6.1.2.1 then
 (some ((0,(0,(ByteArray.empty,(ByteArray.empty,(0,(0,())))))),(false,())))
 else
 (bif (!(seq r6.1.1 (⟨#[]⟩:ByteArray))) then
 (some ((0,(0,(ByteArray.empty,(ByteArray.empty,(0,(0,())))))),(false,())))
 else
 ((impl_RecOk.f k (r1.2.1,(r2.2.1,(r6.2.1,(ByteArray.empty,(0,(0,()))))))).bind fun r7 =>
 (bif (!r7.1) then
 (some ((0,(0,(ByteArray.empty,(ByteArray.empty,(0,(0,())))))),(false,())))
 else
 (some ((r1.2.1,(r2.2.1,(r6.2.1,(ByteArray.empty,(0,(0,())))))),(true,()))))))))
 else
 ((impl_scanner__num.f k r2.1).bind fun r8 =>
 ((impl_scanner__bytes.f k r8.1 4).bind fun r9 =>
 ((impl_ReadFixed.f k r9.2.1 4).bind fun r10 =>
 (bif r9.1.2.1 then
 (some ((0,(0,(ByteArray.empty,(ByteArray.empty,(0,(0,())))))),(false,())))
 else
 (bif (!(seq r9.1.1 (⟨#[]⟩:ByteArray))) then
 (some ((0,(0,(ByteArray.empty,(ByteArray.empty,(0,(0,())))))),(false,())))
 else
 ((impl_RecOk.f k (r1.2.1,(r2.2.1,(ByteArray.empty,(ByteArray.empty,(r8.2.1,(r10.1,()))))))).bind fun r11 =>
 (bif (!r11.1) then
 (some ((0,(0,(ByteArray.empty,(ByteArray.empty,(0,(0,())))))),(false,())))
 else
 (some ((r1.2.1,(r2.2.1,(ByteArray.empty,(ByteArray.empty,(r8.2.1,(r10.1,())))))),(true,()))))))))))))
 else
 (bif (r1.2.1==4) then
 ((impl_scanner__text.f k r2.1).bind fun r12 =>
 ((impl_scanner__text.f k r12.1).bind fun r13 =>
 (bif r13.1.2.1 then
 (some ((0,(0,(ByteArray.empty,(ByteArray.empty,(0,(0,())))))),(false,())))
 else
 (bif (!(seq r13.1.1 (⟨#[]⟩:ByteArray))) then
 (some ((0,(0,(ByteArray.empty,(ByteArray.empty,(0,(0,())))))),(false,())))
 else
 ((impl_RecOk.f k (r1.2.1,(r2.2.1,(r12.2.1,(r13.2.1,(0,(0,()))))))).bind fun r14 =>
 (bif (!r14.1) then
 (some ((0,(0,(ByteArray.empty,(ByteArray.empty,(0,(0,())))))),(false,())))
 else
 (some ((r1.2.1,(r2.2.1,(r12.2.1,(r13.2.1,(0,(0,())))))),(true,())))))))))
 else
 (bif (r1.2.1==2) then
 ((impl_scanner__text.f k r2.1).bind fun r15 =>
 (bif r15.1.2.1 then
 (some ((0,(0,(ByteArray.empty,(ByteArray.empty,(0,(0,())))))),(false,())))
 else
 (bif (!(seq r15.1.1 (⟨#[]⟩:ByteArray))) then
 (some ((0,(0,(ByteArray.empty,(ByteArray.empty,(0,(0,())))))),(false,())))
 else
 ((impl_RecOk.f k (r1.2.1,(r2.2.1,(r15.2.1,(ByteArray.empty,(0,(0,()))))))).bind fun r16 =>
 (bif (!r16.1) then
 (some ((0,(0,(ByteArray.empty,(ByteArray.empty,(0,(0,())))))),(false,())))
 else
 (some ((r1.2.1,(r2.2.1,(r15.2.1,(ByteArray.empty,(0,(0,())))))),(true,()))))))))
 else
 ((impl_scanner__num.f k r2.1).bind fun r17 =>
 ((impl_scanner__bytes.f k r17.1 4).bind fun r18 =>
 ((impl_ReadFixed.f k r18.2.1 4).bind fun r19 =>
 (bif r18.1.2.1 then
 (some ((0,(0,(ByteArray.empty,(ByteArray.empty,(0,(0,())))))),(false,())))
 else
 (bif (!(seq r18.1.1 (⟨#[]⟩:ByteArray))) then
 (some ((0,(0,(ByteArray.empty,(ByteArray.empty,(0,(0,())))))),(false,())))
 else
 ((impl_RecOk.f k (r1.2.1,(r2.2.1,(ByteArray.empty,(ByteArray.empty,(r17.2.1,(r19.1,()))))))).bind fun r20 =>
 (bif (!r20.1) then
 (some ((0,(0,(ByteArray.empty,(ByteArray.empty,(0,(0,())))))),(false,())))
 else
 (some ((r1.2.1,(r2.2.1,(ByteArray.empty,(ByteArray.empty,(r17.2.1,(r19.1,())))))),(true,())))))))))))))))
def f (k:Nat):=t k
end impl_ReadRec
namespace impl_ScanRecs
abbrev Rs:Type:=Option ((List (Ty.den TSpot)) × Int × Unit)
abbrev T0:Type:=ByteArray→Int→List (Ty.den TSpot)→Rs
def b0 (k:Nat) (L0:T0):T0:=fun x0 x1 x2 =>
 (inc x1 (ByteArray.size x0:Int)
 ((impl_Unframe.f k (ByteArray.extract x0 (Int.toNat x1) (ByteArray.size x0))).bind fun r1 =>
 ((impl_ReadRec.f k r1.1).bind fun r2 =>
 (bif (r1.2.1==0) then
 (some (x2,(x1,())))
 else
 (bif (!r2.2.1) then
 (some (x2,(x1,())))
 else
 (rm (Ty.bytes TSpot) (List.length x2+1)
 (L0 x0 (w64 (x1+r1.2.1)) (x2++[(x1,(r1.2.1,(r2.1,())))]))))))))
def l0 (k:Nat):Nat→T0
 | 0=>fun _ _ _=>none
 | n+1=>b0 k (l0 k n)
def t (k:Nat) (L0:T0) (a0:ByteArray):Rs :=
 (L0 a0 0 [])
def f (k:Nat):=t k (l0 k k)
end impl_ScanRecs
namespace impl_placed
abbrev Rs:Type:=Option ((List (Ty.den TPlace)) × Unit)
abbrev T0:Type:=Int→List (Ty.den TSpot)→Int→Int→List (Ty.den TPlace)→Rs
def b0 (k:Nat) (L0:T0):T0:=fun x0 x1 x2 x3 x4 =>
 (bif (decide (x3<x2)) then
 (inb x3 (x1.length:Int)
 (rm (Ty.bytes TPlace) (List.length x4+1)
 (L0 x0 x1 x2 (w64 (x3+1)) (x4++[(x0,(List.getD x1 (Int.toNat x3) (Ty.dflt TSpot)))]))))
 else
 (some (x4,())))
def l0 (k:Nat):Nat→T0
 | 0=>fun _ _ _ _ _=>none
 | n+1=>b0 k (l0 k n)
def t (k:Nat) (L0:T0) (a0:Int) (a1:List (Ty.den TSpot)):Rs :=
 (L0 a0 a1 (List.length a1:Int) 0 [])
def f (k:Nat):=t k (l0 k k)
end impl_placed
namespace impl_copyDir
abbrev Rs:Type:=Option ((List (Ty.den TEntry)) × Unit)
def t (k:Nat) (a0:List (Ty.den TEntry)):Rs :=
 (rm (Ty.bytes TEntry) (List.length a0)
 (some (a0,())))
def f (k:Nat):=t k
end impl_copyDir
namespace impl_ownOf
abbrev Rs:Type:=Option ((List (Ty.den TPlace)) × Unit)
abbrev T0:Type:=List (Ty.den TPlace)→Int→Int→Int→Int→ByteArray→ByteArray→Int→Int→List (Ty.den TPlace)→Rs
def b0 (k:Nat) (L0:T0):T0:=fun x0 x1 x2 x3 x4 x5 x6 x7 x8 x9 =>
 (bif (decide (x2<x1)) then
 (inb x2 (x0.length:Int)
 (bif (x3==3) then
 (bif ((List.getD x0 (Int.toNat x2) (Ty.dflt TPlace)).2.2.2.1.2.1 != x4) then
 (L0 x0 x1 (w64 (x2+1)) x3 x4 x5 x6 x7 x8 x9)
 else
 (bif ((List.getD x0 (Int.toNat x2) (Ty.dflt TPlace)).2.2.2.1.1==x3) then
 (L0 x0 x1 (w64 (x2+1)) x3 x4 x5 x6 x7 x8 [])
 else
 (bif (x3==3) then
 (bif ((List.getD x0 (Int.toNat x2) (Ty.dflt TPlace)).2.2.2.1.1==1) then
 (rm (Ty.bytes TPlace) (List.length x9+1)
 (L0 x0 x1 (w64 (x2+1)) x3 x4 x5 x6 x7 x8 (x9++[(List.getD x0 (Int.toNat x2) (Ty.dflt TPlace))])))
 else
 (bif ((List.getD x0 (Int.toNat x2) (Ty.dflt TPlace)).2.2.2.1.1==2) then
 (bif ((List.getD x0 (Int.toNat x2) (Ty.dflt TPlace)).2.2.2.1.1==2) then
 (rm (Ty.bytes TPlace) (List.length x9+1)
 (L0 x0 x1 (w64 (x2+1)) x3 x4 x5 x6 x7 x8 (x9++[(List.getD x0 (Int.toNat x2) (Ty.dflt TPlace))])))
 else
 (L0 x0 x1 (w64 (x2+1)) x3 x4 x5 x6 x7 x8 x9))
 else
 (bif (x3==5) then
 (bif ((List.getD x0 (Int.toNat x2) (Ty.dflt TPlace)).2.2.2.1.1==4) then
 (rm (Ty.bytes TPlace) (List.length x9+1)
 (L0 x0 x1 (w64 (x2+1)) x3 x4 x5 x6 x7 x8 (x9++[(List.getD x0 (Int.toNat x2) (Ty.dflt TPlace))])))
 else
 (L0 x0 x1 (w64 (x2+1)) x3 x4 x5 x6 x7 x8 x9))
 else
 (L0 x0 x1 (w64 (x2+1)) x3 x4 x5 x6 x7 x8 x9))))
 else
 (bif (x3==5) then
 (bif ((List.getD x0 (Int.toNat x2) (Ty.dflt TPlace)).2.2.2.1.1==4) then
 (rm (Ty.bytes TPlace) (List.length x9+1)
 (L0 x0 x1 (w64 (x2+1)) x3 x4 x5 x6 x7 x8 (x9++[(List.getD x0 (Int.toNat x2) (Ty.dflt TPlace))])))
 else
 (L0 x0 x1 (w64 (x2+1)) x3 x4 x5 x6 x7 x8 x9))
 else
 (L0 x0 x1 (w64 (x2+1)) x3 x4 x5 x6 x7 x8 x9)))))
 else
 (bif ((List.getD x0 (Int.toNat x2) (Ty.dflt TPlace)).2.2.2.1.1==x3) then
 (L0 x0 x1 (w64 (x2+1)) x3 x4 x5 x6 x7 x8 [])
 else
 (bif (x3==3) then
 (bif ((List.getD x0 (Int.toNat x2) (Ty.dflt TPlace)).2.2.2.1.1==1) then
 (rm (Ty.bytes TPlace) (List.length x9+1)
 (L0 x0 x1 (w64 (x2+1)) x3 x4 x5 x6 x7 x8 (x9++[(List.getD x0 (Int.toNat x2) (Ty.dflt TPlace))])))
 else
 (bif ((List.getD x0 (Int.toNat x2) (Ty.dflt TPlace)).2.2.2.1.1==2) then
 (bif ((List.getD x0 (Int.toNat x2) (Ty.dflt TPlace)).2.2.2.1.1==2) then
 (rm (Ty.bytes TPlace) (List.length x9+1)
 (L0 x0 x1 (w64 (x2+1)) x3 x4 x5 x6 x7 x8 (x9++[(List.getD x0 (Int.toNat x2) (Ty.dflt TPlace))])))
 else
 (L0 x0 x1 (w64 (x2+1)) x3 x4 x5 x6 x7 x8 x9))
 else
 (bif (x3==5) then
 (bif ((List.getD x0 (Int.toNat x2) (Ty.dflt TPlace)).2.2.2.1.1==4) then
 (rm (Ty.bytes TPlace) (List.length x9+1)
 (L0 x0 x1 (w64 (x2+1)) x3 x4 x5 x6 x7 x8 (x9++[(List.getD x0 (Int.toNat x2) (Ty.dflt TPlace))])))
 else
 (L0 x0 x1 (w64 (x2+1)) x3 x4 x5 x6 x7 x8 x9))
 else
 (L0 x0 x1 (w64 (x2+1)) x3 x4 x5 x6 x7 x8 x9))))
 else
 (bif (x3==5) then
 (bif ((List.getD x0 (Int.toNat x2) (Ty.dflt TPlace)).2.2.2.1.1==4) then
 (rm (Ty.bytes TPlace) (List.length x9+1)
 (L0 x0 x1 (w64 (x2+1)) x3 x4 x5 x6 x7 x8 (x9++[(List.getD x0 (Int.toNat x2) (Ty.dflt TPlace))])))
 else
 (L0 x0 x1 (w64 (x2+1)) x3 x4 x5 x6 x7 x8 x9))
 else
 (L0 x0 x1 (w64 (x2+1)) x3 x4 x5 x6 x7 x8 x9))))))
 else
 (some (x9,())))
def l0 (k:Nat):Nat→T0
 | 0=>fun _ _ _ _ _ _ _ _ _ _=>none
 | n+1=>b0 k (l0 k n)
def t (k:Nat) (L0:T0) (a0:List (Ty.den TPlace)) (a1:Ty.den TRec):Rs :=
 (L0 a0 (List.length a0:Int) 0 a1.1 a1.2.1 a1.2.2.1 a1.2.2.2.1 a1.2.2.2.2.1 a1.2.2.2.2.2.1 [])
def f (k:Nat):=t k (l0 k k)
end impl_ownOf
namespace impl_vars
abbrev Rs:Type:=Option (ByteArray × Unit)
abbrev T0:Type:=ByteArray→List Int→Int→Int→Rs
def b0 (k:Nat) (L0:T0):T0:=fun x0 x1 x2 x3 =>
 (bif (decide (x3<x2)) then
 (inb x3 (x1.length:Int)
 ((impl_Var.f k (List.getD x1 (Int.toNat x3) (Ty.dflt (.int .i64)))).bind fun r1 =>
 (cat x0 r1.1
 (L0 (x0++r1.1) x1 x2 (w64 (x3+1))))))
 else
 (some (x0,())))
def l0 (k:Nat):Nat→T0
 | 0=>fun _ _ _ _=>none
 | n+1=>b0 k (l0 k n)
def t (k:Nat) (L0:T0) (a0:List Int):Rs :=
 (L0 (⟨#[]⟩:ByteArray) a0 (List.length a0:Int) 0)
def f (k:Nat):=t k (l0 k k)
end impl_vars
namespace impl_ShowRec
abbrev Rs:Type:=Option (ByteArray × Unit)
def t (k:Nat) (a0:Ty.den TRec):Rs :=
 ((impl_RecOk.f k a0).bind fun r1 =>
 (bif (!r1.1) then
 (some ((⟨#[]⟩:ByteArray),()))
 else
 ((impl_vars.f k [a0.1,a0.2.1]).bind fun r2 =>
 (bif (a0.1==1) then
 (bif (a0.1==1) then
 ((impl_textOf.f k a0.2.2.1).bind fun r3 =>
 (cat r2.1 r3.1
 ((impl_textOf.f k a0.2.2.2.1).bind fun r4 =>
 (cat (r2.1++r3.1) r4.1
 (some (((r2.1++r3.1)++r4.1),()))))))
 else
 (bif (a0.1==2) then
 ((impl_textOf.f k a0.2.2.1).bind fun r5 =>
 (cat r2.1 r5.1
 (some ((r2.1++r5.1),()))))
 else
 ((impl_Var.f k a0.2.2.2.2.1).bind fun r6 =>
 (cat r2.1 r6.1
 ((impl_Fixed.f k a0.2.2.2.2.2.1 4).bind fun r7 =>
 (cat (r2.1++r6.1) r7.1
 (some (((r2.1++r6.1)++r7.1),()))))))))
 else
 (bif (a0.1==4) then
 ((impl_textOf.f k a0.2.2.1).bind fun r8 =>
 (cat r2.1 r8.1
 ((impl_textOf.f k a0.2.2.2.1).bind fun r9 =>
 (cat (r2.1++r8.1) r9.1
 (some (((r2.1++r8.1)++r9.1),()))))))
 else
 (bif (a0.1==2) then
 ((impl_textOf.f k a0.2.2.1).bind fun r10 =>
 (cat r2.1 r10.1
 (some ((r2.1++r10.1),()))))
 else
 ((impl_Var.f k a0.2.2.2.2.1).bind fun r11 =>
 (cat r2.1 r11.1
 ((impl_Fixed.f k a0.2.2.2.2.2.1 4).bind fun r12 =>
 (cat (r2.1++r11.1) r12.1
 (some (((r2.1++r11.1)++r12.1),()))))))))))))
def f (k:Nat):=t k
end impl_ShowRec
namespace impl_SumOf
abbrev Rs:Type:=Option (Int × Unit)
abbrev T0:Type:=ByteArray→List (Ty.den TRec)→Int→Int→Rs
def b0 (k:Nat) (L0:T0):T0:=fun x0 x1 x2 x3 =>
 (bif (decide (x3<x2)) then
 (inb x3 (x1.length:Int)
 ((impl_ShowRec.f k (List.getD x1 (Int.toNat x3) (Ty.dflt TRec))).bind fun r1 =>
 (cat x0 r1.1
 (L0 (x0++r1.1) x1 x2 (w64 (x3+1))))))
 else
 ((impl_Crc.f k x0).bind fun r2 =>
 (some r2)))
def l0 (k:Nat):Nat→T0
 | 0=>fun _ _ _ _=>none
 | n+1=>b0 k (l0 k n)
def t (k:Nat) (L0:T0) (a0:List (Ty.den TRec)):Rs :=
 (L0 (⟨#[]⟩:ByteArray) a0 (List.length a0:Int) 0)
def f (k:Nat):=t k (l0 k k)
end impl_SumOf
namespace impl_fits
abbrev Rs:Type:=Option (Bool × Unit)
abbrev T0:Type:=List (Ty.den TPlace)→Int→Int→Int→Int→ByteArray→ByteArray→Int→Int→List (Ty.den TRec)→Rs
def b0 (k:Nat) (L0:T0):T0:=fun x0 x1 x2 x3 x4 x5 x6 x7 x8 x9 =>
 (bif (decide (x2<x1)) then
 (inb x2 (x0.length:Int)
 (rm (Ty.bytes TRec) (List.length x9+1)
 (L0 x0 x1 (w64 (x2+1)) x3 x4 x5 x6 x7 x8 (x9++[(List.getD x0 (Int.toNat x2) (Ty.dflt TPlace)).2.2.2.1]))))
 else
 (bif (x7==(x9.length:Int)) then
 ((impl_SumOf.f k x9).bind fun r1 =>
 (some ((x8==r1.1),())))
 else
 (some (false,()))))
def l0 (k:Nat):Nat→T0
 | 0=>fun _ _ _ _ _ _ _ _ _ _=>none
 | n+1=>b0 k (l0 k n)
def t (k:Nat) (L0:T0) (a0:Ty.den TRec) (a1:List (Ty.den TPlace)):Rs :=
 (L0 a1 (List.length a1:Int) 0 a0.1 a0.2.1 a0.2.2.1 a0.2.2.2.1 a0.2.2.2.2.1 a0.2.2.2.2.2.1 [])
def f (k:Nat):=t k (l0 k k)
end impl_fits
namespace impl_DirDrop
abbrev Rs:Type:=Option ((List (Ty.den TEntry)) × Unit)
abbrev T0:Type:=ByteArray→List (Ty.den TEntry)→Int→Int→List (Ty.den TEntry)→Rs
def b0 (k:Nat) (L0:T0):T0:=fun x0 x1 x2 x3 x4 =>
 (bif (decide (x3<x2)) then
 (inb x3 (x1.length:Int)
 (bif (!(seq (List.getD x1 (Int.toNat x3) (Ty.dflt TEntry)).1 x0)) then
 (rm (Ty.bytes TEntry) (List.length x4+1)
 (L0 x0 x1 x2 (w64 (x3+1)) (x4++[(List.getD x1 (Int.toNat x3) (Ty.dflt TEntry))])))
 else
 (L0 x0 x1 x2 (w64 (x3+1)) x4)))
 else
 (some (x4,())))
def l0 (k:Nat):Nat→T0
 | 0=>fun _ _ _ _ _=>none
 | n+1=>b0 k (l0 k n)
def t (k:Nat) (L0:T0) (a0:List (Ty.den TEntry)) (a1:ByteArray):Rs :=
 (L0 a1 a0 (List.length a0:Int) 0 [])
def f (k:Nat):=t k (l0 k k)
end impl_DirDrop
namespace impl_DirPut
abbrev Rs:Type:=Option ((List (Ty.den TEntry)) × Unit)
abbrev T0:Type:=Int→ByteArray→Int→Int→Int→Int→List (Ty.den TEntry)→Rs
def b0 (k:Nat) (L0:T0):T0:=fun x0 x1 x2 x3 x4 x5 x6 =>
 (bif (decide (x0<(x6.length:Int))) then
 (inb x0 (x6.length:Int)
 (bif ((sls (List.getD x6 (Int.toNat x0) (Ty.dflt TEntry)).1 x1)||(seq (List.getD x6 (Int.toNat x0) (Ty.dflt TEntry)).1 x1)) then
 (L0 (w64 (x0+1)) x1 x2 x3 x4 x5 x6)
 else
 (inc x0 (x6.length:Int)
 ((impl_copyDir.f k (List.take (Int.toNat x0) x6)).bind fun r2 =>
 (rm (Ty.bytes TEntry) (List.length r2.1+1)
 (inc x0 (x6.length:Int)
 (rm (Ty.bytes TEntry) (List.length (r2.1++[(x1,(x2,(x3,(x4,(x5,())))))])+List.length (List.drop (Int.toNat x0) x6))
 (some (((r2.1++[(x1,(x2,(x3,(x4,(x5,())))))])++(List.drop (Int.toNat x0) x6)),())))))))))
 else
 (inc x0 (x6.length:Int)
 ((impl_copyDir.f k (List.take (Int.toNat x0) x6)).bind fun r3 =>
 (rm (Ty.bytes TEntry) (List.length r3.1+1)
 (inc x0 (x6.length:Int)
 (rm (Ty.bytes TEntry) (List.length (r3.1++[(x1,(x2,(x3,(x4,(x5,())))))])+List.length (List.drop (Int.toNat x0) x6))
 (some (((r3.1++[(x1,(x2,(x3,(x4,(x5,())))))])++(List.drop (Int.toNat x0) x6)),()))))))))
def l0 (k:Nat):Nat→T0
 | 0=>fun _ _ _ _ _ _ _=>none
 | n+1=>b0 k (l0 k n)
def t (k:Nat) (L0:T0) (a0:List (Ty.den TEntry)) (a1:Ty.den TEntry):Rs :=
 ((impl_DirDrop.f k a0 a1.1).bind fun r1 =>
 (L0 0 a1.1 a1.2.1 a1.2.2.1 a1.2.2.2.1 a1.2.2.2.2.1 r1.1))
def f (k:Nat):=t k (l0 k k)
end impl_DirPut
namespace impl_Group__apply
abbrev Rs:Type:=Option ((Ty.den TGroup) × Unit)
abbrev T0:Type:=List (Ty.den TPlace)→Int→Int→List (Ty.den TEntry)→Int→Int→Rs
def b0 (k:Nat) (L0:T0):T0:=fun x0 x1 x2 x3 x4 x5 =>
 (bif (decide (x2<x1)) then
 (inb x2 (x0.length:Int)
 (bif ((List.getD x0 (Int.toNat x2) (Ty.dflt TPlace)).2.2.2.1.1==2) then
 ((impl_DirDrop.f k x3 (List.getD x0 (Int.toNat x2) (Ty.dflt TPlace)).2.2.2.1.2.2.1).bind fun r1 =>
 (L0 x0 x1 (w64 (x2+1)) r1.1 x4 x5))
 else
 ((impl_DirPut.f k x3 ((List.getD x0 (Int.toNat x2) (Ty.dflt TPlace)).2.2.2.1.2.2.1,((List.getD x0 (Int.toNat x2) (Ty.dflt TPlace)).1,((List.getD x0 (Int.toNat x2) (Ty.dflt TPlace)).2.1,((List.getD x0 (Int.toNat x2) (Ty.dflt TPlace)).2.2.1,((List.getD x0 (Int.toNat x2) (Ty.dflt TPlace)).2.2.2.1.2.1,())))))).bind fun r2 =>
 (L0 x0 x1 (w64 (x2+1)) r2.1 x4 x5))))
 else
 (bif (decide ((x3.length:Int) > 20)) then
 (some ((x3,(x4,(2,()))),()))
 else
 (some ((x3,(x4,(x5,()))),()))))
def l0 (k:Nat):Nat→T0
 | 0=>fun _ _ _ _ _ _=>none
 | n+1=>b0 k (l0 k n)
def t (k:Nat) (L0:T0) (a0:Ty.den TGroup) (a1:List (Ty.den TPlace)):Rs :=
 (L0 a1 (List.length a1:Int) 0 a0.1 a0.2.1 a0.2.2.1)
def f (k:Nat):=t k (l0 k k)
end impl_Group__apply
namespace impl_Regroup
abbrev Rs:Type:=Option ((Ty.den TGroup) × Unit)
abbrev T0:Type:=List (Ty.den TPlace)→List (Ty.den TPlace)→Int→Int→List (Ty.den TEntry)→Int→Int→List (Ty.den TEntry)→Int→Int→Rs
def b0 (k:Nat) (L0:T0):T0:=fun x0 x1 x2 x3 x4 x5 x6 x7 x8 x9 =>
 (bif (decide (x3<x2)) then
 (inb x3 (x1.length:Int)
 (bif (x9 != 0) then
 (some ((x7,(x8,(x9,()))),()))
 else
 (bif ((List.getD x1 (Int.toNat x3) (Ty.dflt TPlace)).2.2.2.1.1 != 3) then
 (bif ((List.getD x1 (Int.toNat x3) (Ty.dflt TPlace)).2.2.2.1.1 != 5) then
 (L0 x0 x1 x2 (w64 (x3+1)) x4 x5 x6 x7 (if (List.getD x1 (Int.toNat x3) (Ty.dflt TPlace)).2.2.2.1.2.1 > x8 then (List.getD x1 (Int.toNat x3) (Ty.dflt TPlace)).2.2.2.1.2.1 else x8) x9)
 else
 (inc x3 (x0.length:Int)
 ((impl_ownOf.f k (List.take (Int.toNat x3) x0) (List.getD x1 (Int.toNat x3) (Ty.dflt TPlace)).2.2.2.1).bind fun r2 =>
 ((impl_fits.f k (List.getD x1 (Int.toNat x3) (Ty.dflt TPlace)).2.2.2.1 r2.1).bind fun r3 =>
 (bif r3.1 then
 ((impl_Group__apply.f k (x7,((if (List.getD x1 (Int.toNat x3) (Ty.dflt TPlace)).2.2.2.1.2.1 > x8 then (List.getD x1 (Int.toNat x3) (Ty.dflt TPlace)).2.2.2.1.2.1 else x8),(x9,()))) r2.1).bind fun r4 =>
 (L0 x0 x1 x2 (w64 (x3+1)) x4 x5 x6 r4.1.1 r4.1.2.1 r4.1.2.2.1))
 else
 (bif ((List.getD x1 (Int.toNat x3) (Ty.dflt TPlace)).2.2.2.1.1==5) then
 (L0 x0 x1 x2 (w64 (x3+1)) x4 x5 x6 x7 (if (List.getD x1 (Int.toNat x3) (Ty.dflt TPlace)).2.2.2.1.2.1 > x8 then (List.getD x1 (Int.toNat x3) (Ty.dflt TPlace)).2.2.2.1.2.1 else x8) 1)
 else
 (L0 x0 x1 x2 (w64 (x3+1)) x4 x5 x6 x7 (if (List.getD x1 (Int.toNat x3) (Ty.dflt TPlace)).2.2.2.1.2.1 > x8 then (List.getD x1 (Int.toNat x3) (Ty.dflt TPlace)).2.2.2.1.2.1 else x8) x9)))))))
 else
 (inc x3 (x0.length:Int)
 ((impl_ownOf.f k (List.take (Int.toNat x3) x0) (List.getD x1 (Int.toNat x3) (Ty.dflt TPlace)).2.2.2.1).bind fun r5 =>
 ((impl_fits.f k (List.getD x1 (Int.toNat x3) (Ty.dflt TPlace)).2.2.2.1 r5.1).bind fun r6 =>
 (bif r6.1 then
 ((impl_Group__apply.f k (x7,((if (List.getD x1 (Int.toNat x3) (Ty.dflt TPlace)).2.2.2.1.2.1 > x8 then (List.getD x1 (Int.toNat x3) (Ty.dflt TPlace)).2.2.2.1.2.1 else x8),(x9,()))) r5.1).bind fun r7 =>
 (L0 x0 x1 x2 (w64 (x3+1)) x4 x5 x6 r7.1.1 r7.1.2.1 r7.1.2.2.1))
 else
 (bif ((List.getD x1 (Int.toNat x3) (Ty.dflt TPlace)).2.2.2.1.1==5) then
 (L0 x0 x1 x2 (w64 (x3+1)) x4 x5 x6 x7 (if (List.getD x1 (Int.toNat x3) (Ty.dflt TPlace)).2.2.2.1.2.1 > x8 then (List.getD x1 (Int.toNat x3) (Ty.dflt TPlace)).2.2.2.1.2.1 else x8) 1)
 else
 (L0 x0 x1 x2 (w64 (x3+1)) x4 x5 x6 x7 (if (List.getD x1 (Int.toNat x3) (Ty.dflt TPlace)).2.2.2.1.2.1 > x8 then (List.getD x1 (Int.toNat x3) (Ty.dflt TPlace)).2.2.2.1.2.1 else x8) x9)))))))))
 else
 (bif (x9==0) then
 ((impl_ownOf.f k x0 (5,(0,(ByteArray.empty,(ByteArray.empty,(0,(0,()))))))).bind fun r8 =>
 (bif (decide ((List.length r8.1:Int) > 0)) then
 (some ((x7,(x8,(1,()))),()))
 else
 (some ((x7,(x8,(x9,()))),()))))
 else
 (some ((x7,(x8,(x9,()))),()))))
def l0 (k:Nat):Nat→T0
 | 0=>fun _ _ _ _ _ _ _ _ _ _=>none
 | n+1=>b0 k (l0 k n)
def t (k:Nat) (L0:T0) (a0:Ty.den TGroup) (a1:List (Ty.den TPlace)):Rs :=
 ((impl_copyDir.f k a0.1).bind fun r1 =>
 (L0 a1 a1 (List.length a1:Int) 0 [] 0 0 r1.1 a0.2.1 a0.2.2.1))
def f (k:Nat):=t k (l0 k k)
end impl_Regroup
namespace impl_RecAt
abbrev Rs:Type:=Option ((Ty.den TRec) × Bool × Unit)
def t (k:Nat) (a0:ByteArray) (a1:Int) (a2:Int):Rs :=
 ((impl_in.f k a1 0 (ByteArray.size a0:Int)).bind fun r1 =>
 (bif (!r1.1) then
 (some ((0,(0,(ByteArray.empty,(ByteArray.empty,(0,(0,())))))),(false,())))
 else
 ((impl_in.f k a2 0 (w64 ((ByteArray.size a0:Int)-a1))).bind fun r2 =>
 (bif (!r2.1) then
 (some ((0,(0,(ByteArray.empty,(ByteArray.empty,(0,(0,())))))),(false,())))
 else
 (inc2 a1 (w64 (a1+a2)) (ByteArray.size a0:Int)
 ((impl_Unframe.f k (ByteArray.extract a0 (Int.toNat a1) (Int.toNat (w64 (a1+a2))))).bind fun r3 =>
 (bif (r3.2.1==0) then
 (some ((0,(0,(ByteArray.empty,(ByteArray.empty,(0,(0,())))))),(false,())))
 else
 (bif (r3.2.1 != a2) then
 (some ((0,(0,(ByteArray.empty,(ByteArray.empty,(0,(0,())))))),(false,())))
 else
 ((impl_ReadRec.f k r3.1).bind fun r4 =>
 (some r4))))))))))
def f (k:Nat):=t k
end impl_RecAt
namespace impl_FollowMap
abbrev Rs:Type:=Option ((List (Ty.den TPair)) × Bool × Unit)
abbrev T1:Type:=Int→Int→Int→List (Ty.den TPiece)→List (Ty.den TPair)→List (Ty.den TEntry)→Rs
abbrev T0:Type:=List (Ty.den TPiece)→Int→Int→Int→List (Ty.den TPiece)→List (Ty.den TPlace)→Rs
def b1 (k:Nat) (L1:T1):T1:=fun x0 x1 x2 x3 x4 x5 =>
 (bif (decide (x1<x0)) then
 (inb x1 (x5.length:Int)
 ((impl_has.f k (x2,(x3,())) (List.getD x5 (Int.toNat x1) (Ty.dflt TEntry)).2.1).bind fun r4 =>
 ((impl_RecAt.f k r4.1 (List.getD x5 (Int.toNat x1) (Ty.dflt TEntry)).2.2.1 (List.getD x5 (Int.toNat x1) (Ty.dflt TEntry)).2.2.2.1).bind fun r5 =>
 (bif (!r5.2.1) then
 (some ([],(false,())))
 else
 (rm (Ty.bytes TPair) (List.length x4+1)
 (L1 x0 (w64 (x1+1)) x2 x3 (x4++[(r5.1.2.2.1,(r5.1.2.2.2.1,(r5.1.2.1,())))]) x5))))))
 else
 (some (x4,(true,()))))
def l1 (k:Nat):Nat→T1
 | 0=>fun _ _ _ _ _ _=>none
 | n+1=>b1 k (l1 k n)
def b0 (k:Nat) (L1:T1) (L0:T0):T0:=fun x0 x1 x2 x3 x4 x5 =>
 (bif (decide (x2<x1)) then
 (inb x2 (x0.length:Int)
 ((impl_ScanRecs.f k (List.getD x0 (Int.toNat x2) (Ty.dflt TPiece)).2.1).bind fun r1 =>
 (bif (r1.2.1 != (ByteArray.size (List.getD x0 (Int.toNat x2) (Ty.dflt TPiece)).2.1:Int)) then
 (some ([],(false,())))
 else
 ((impl_placed.f k (List.getD x0 (Int.toNat x2) (Ty.dflt TPiece)).1 r1.1).bind fun r2 =>
 (rm (Ty.bytes TPlace) (List.length x5+List.length r2.1)
 (L0 x0 x1 (w64 (x2+1)) x3 x4 (x5++r2.1)))))))
 else
 ((impl_Regroup.f k ([],(0,(0,()))) x5).bind fun r3 =>
 (bif (r3.1.2.2.1 != 0) then
 (some ([],(false,())))
 else
 (L1 (List.length r3.1.1:Int) 0 x3 x4 [] r3.1.1))))
def l0 (k:Nat):Nat→T0
 | 0=>fun _ _ _ _ _ _=>none
 | n+1=>b0 k (l1 k k) (l0 k n)
def t (k:Nat) (L0:T0) (a0:Ty.den TFollower):Rs :=
 (L0 a0.2.1 (List.length a0.2.1:Int) 0 a0.1 a0.2.1 [])
def f (k:Nat):=t k (l0 k k)
end impl_FollowMap
namespace spec_FollowMap
abbrev Rs:Type:=Option ((List (Ty.den TPair)) × Bool × Unit)
abbrev T1:Type:=Int→Int→List (Ty.den TPiece)→List (Ty.den TPair)→List (Ty.den TEntry)→Int→Int→List (Ty.den TPair)→Rs
abbrev T0:Type:=Int→Int→List (Ty.den TPiece)→List (Ty.den TPair)→List (Ty.den TPlace)→Rs
def b1 (k:Nat) (L1:T1):T1:=fun x0 x1 x2 x3 x4 x5 x6 x7 =>
 (bif (decide (x0<(x4.length:Int))) then
 (inb x0 (x4.length:Int)
 ((spec_l27Text.f k (x1,(x2,())) (List.getD x4 (Int.toNat x0) (Ty.dflt TEntry)).2.1).bind fun r4 =>
 (inb x0 (x4.length:Int)
 (inb x0 (x4.length:Int)
 ((spec_RecAt.f k r4.1 (List.getD x4 (Int.toNat x0) (Ty.dflt TEntry)).2.2.1 (List.getD x4 (Int.toNat x0) (Ty.dflt TEntry)).2.2.2.1).bind fun r5 =>
 (bif (!r5.2.1) then
 (some (x3,(false,())))
 else
 (rm (Ty.bytes TPair) (List.length x7+1)
 (L1 (w64 (x0+1)) x1 x2 x3 x4 x5 x6 (x7++[(r5.1.2.2.1,(r5.1.2.2.2.1,(r5.1.2.1,())))])))))))))
 else
 (some (x7,(true,()))))
def l1 (k:Nat):Nat→T1
 | 0=>fun _ _ _ _ _ _ _ _=>none
 | n+1=>b1 k (l1 k n)
def b0 (k:Nat) (L1:T1) (L0:T0):T0:=fun x0 x1 x2 x3 x4 =>
 (bif (decide (x0<(x2.length:Int))) then
 (inb x0 (x2.length:Int)
 ((spec_ScanRecs.f k (List.getD x2 (Int.toNat x0) (Ty.dflt TPiece)).2.1).bind fun r1 =>
 (inb x0 (x2.length:Int)
 (bif (decide (r1.2.1<(ByteArray.size (List.getD x2 (Int.toNat x0) (Ty.dflt TPiece)).2.1:Int))) then
 (some (x3,(false,())))
 else
 (inb x0 (x2.length:Int)
 (inb x0 (x2.length:Int)
 ((spec_l11Places.f k (List.getD x2 (Int.toNat x0) (Ty.dflt TPiece)).1 (List.getD x2 (Int.toNat x0) (Ty.dflt TPiece)).2.1).bind fun r2 =>
 (rm (Ty.bytes TPlace) (List.length x4+List.length r2.1)
 (L0 (w64 (x0+1)) x1 x2 x3 (x4++r2.1))))))))))
 else
 ((spec_Regroup.f k ([],(0,(0,()))) x4).bind fun r3 =>
 (bif (r3.1.2.2.1 != 0) then
 (some (x3,(false,())))
 else
 (L1 0 x1 x2 x3 r3.1.1 r3.1.2.1 r3.1.2.2.1 []))))
def l0 (k:Nat):Nat→T0
 | 0=>fun _ _ _ _ _=>none
 | n+1=>b0 k (l1 k k) (l0 k n)
def t (k:Nat) (L0:T0) (a0:Ty.den TFollower):Rs :=
 (L0 0 a0.1 a0.2.1 [] [])
def f (k:Nat):=t k (l0 k k)
end spec_FollowMap
namespace spec_SamePairs
abbrev Rs:Type:=Option (Bool × Unit)
abbrev T0:Type:=List (Ty.den TPair)→List (Ty.den TPair)→Int→Rs
def b0 (k:Nat) (L0:T0):T0:=fun x0 x1 x2 =>
 (bif (decide (x2<(x0.length:Int))) then
 (inb x2 (x0.length:Int)
 (inb x2 (x1.length:Int)
 (bif (!((seq (List.getD x0 (Int.toNat x2) (Ty.dflt TPair)).1 (List.getD x1 (Int.toNat x2) (Ty.dflt TPair)).1)&&((seq (List.getD x0 (Int.toNat x2) (Ty.dflt TPair)).2.1 (List.getD x1 (Int.toNat x2) (Ty.dflt TPair)).2.1)&&((List.getD x0 (Int.toNat x2) (Ty.dflt TPair)).2.2.1==(List.getD x1 (Int.toNat x2) (Ty.dflt TPair)).2.2.1)))) then
 (some (false,()))
 else
 (L0 x0 x1 (w64 (x2+1))))))
 else
 (some (true,())))
def l0 (k:Nat):Nat→T0
 | 0=>fun _ _ _=>none
 | n+1=>b0 k (l0 k n)
def t (k:Nat) (L0:T0) (a0:List (Ty.den TPair)) (a1:List (Ty.den TPair)):Rs :=
 (bif ((List.length a0:Int) != (List.length a1:Int)) then
 (some (false,()))
 else
 (L0 a0 a1 0))
def f (k:Nat):=t k (l0 k k)
end spec_SamePairs
namespace impl_ParcelBytes
abbrev Rs:Type:=Option (Int × Unit)
abbrev T0:Type:=Int→List (Ty.den TBit)→Int→Int→Rs
def b0 (k:Nat) (L0:T0):T0:=fun x0 x1 x2 x3 =>
 (bif (decide (x3<x2)) then
 (inb x3 (x1.length:Int)
 (L0 (w64 (x0+(ByteArray.size (List.getD x1 (Int.toNat x3) (Ty.dflt TBit)).2.2.1:Int))) x1 x2 (w64 (x3+1))))
 else
 (some (x0,())))
def l0 (k:Nat):Nat→T0
 | 0=>fun _ _ _ _=>none
 | n+1=>b0 k (l0 k n)
def t (k:Nat) (L0:T0) (a0:Ty.den TParcel):Rs :=
 (L0 0 a0.2.1 (List.length a0.2.1:Int) 0)
def f (k:Nat):=t k (l0 k k)
end impl_ParcelBytes
namespace spec_ParcelBytes
abbrev Rs:Type:=Option (Int × Unit)
abbrev T0:Type:=Int→Int→Int→List (Ty.den TBit)→Rs
def b0 (k:Nat) (L0:T0):T0:=fun x0 x1 x2 x3 =>
 (bif (decide (x1<(x3.length:Int))) then
 (inb x1 (x3.length:Int)
 (L0 (w64 (x0+(ByteArray.size (List.getD x3 (Int.toNat x1) (Ty.dflt TBit)).2.2.1:Int))) (w64 (x1+1)) x2 x3))
 else
 (some (x0,())))
def l0 (k:Nat):Nat→T0
 | 0=>fun _ _ _ _=>none
 | n+1=>b0 k (l0 k n)
def t (k:Nat) (L0:T0) (a0:Ty.den TParcel):Rs :=
 (L0 0 0 a0.1 a0.2.1)
def f (k:Nat):=t k (l0 k k)
end spec_ParcelBytes
namespace laws_FnParcels
abbrev Rs:Type:=Option (Bool × Unit)
def t (k:Nat) (a0:List Int):Rs :=
 ((laws_big.f k a0).bind fun r1 =>
 (bif r1.1 then
 (some (true,()))
 else
 ((spec_DrawReceive.f k a0).bind fun r2 =>
 ((impl_Receive.f k r2.1 r2.2.1).bind fun r3 =>
 ((spec_Receive.f k r2.1 r2.2.1).bind fun r4 =>
 (bif (!(r3.2.1==r4.2.1)) then
 (some (false,()))
 else
 ((spec_SameFollower.f k r3.1 r4.1).bind fun r5 =>
 (bif (!r5.1) then
 (some (false,()))
 else
 (bif (!r3.2.1) then
 ((spec_SameFollower.f k r3.1 r2.1).bind fun r6 =>
 (bif (!r6.1) then
 (some (false,()))
 else
 ((spec_DrawFollowMap.f k a0).bind fun r7 =>
 ((impl_FollowMap.f k r7.1).bind fun r8 =>
 ((spec_DrawFollowMap.f k a0).bind fun r9 =>
 ((spec_FollowMap.f k r9.1).bind fun r10 =>
 (bif (r8.2.1==r10.2.1) then
 ((spec_SamePairs.f k r8.1 r10.1).bind fun r11 =>
 (bif r11.1 then
 (bif (!r3.2.1) then
 ((impl_ParcelBytes.f k r2.2.1).bind fun r12 =>
 ((spec_ParcelBytes.f k r2.2.1).bind fun r13 =>
 (some ((r12.1==r13.1),()))))
 else
 (bif ((List.length r3.1.2.1:Int)==(List.length r2.2.1.2.1:Int)) then
 ((impl_ParcelBytes.f k r2.2.1).bind fun r14 =>
 ((spec_ParcelBytes.f k r2.2.1).bind fun r15 =>
 (some ((r14.1==r15.1),()))))
 else
 (some (false,()))))
 else
 (some (false,()))))
 else
 (some (false,())))))))))
 else
 ((spec_DrawFollowMap.f k a0).bind fun r16 =>
 ((impl_FollowMap.f k r16.1).bind fun r17 =>
 ((spec_DrawFollowMap.f k a0).bind fun r18 =>
 ((spec_FollowMap.f k r18.1).bind fun r19 =>
 (bif (r17.2.1==r19.2.1) then
 ((spec_SamePairs.f k r17.1 r19.1).bind fun r20 =>
 (bif r20.1 then
 (bif (!r3.2.1) then
 ((impl_ParcelBytes.f k r2.2.1).bind fun r21 =>
 ((spec_ParcelBytes.f k r2.2.1).bind fun r22 =>
 (some ((r21.1==r22.1),()))))
 else
 (bif ((List.length r3.1.2.1:Int)==(List.length r2.2.1.2.1:Int)) then
 ((impl_ParcelBytes.f k r2.2.1).bind fun r23 =>
 ((spec_ParcelBytes.f k r2.2.1).bind fun r24 =>
 (some ((r23.1==r24.1),()))))
 else
 (some (false,()))))
 else
 (some (false,()))))
 else
 (some (false,()))))))))))))))))
def f (k:Nat):=t k
end laws_FnParcels
end Go.Proofs.YtmakghhmpgfboaaGreat.G
