/- Functions, as V runs them. -/
import Derived.Test.YthjppgafienaoaaGreatDoorVWords
import Derived.Test.YthjppgafienaoaaGreatDoorXLib
set_option linter.unusedVariables false
namespace Go.Proofs.YthjppgafienaoaaGreatDoor.G
open Go.V
abbrev bz:Ty := .pair (.int .i64) (.pair .str (.pair (.slice .str) .unit))
abbrev aD:Ty := .pair .str (.pair .str (.pair (.int .i64) .unit))
abbrev aB:Ty := .pair (.slice aD) (.pair (.int .i64) (.pair (.int .i64) (.pair .bool .unit)))
abbrev bo:Ty := .pair (.int .i64) (.pair (.slice (.int .i64)) .unit)
abbrev a_:Ty := .pair .str (.pair (.int .i64) (.pair (.int .i64) (.pair (.int .i64) (.pair (.int .i64) .unit))))
abbrev aF:Ty := .pair bo (.pair (.slice a_) (.pair (.int .i64) (.pair (.int .i64) (.pair (.int .i64) .unit))))
abbrev bG:Ty := .pair .str (.pair (.int .i64) .unit)
abbrev aY:Ty := .pair .str (.pair .bool (.pair .str .unit))
abbrev an:Ty := .pair .bool (.pair (.slice bG) (.pair (.slice aY) .unit))
abbrev aV:Ty := .pair .bool (.pair aF (.pair aB (.pair (.slice an) .unit)))
abbrev i_:Ty := .pair (.slice a_) (.pair (.int .i64) (.pair (.int .i64) .unit))
abbrev fm:Ty := .pair (.int .i64) (.pair (.int .i64) (.pair (.slice a_) .unit))
abbrev bA:Ty := .pair (.int .i64) (.pair (.int .i64) (.pair .str (.pair .str (.pair (.int .i64) (.pair (.int .i64) .unit)))))
abbrev aC:Ty := .pair (.int .i64) (.pair (.int .i64) (.pair (.int .i64) (.pair bA .unit)))
abbrev bK:Ty := .pair (.int .i64) (.pair (.int .i64) (.pair bA .unit))
abbrev az:Ty := .pair (.int .i64) (.pair (.int .i64) (.pair .str (.pair .str (.pair (.int .i64) .unit))))
abbrev fB:Ty := .pair (.slice (.int .u8)) (.pair (.int .i64) (.pair (.int .i64) .unit))
abbrev me:Ty := .pair .str (.pair .bool .unit)
abbrev aq:Ty := .pair aB (.pair (.int .i64) .unit)
abbrev yc:Ty:=aD
variable (k:Nat)
namespace po
abbrev Rs:Type:=Option (Bool × Unit)
def t (k:Nat) (a0:List Int):Rs :=
 (some ((decide ((a0.length:Int) > 1048576)),()))
def f:=t k
end po
namespace gb
abbrev Rs:Type:=Option (Unit × (Ty.d fB) × Unit)
abbrev T0:Type:=List Int→Int→Int→Rs
def b0 (k:Nat) (L0:T0):T0:=fun x0 x1 x2 =>
 (cond (decide (x2<(x0.length:Int))) (cond (decide (x2<4000)) (aw x2 (x0.length:Int) (L0 x0 (aG (((BitVec.ofInt (IntKind.bits .i64) (aG ((aG ((aG (x1*131))+(aG (x0.getD x2.toNat (Ty.z (.int .u8))))))+7)) &&& BitVec.ofInt (IntKind.bits .i64) 1073741823).toNat:Int))) (aG (x2+1)))) (some ((),((x0,(0,(x1,()))),())))) (some ((),((x0,(0,(x1,()))),()))))
def l0:Nat→T0
 | 0=>fun _ _ _=>none
 | n+1=>b0 k (l0 n)
def t (k:Nat) (L0:T0) (a0:List Int):Rs :=
 (L0 a0 (aG (10101+(a0.length:Int))) 0)
def f:=t k (l0 k k)
end gb
namespace fD
abbrev Rs:Type:=Option ((Ty.d fB) × Int × Unit)
def t (k:Nat) (a0:Ty.d fB):Rs :=
 (cond (decide (a0.2.1<(a0.1.length:Int))) (aw a0.2.1 (a0.1.length:Int) (some ((a0.1,((aG (a0.2.1+1)),((aG ((aG (a0.2.2.1*6364136223846793005))+1442695040888963407)),()))),((aG (((BitVec.ofInt (IntKind.bits .i64) (aG ((aG (((BitVec.ofInt (IntKind.bits .i64) (aG (((BitVec.ofInt (IntKind.bits .i64) (Int.fdiv (aG ((aG (a0.2.2.1*6364136223846793005))+1442695040888963407)) (2 ^ (Int.toNat 33))) ^^^ BitVec.ofInt (IntKind.bits .i64) (Int.fdiv (aG ((aG (a0.2.2.1*6364136223846793005))+1442695040888963407)) (2 ^ (Int.toNat 45)))).toNat:Int))) &&& BitVec.ofInt (IntKind.bits .i64) 255).toNat:Int)))+(aG (a0.1.getD a0.2.1.toNat (Ty.z (.int .u8)))))) &&& BitVec.ofInt (IntKind.bits .i64) 255).toNat:Int))),())))) (some ((a0.1,(a0.2.1,((aG ((aG (a0.2.2.1*6364136223846793005))+1442695040888963407)),()))),((aG (((BitVec.ofInt (IntKind.bits .i64) (aG (((BitVec.ofInt (IntKind.bits .i64) (Int.fdiv (aG ((aG (a0.2.2.1*6364136223846793005))+1442695040888963407)) (2 ^ (Int.toNat 33))) ^^^ BitVec.ofInt (IntKind.bits .i64) (Int.fdiv (aG ((aG (a0.2.2.1*6364136223846793005))+1442695040888963407)) (2 ^ (Int.toNat 45)))).toNat:Int))) &&& BitVec.ofInt (IntKind.bits .i64) 255).toNat:Int))),()))))
def f:=t k
end fD
namespace b9
abbrev Rs:Type:=Option ((Ty.d fB) × Int × Unit)
def t (a0:Ty.d fB) (a1:Int):Rs :=
 (cond (decide (a1≤0)) (some (a0,(0,()))) (cond (decide (a1≤256)) ((fD.f k a0).bind fun r1=>bif (decide (a1=0)) then none else (some (r1.1,((Int.tmod r1.2.1 a1),())))) ((fD.f k a0).bind fun r2=>(fD.f k r2.1).bind fun r3=>(fD.f k r3.1).bind fun r4=>(fD.f k r4.1).bind fun r5=>bif (decide (a1=0)) then none else (some (r5.1,((Int.tmod (aG ((aG ((aG ((aG (r2.2.1*16777216))+(aG (r3.2.1*65536))))+(aG (r4.2.1*256))))+r5.2.1)) a1),()))))))
def f:=t k
end b9
namespace aX
abbrev Rs:Type:=Option ((Ty.d fB) × Int × Unit)
def t (a0:Ty.d fB) (a1:List Int):Rs :=
 ((b9.f k a0 (a1.length:Int)).bind fun r1=>aw r1.2.1 (a1.length:Int) (some (r1.1,((a1.getD r1.2.1.toNat (Ty.z (.int .i64))),()))))
def f:=t k
end aX
namespace aR
abbrev Rs:Type:=Option (Bool × Unit)
def t (k:Nat) (a0:Int) (a1:Int) (a2:Int):Rs :=
 (cond (decide (a0≥a1)) (some ((decide (a0≤a2)),())) (some (false,())))
def f:=t k
end aR
namespace jQ
abbrev Rs:Type:=Option ((Ty.d aB) × Unit)
def t (a0:Int):Rs :=
 ((aR.f k a0 0 100000).bind fun r1=>cond (!r1.1) (some (([],(0,(0,(false,())))),())) (some (([],(a0,((-1),(false,())))),())))
def f:=t k
end jQ
namespace e_
abbrev Rs:Type:=Option (Int × Unit)
abbrev T0:Type:=Int→Int→List (Ty.d aD)→Int→Int→Bool→Rs
def b0 (k:Nat) (L0:T0):T0:=fun x0 x1 x2 x3 x4 x5 =>
 (cond (decide (x1<(x2.length:Int))) (aw x1 (x2.length:Int) (L0 (aG (x0+(ByteArray.size (x2.getD x1.toNat (Ty.z aD)).2.1:Int))) (aG (x1+1)) x2 x3 x4 x5)) (some (x0,())))
def l0:Nat→T0
 | 0=>fun _ _ _ _ _ _=>none
 | n+1=>b0 k (l0 n)
def t (k:Nat) (L0:T0) (a0:Ty.d aB):Rs :=
 (L0 0 0 a0.1 a0.2.1 a0.2.2.1 a0.2.2.2.1)
def f:=t k (l0 k k)
end e_
namespace eF
abbrev Rs:Type:=Option (Bool × Unit)
abbrev T0:Type:=ByteArray→Int→Rs
def b0 (L0:T0):T0:=fun x0 x1 =>
 (cond (decide (x1<(x0.size:Int))) (aw x1 (x0.size:Int) (cond (decide ((eI x0 x1)≥97)) (aw x1 (x0.size:Int) (cond (decide ((eI x0 x1)≤122)) (L0 x0 (aG (x1+1))) (aw x1 (x0.size:Int) (cond (decide ((eI x0 x1)≥48)) (aw x1 (x0.size:Int) (cond (!(decide ((eI x0 x1)≤57))) (some (false,())) (L0 x0 (aG (x1+1))))) (some (false,())))))) (aw x1 (x0.size:Int) (cond (decide ((eI x0 x1)≥48)) (aw x1 (x0.size:Int) (cond (!(decide ((eI x0 x1)≤57))) (some (false,())) (L0 x0 (aG (x1+1))))) (some (false,())))))) ((aR.f k (x0.size:Int) 1 12).bind fun r1=>some r1))
def l0:Nat→T0
 | 0=>fun _ _=>none
 | n+1=>b0 k (l0 n)
def t (k:Nat) (L0:T0) (a0:ByteArray):Rs :=
 (L0 a0 0)
def f:=t k (l0 k k)
end eF
namespace bM
abbrev Rs:Type:=Option (Bool × Unit)
abbrev T0:Type:=Int→List (Ty.d aD)→Int→Int→Bool→Rs
def b0 (L0:T0):T0:=fun x0 x1 x2 x3 x4 =>
 (cond (decide (x0<(x1.length:Int))) (aw x0 (x1.length:Int) ((eF.f k (x1.getD x0.toNat (Ty.z aD)).1).bind fun r4=>cond (!r4.1) (some (false,())) (aw x0 (x1.length:Int) (aw x0 (x1.length:Int) ((aR.f k (x1.getD x0.toNat (Ty.z aD)).2.2.1 0 (ByteArray.size (x1.getD x0.toNat (Ty.z aD)).2.1:Int)).bind fun r5=>cond (!r5.1) (some (false,())) (cond (decide (x0 > 0)) (aw x0 (x1.length:Int) (aw (aG (x0-1)) (x1.length:Int) (cond ((oG (x1.getD x0.toNat (Ty.z aD)).1 (x1.getD (aG (x0-1)).toNat (Ty.z aD)).1)||(seq (x1.getD x0.toNat (Ty.z aD)).1 (x1.getD (aG (x0-1)).toNat (Ty.z aD)).1)) (some (false,())) (L0 (aG (x0+1)) x1 x2 x3 x4)))) (L0 (aG (x0+1)) x1 x2 x3 x4))))))) (some (true,())))
def l0:Nat→T0
 | 0=>fun _ _ _ _ _=>none
 | n+1=>b0 k (l0 n)
def t (L0:T0) (a0:Ty.d aB):Rs :=
 (cond (decide ((a0.1.length:Int) > 130)) (some (false,())) ((aR.f k a0.2.1 0 100000).bind fun r1=>cond (!r1.1) (some (false,())) ((aR.f k a0.2.2.1 (-1) 100000).bind fun r2=>cond (!r2.1) (some (false,())) ((e_.f k a0).bind fun r3=>cond (decide (r3.1 > a0.2.1)) (some (false,())) (L0 0 a0.1 a0.2.1 a0.2.2.1 a0.2.2.2.1)))))
def f:=t k (l0 k k)
end bM
namespace cK
abbrev Rs:Type:=Option ((Ty.d aB) × Unit)
def t (k:Nat) (a0:Ty.d aB):Rs :=
 (rm (Ty.bytes aD) (0+List.length a0.1) (some ((([]++a0.1),a0.2),())))
def f:=t k
end cK
namespace bJ
abbrev Rs:Type:=Option (Int × Unit)
abbrev T0:Type:=ByteArray→Int→List (Ty.d aD)→Int→Int→Bool→Rs
def b0 (k:Nat) (L0:T0):T0:=fun x0 x1 x2 x3 x4 x5 =>
 (cond (decide (x1<(x2.length:Int))) (aw x1 (x2.length:Int) (cond (seq (x2.getD x1.toNat (Ty.z aD)).1 x0) (some (x1,())) (L0 x0 (aG (x1+1)) x2 x3 x4 x5))) (some ((-1),())))
def l0:Nat→T0
 | 0=>fun _ _ _ _ _ _=>none
 | n+1=>b0 k (l0 n)
def t (k:Nat) (L0:T0) (a0:Ty.d aB) (a1:ByteArray):Rs :=
 (L0 a1 0 a0.1 a0.2.1 a0.2.2.1 a0.2.2.2.1)
def f:=t k (l0 k k)
end bJ
namespace bp
abbrev Rs:Type:=Option (ByteArray × Bool × Unit)
def t (a0:Ty.d aB) (a1:ByteArray):Rs :=
 ((bM.f k a0).bind fun r1=>cond (!r1.1) (some ((⟨#[]⟩:ByteArray),(false,()))) ((bJ.f k a0 a1).bind fun r2=>cond (decide (r2.1<0)) (some ((⟨#[]⟩:ByteArray),(false,()))) (aw r2.1 (a0.1.length:Int) (some ((a0.1.getD r2.1.toNat (Ty.z aD)).2.1,(true,()))))))
def f:=t k
end bp
namespace eA
abbrev Rs:Type:=Option (ByteArray × Unit)
abbrev T0:Type:=Int→ByteArray→Bool→Rs
def b0 (k:Nat) (L0:T0):T0:=fun x0 x1 x2 =>
 (cond (x0 != 0) (cond (decide ((Int.tmod x0 10)<0)) (ln (bytesOf [(IntKind.wrap .u8 (aG (48+(aG (0-(Int.tmod x0 10))))))]) x1 (L0 (aG (Int.tdiv x0 10)) ((bytesOf [(IntKind.wrap .u8 (aG (48+(aG (0-(Int.tmod x0 10))))))])++x1) x2)) (ln (bytesOf [(IntKind.wrap .u8 (aG (48+(Int.tmod x0 10))))]) x1 (L0 (aG (Int.tdiv x0 10)) ((bytesOf [(IntKind.wrap .u8 (aG (48+(Int.tmod x0 10))))])++x1) x2))) (cond x2 (ln (⟨#[45]⟩:ByteArray) x1 (some (((⟨#[45]⟩:ByteArray)++x1),()))) (some (x1,()))))
def l0:Nat→T0
 | 0=>fun _ _ _=>none
 | n+1=>b0 k (l0 n)
def t (k:Nat) (L0:T0) (a0:Int):Rs :=
 (cond (a0==0) (some ((⟨#[48]⟩:ByteArray),())) (L0 a0 (⟨#[]⟩:ByteArray) (decide (a0<0))))
def f:=t k (l0 k k)
end eA
namespace ek
abbrev Rs:Type:=Option (Int × Bool × Unit)
abbrev T0:Type:=ByteArray→Int→Int→Int→Rs
def b0 (L0:T0):T0:=fun x0 x1 x2 x3 =>
 (cond (decide (x3<(x0.size:Int))) (cond (decide (x3<11)) (aw x3 (x0.size:Int) (cond (decide ((eI x0 x3)≥48)) (aw x3 (x0.size:Int) (cond (decide ((eI x0 x3)≤57)) (aw x3 (x0.size:Int) (L0 x0 (aG ((aG (x1*10))+(aG (IntKind.wrap .u8 ((eI x0 x3)-48))))) (aG (x2+1)) (aG (x3+1)))) (L0 x0 x1 x2 (aG (x3+1))))) (L0 x0 x1 x2 (aG (x3+1))))) (cond (decide ((x0.size:Int) > 0)) (aw 0 (x0.size:Int) (cond ((eI x0 0)==45) (cond (decide (x2 > 9)) (some (0,(false,()))) (cond (decide ((x0.size:Int) > 10)) (some (0,(false,()))) ((eA.f k (aG (0-x1))).bind fun r1=>cond (!(seq r1.1 x0)) (some (0,(false,()))) (some ((aG (0-x1)),(true,())))))) (cond (decide (x2 > 9)) (some (0,(false,()))) (cond (decide ((x0.size:Int) > 10)) (some (0,(false,()))) ((eA.f k x1).bind fun r2=>cond (!(seq r2.1 x0)) (some (0,(false,()))) (some (x1,(true,())))))))) (cond (decide (x2 > 9)) (some (0,(false,()))) (cond (decide ((x0.size:Int) > 10)) (some (0,(false,()))) ((eA.f k x1).bind fun r3=>cond (!(seq r3.1 x0)) (some (0,(false,()))) (some (x1,(true,())))))))) (cond (decide ((x0.size:Int) > 0)) (aw 0 (x0.size:Int) (cond ((eI x0 0)==45) (cond (decide (x2 > 9)) (some (0,(false,()))) (cond (decide ((x0.size:Int) > 10)) (some (0,(false,()))) ((eA.f k (aG (0-x1))).bind fun r4=>cond (!(seq r4.1 x0)) (some (0,(false,()))) (some ((aG (0-x1)),(true,())))))) (cond (decide (x2 > 9)) (some (0,(false,()))) (cond (decide ((x0.size:Int) > 10)) (some (0,(false,()))) ((eA.f k x1).bind fun r5=>cond (!(seq r5.1 x0)) (some (0,(false,()))) (some (x1,(true,())))))))) (cond (decide (x2 > 9)) (some (0,(false,()))) (cond (decide ((x0.size:Int) > 10)) (some (0,(false,()))) ((eA.f k x1).bind fun r6=>cond (!(seq r6.1 x0)) (some (0,(false,()))) (some (x1,(true,()))))))))
def l0:Nat→T0
 | 0=>fun _ _ _ _=>none
 | n+1=>b0 k (l0 n)
def t (k:Nat) (L0:T0) (a0:ByteArray):Rs :=
 (L0 a0 0 0 0)
def f:=t k (l0 k k)
end ek
namespace aW
abbrev Rs:Type:=Option (ByteArray × Unit)
def t (a0:Int):Rs :=
 ((aR.f k a0 1 100000).bind fun r1=>cond (!r1.1) (some ((⟨#[]⟩:ByteArray),())) ((eA.f k a0).bind fun r2=>ln (⟨#[115,101,103]⟩:ByteArray) r2.1 (some (((⟨#[115,101,103]⟩:ByteArray)++r2.1),()))))
def f:=t k
end aW
namespace d9
abbrev Rs:Type:=Option (ByteArray × Unit)
def t (a0:Int):Rs :=
 ((aR.f k a0 1 100000).bind fun r1=>cond (!r1.1) (some ((⟨#[]⟩:ByteArray),())) ((eA.f k a0).bind fun r2=>ln (⟨#[104,105,110,116]⟩:ByteArray) r2.1 (some (((⟨#[104,105,110,116]⟩:ByteArray)++r2.1),()))))
def f:=t k
end d9
namespace iK
abbrev Rs:Type:=Option (Int × Bool × Unit)
abbrev T0:Type:=ByteArray→Int→Rs
def b0 (L0:T0):T0:=fun x0 x1 =>
 (cond (decide (x1≤4)) (cond (decide ((x0.size:Int) > x1)) (pE x1 (x0.size:Int) ((ek.f k (x0.extract x1.toNat (x0.size))).bind fun r1=>cond r1.2.1 (cond (decide (r1.1≥1)) ((aW.f k r1.1).bind fun r2=>cond (seq r2.1 x0) (some (r1.1,(true,()))) ((d9.f k r1.1).bind fun r3=>cond (seq r3.1 x0) (some (r1.1,(true,()))) (L0 x0 (aG (x1+1))))) (L0 x0 (aG (x1+1)))) (L0 x0 (aG (x1+1))))) (L0 x0 (aG (x1+1)))) (some (0,(false,()))))
def l0:Nat→T0
 | 0=>fun _ _=>none
 | n+1=>b0 k (l0 n)
def t (k:Nat) (L0:T0) (a0:ByteArray):Rs :=
 (L0 a0 3)
def f:=t k (l0 k k)
end iK
namespace bI
abbrev Rs:Type:=Option ((List ByteArray) × Unit)
abbrev T1:Type:=Int→Int→Bool→Bool→Int→List (Ty.d aD)→Int→Int→Bool→Int→List Int→List ByteArray→Rs
abbrev T0:Type:=Int→List (Ty.d aD)→Int→Int→Bool→Int→List Int→List ByteArray→Rs
def b1 (k:Nat) (L0:T0) (L1:T1):T1:=fun x0 x1 x2 x3 x4 x5 x6 x7 x8 x9 x10 x11 =>
 (cond (decide (x4<(x10.length:Int))) (cond x3 (L1 x0 x1 x2 true (aG (x4+1)) x5 x6 x7 x8 x9 x10 x11) (aw x4 (x10.length:Int) (L1 x0 x1 x2 ((x10.getD x4.toNat (Ty.z (.int .i64)))==x1) (aG (x4+1)) x5 x6 x7 x8 x9 x10 x11))) (cond x2 (cond (!x3) (aw x0 (x5.length:Int) (rm (Ty.bytes .str) (x11.length+1) (L0 (aG (x0+1)) x5 x6 x7 x8 x9 x10 (x11++[(x5.getD x0.toNat (Ty.z aD)).1])))) (aw x0 (x5.length:Int) (cond (seq (x5.getD x0.toNat (Ty.z aD)).1 (⟨#[116,101,109,112]⟩:ByteArray)) (aw x0 (x5.length:Int) (rm (Ty.bytes .str) (x11.length+1) (L0 (aG (x0+1)) x5 x6 x7 x8 x9 x10 (x11++[(x5.getD x0.toNat (Ty.z aD)).1])))) (L0 (aG (x0+1)) x5 x6 x7 x8 x9 x10 x11)))) (aw x0 (x5.length:Int) (cond (seq (x5.getD x0.toNat (Ty.z aD)).1 (⟨#[116,101,109,112]⟩:ByteArray)) (aw x0 (x5.length:Int) (rm (Ty.bytes .str) (x11.length+1) (L0 (aG (x0+1)) x5 x6 x7 x8 x9 x10 (x11++[(x5.getD x0.toNat (Ty.z aD)).1])))) (L0 (aG (x0+1)) x5 x6 x7 x8 x9 x10 x11)))))
def l1 (L0:T0):Nat→T1
 | 0=>fun _ _ _ _ _ _ _ _ _ _ _ _=>none
 | n+1=>b1 k L0 (l1 L0 n)
def b0 (L1:T1) (L0:T0):T0:=fun x0 x1 x2 x3 x4 x5 x6 x7 =>
 (cond (decide (x0<(x1.length:Int))) (aw x0 (x1.length:Int) ((iK.f k (x1.getD x0.toNat (Ty.z aD)).1).bind fun r2=>L1 x0 r2.1 r2.2.1 false 0 x1 x2 x3 x4 x5 x6 x7)) (some (x7,())))
def l0:Nat→T0
 | 0=>fun _ _ _ _ _ _ _ _=>none
 | n+1=>b0 k (l1 k (l0 n) k) (l0 n)
def t (L0:T0) (a0:Ty.d aB) (a1:Ty.d bo):Rs :=
 ((bM.f k a0).bind fun r1=>cond (!r1.1) (some ([],())) (L0 0 a0.1 a0.2.1 a0.2.2.1 a0.2.2.2.1 a1.1 a1.2.1 []))
def f:=t k (l0 k k)
end bI
namespace dI
abbrev Rs:Type:=Option ((Ty.d aB) × Int × Unit)
def t (a0:Ty.d aB):Rs :=
 ((cK.f k a0).bind fun r1=>(bM.f k a0).bind fun r2=>cond (!r2.1) (some (r1.1,(5,()))) (cond a0.2.2.2.1 (some ((r1.1.1,(r1.1.2.1,(r1.1.2.2.1,(true,())))),(1,()))) (cond (a0.2.2.1==0) (some ((r1.1.1,(r1.1.2.1,(r1.1.2.2.1,(true,())))),(1,()))) (cond (decide (a0.2.2.1 > 0)) (some ((r1.1.1,(r1.1.2.1,((aG (a0.2.2.1-1)),r1.1.2.2.2))),(0,()))) (some (r1.1,(0,())))))))
def f:=t k
end dI
namespace fN
abbrev Rs:Type:=Option ((List (Ty.d aD)) × Unit)
def t (k:Nat) (a0:List (Ty.d aD)) (a1:Int):Rs :=
 (pE a1 (a0.length:Int) (rm (Ty.bytes aD) (0+List.length (a0.take a1.toNat)) (pE (aG (a1+1)) (a0.length:Int) (rm (Ty.bytes aD) (List.length ([]++(a0.take a1.toNat))+List.length (a0.drop (aG (a1+1)).toNat)) (some ((([]++(a0.take a1.toNat))++(a0.drop (aG (a1+1)).toNat)),()))))))
def f:=t k
end fN
namespace fI
abbrev Rs:Type:=Option ((Ty.d aB) × Int × Unit)
def t (a0:Ty.d aB) (a1:ByteArray):Rs :=
 ((dI.f k a0).bind fun r1=>cond (r1.2.1 != 0) (some r1) ((bJ.f k a0 a1).bind fun r2=>cond (decide (r2.1<0)) (some (r1.1,(3,()))) ((fN.f k r1.1.1 r2.1).bind fun r3=>some ((r3.1,r1.1.2),(0,())))))
def f:=t k
end fI
namespace aT
abbrev Rs:Type:=Option (Int × Unit)
def t (k:Nat) (a0:Int):Rs :=
 (cond (a0==0) (some (0,())) (cond (a0==1) (some (1,())) (cond (a0==2) (some (2,())) (some (3,())))))
def f:=t k
end aT
namespace eY
abbrev Rs:Type:=Option ((Ty.d aB) × Int × Unit)
abbrev T1:Type:=Int→List (Ty.d aD)→Int→Int→Bool→List (Ty.d aD)→Int→Int→Bool→List ByteArray→Rs
abbrev T0:Type:=Int→List (Ty.d aD)→Int→Int→Bool→List (Ty.d aD)→Int→Int→Bool→List ByteArray→Rs
def b1 (L1:T1):T1:=fun x0 x1 x2 x3 x4 x5 x6 x7 x8 x9 =>
 (cond (decide (x0<(x9.length:Int))) (aw x0 (x9.length:Int) ((fI.f k (x1,(x2,(x3,(x4,())))) (x9.getD x0.toNat (Ty.z .str))).bind fun r4=>cond (r4.2.1 != 0) ((aT.f k r4.2.1).bind fun r5=>some (r4.1,r5)) (L1 (aG (x0+1)) r4.1.1 r4.1.2.1 r4.1.2.2.1 r4.1.2.2.2.1 x5 x6 x7 x8 x9))) (some ((x1,(x2,(x3,(x4,())))),(0,()))))
def l1:Nat→T1
 | 0=>fun _ _ _ _ _ _ _ _ _ _=>none
 | n+1=>b1 k (l1 n)
def b0 (L1:T1):T0:=fun x0 x1 x2 x3 x4 x5 x6 x7 x8 x9 =>
 (cond (decide (x0<(x9.length:Int))) (aw x0 (x9.length:Int) ((fI.f k (x1,(x2,(x3,(x4,())))) (x9.getD x0.toNat (Ty.z .str))).bind fun r2=>cond (r2.2.1 != 0) ((aT.f k r2.2.1).bind fun r3=>some (r2.1,r3)) (L1 (aG (x0+1)) r2.1.1 r2.1.2.1 r2.1.2.2.1 r2.1.2.2.2.1 x5 x6 x7 x8 x9))) (some ((x1,(x2,(x3,(x4,())))),(0,()))))
def l0:Nat→T0
 | 0=>fun _ _ _ _ _ _ _ _ _ _=>none
 | n+1=>b0 k (l1 k n)
def t (L0:T0) (a0:Ty.d aB) (a1:Ty.d bo):Rs :=
 ((bI.f k a0 a1).bind fun r1=>L0 0 a0.1 a0.2.1 a0.2.2.1 a0.2.2.2.1 [] 0 0 false r1.1)
def f:=t k (l0 k k)
end eY
namespace dR
abbrev Rs:Type:=Option ((List (Ty.d aD)) × Unit)
abbrev T0:Type:=List (Ty.d aD)→Bool→Int→ByteArray→ByteArray→Int→List (Ty.d aD)→Rs
def b0 (k:Nat) (L0:T0):T0:=fun x0 x1 x2 x3 x4 x5 x6 =>
 (cond (decide (x2<(x0.length:Int))) (cond (!x1) (aw x2 (x0.length:Int) (cond (!((oG (x0.getD x2.toNat (Ty.z aD)).1 x3)||(seq (x0.getD x2.toNat (Ty.z aD)).1 x3))) (rm (Ty.bytes aD) (x6.length+1) (aw x2 (x0.length:Int) (rm (Ty.bytes aD) (List.length (x6++[(x3,(x4,(x5,())))])+1) (L0 x0 true (aG (x2+1)) x3 x4 x5 ((x6++[(x3,(x4,(x5,())))])++[(x0.getD x2.toNat (Ty.z aD))]))))) (aw x2 (x0.length:Int) (rm (Ty.bytes aD) (x6.length+1) (L0 x0 x1 (aG (x2+1)) x3 x4 x5 (x6++[(x0.getD x2.toNat (Ty.z aD))])))))) (aw x2 (x0.length:Int) (rm (Ty.bytes aD) (x6.length+1) (L0 x0 x1 (aG (x2+1)) x3 x4 x5 (x6++[(x0.getD x2.toNat (Ty.z aD))]))))) (cond (!x1) (rm (Ty.bytes aD) (x6.length+1) (some ((x6++[(x3,(x4,(x5,())))]),()))) (some (x6,()))))
def l0:Nat→T0
 | 0=>fun _ _ _ _ _ _ _=>none
 | n+1=>b0 k (l0 n)
def t (k:Nat) (L0:T0) (a0:List (Ty.d aD)) (a1:Ty.d aD):Rs :=
 (L0 a0 false 0 a1.1 a1.2.1 a1.2.2.1 [])
def f:=t k (l0 k k)
end dR
namespace iH
abbrev Rs:Type:=Option ((Ty.d aB) × Int × Unit)
def t (a0:Ty.d aB) (a1:ByteArray):Rs :=
 ((dI.f k a0).bind fun r1=>cond (r1.2.1 != 0) (some r1) ((eF.f k a1).bind fun r2=>cond (!r2.1) (some (r1.1,(5,()))) ((bJ.f k a0 a1).bind fun r3=>cond (decide (r3.1≥0)) (some (r1.1,(4,()))) (cond (decide ((a0.1.length:Int)≥130)) (some (r1.1,(2,()))) ((dR.f k r1.1.1 (a1,(ByteArray.empty,(0,())))).bind fun r4=>some ((r4.1,r1.1.2),(0,())))))))
def f:=t k
end iH
namespace dU
abbrev Rs:Type:=Option (Bool × Unit)
abbrev T0:Type:=Int→Int→List Int→Rs
def b0 (L0:T0):T0:=fun x0 x1 x2 =>
 (cond (decide (x0<(x2.length:Int))) (aw x0 (x2.length:Int) ((aR.f k (x2.getD x0.toNat (Ty.z (.int .i64))) 1 (aG (x1-1))).bind fun r3=>cond (!r3.1) (some (false,())) (cond (decide (x0 > 0)) (aw x0 (x2.length:Int) (aw (aG (x0-1)) (x2.length:Int) (cond (decide ((x2.getD x0.toNat (Ty.z (.int .i64)))≤(x2.getD (aG (x0-1)).toNat (Ty.z (.int .i64))))) (some (false,())) (L0 (aG (x0+1)) x1 x2)))) (L0 (aG (x0+1)) x1 x2)))) (some (true,())))
def l0:Nat→T0
 | 0=>fun _ _ _=>none
 | n+1=>b0 k (l0 n)
def t (L0:T0) (a0:Ty.d bo):Rs :=
 ((aR.f k a0.1 1 100000).bind fun r1=>cond (!r1.1) (some (false,())) ((aR.f k (a0.2.1.length:Int) 1 60).bind fun r2=>cond (!r2.1) (some (false,())) (L0 0 a0.1 a0.2.1)))
def f:=t k (l0 k k)
end dU
namespace bf
abbrev Rs:Type:=Option (ByteArray × Unit)
abbrev T0:Type:=Int→List Int→Rs
def b0 (k:Nat) (L0:T0):T0:=fun x0 x1 =>
 (cond (decide (x0≥128)) (rm (Ty.bytes (.int .u8)) (x1.length+1) (L0 (aG (Int.tdiv x0 128)) (x1++[(IntKind.wrap .u8 (aG (128+(Int.tmod x0 128))))]))) (rm (Ty.bytes (.int .u8)) (x1.length+1) (some ((bytesOf (x1++[(IntKind.wrap .u8 x0)])),()))))
def l0:Nat→T0
 | 0=>fun _ _=>none
 | n+1=>b0 k (l0 n)
def t (L0:T0) (a0:Int):Rs :=
 ((aR.f k a0 0 562949953421311).bind fun r1=>cond (!r1.1) (some ((⟨#[]⟩:ByteArray),())) (L0 a0 []))
def f:=t k (l0 k k)
end bf
namespace gQ
abbrev Rs:Type:=Option (Int × Unit)
abbrev T1:Type:=ByteArray→Int→Int→Int→Rs
abbrev T0:Type:=ByteArray→Int→Int→Rs
def b1 (k:Nat) (L0:T0) (L1:T1):T1:=fun x0 x1 x2 x3 =>
 (cond (decide (x3<8)) (cond ((Int.tmod x1 2)==1) (L1 x0 (aG (((BitVec.ofInt (IntKind.bits .i64) (aG (Int.tdiv x1 2)) ^^^ BitVec.ofInt (IntKind.bits .i64) 2197175160).toNat:Int))) x2 (aG (x3+1))) (L1 x0 (aG (Int.tdiv x1 2)) x2 (aG (x3+1)))) (L0 x0 x1 (aG (x2+1))))
def l1 (L0:T0):Nat→T1
 | 0=>fun _ _ _ _=>none
 | n+1=>b1 k L0 (l1 L0 n)
def b0 (k:Nat) (L1:T1) (L0:T0):T0:=fun x0 x1 x2 =>
 (cond (decide (x2<(x0.size:Int))) (aw x2 (x0.size:Int) (L1 x0 (aG (((BitVec.ofInt (IntKind.bits .i64) x1 ^^^ BitVec.ofInt (IntKind.bits .i64) (aG (eI x0 x2))).toNat:Int))) x2 0)) (some ((aG (4294967295-x1)),())))
def l0:Nat→T0
 | 0=>fun _ _ _=>none
 | n+1=>b0 k (l1 k (l0 n) k) (l0 n)
def t (k:Nat) (L0:T0) (a0:ByteArray):Rs :=
 (L0 a0 4294967295 0)
def f:=t k (l0 k k)
end gQ
namespace di
abbrev Rs:Type:=Option (ByteArray × Unit)
abbrev T0:Type:=Int→Int→ByteArray→Int→Rs
def b0 (k:Nat) (L0:T0):T0:=fun x0 x1 x2 x3 =>
 (cond (decide (x3<x1)) (ln (bytesOf [(IntKind.wrap .u8 (Int.tmod x0 256))]) x2 (L0 (aG (Int.tdiv x0 256)) x1 ((bytesOf [(IntKind.wrap .u8 (Int.tmod x0 256))])++x2) (aG (x3+1)))) (cond (decide (x0 > 0)) (some ((⟨#[]⟩:ByteArray),())) (some (x2,()))))
def l0:Nat→T0
 | 0=>fun _ _ _ _=>none
 | n+1=>b0 k (l0 n)
def t (L0:T0) (a0:Int) (a1:Int):Rs :=
 ((aR.f k a1 1 7).bind fun r1=>cond (!r1.1) (some ((⟨#[]⟩:ByteArray),())) (cond (decide (a0<0)) (some ((⟨#[]⟩:ByteArray),())) (L0 a0 a1 (⟨#[]⟩:ByteArray) 0)))
def f:=t k (l0 k k)
end di
namespace fb
abbrev Rs:Type:=Option (ByteArray × Unit)
def t (a0:ByteArray):Rs :=
 (cond (decide ((a0.size:Int) > 200)) (some ((⟨#[]⟩:ByteArray),())) ((bf.f k (a0.size:Int)).bind fun r1=>ln r1.1 a0 ((gQ.f k (r1.1++a0)).bind fun r2=>(di.f k r2.1 4).bind fun r3=>ln r3.1 (r1.1++a0) (some ((r3.1++(r1.1++a0)),())))))
def f:=t k
end fb
namespace dP
abbrev Rs:Type:=Option (ByteArray × Unit)
abbrev T0:Type:=ByteArray→Int→Int→List Int→Rs
def b0 (L0:T0):T0:=fun x0 x1 x2 x3 =>
 (cond (decide (x1<(x3.length:Int))) (aw x1 (x3.length:Int) ((bf.f k (x3.getD x1.toNat (Ty.z (.int .i64)))).bind fun r4=>ln x0 r4.1 (L0 (x0++r4.1) (aG (x1+1)) x2 x3))) ((fb.f k x0).bind fun r5=>some r5))
def l0:Nat→T0
 | 0=>fun _ _ _ _=>none
 | n+1=>b0 k (l0 n)
def t (L0:T0) (a0:Ty.d bo):Rs :=
 ((dU.f k a0).bind fun r1=>cond (!r1.1) (some ((⟨#[]⟩:ByteArray),())) ((bf.f k a0.1).bind fun r2=>(bf.f k (a0.2.1.length:Int)).bind fun r3=>ln r2.1 r3.1 (L0 (r2.1++r3.1) 0 a0.1 a0.2.1)))
def f:=t k (l0 k k)
end dP
namespace e7
abbrev Rs:Type:=Option ((Ty.d aB) × Int × Unit)
def t (a0:Ty.d aB) (a1:ByteArray):Rs :=
 ((bJ.f k a0 a1).bind fun r1=>cond (decide (r1.1≥0)) ((fI.f k a0 a1).bind fun r2=>cond (r2.2.1 != 0) (some r2) ((iH.f k r2.1 a1).bind fun r3=>some r3)) ((iH.f k a0 a1).bind fun r4=>some r4))
def f:=t k
end e7
namespace e9
abbrev Rs:Type:=Option ((Ty.d aB) × Int × Unit)
def t (a0:Ty.d aB) (a1:ByteArray) (a2:ByteArray):Rs :=
 ((dI.f k a0).bind fun r1=>cond (r1.2.1 != 0) (some r1) ((bJ.f k a0 a1).bind fun r2=>cond (decide (r2.1<0)) (some (r1.1,(3,()))) ((e_.f k a0).bind fun r3=>cond (decide ((a2.size:Int) > (aG (a0.2.1-r3.1)))) (some (r1.1,(2,()))) (aw r2.1 (a0.1.length:Int) (ln (a0.1.getD r2.1.toNat (Ty.z aD)).2.1 a2 (aw r2.1 (r1.1.1.length:Int) (let l4:=(r1.1.1.set r2.1.toNat ((r1.1.1.getD r2.1.toNat (Ty.z aD)).1,(((a0.1.getD r2.1.toNat (Ty.z aD)).2.1++a2),(r1.1.1.getD r2.1.toNat (Ty.z aD)).2.2)));(some ((l4,r1.1.2),(0,()))))))))))
def f:=t k
end e9
namespace eW
abbrev Rs:Type:=Option ((Ty.d aB) × Int × Unit)
def t (a0:Ty.d aB) (a1:ByteArray):Rs :=
 ((dI.f k a0).bind fun r1=>cond (r1.2.1 != 0) (some r1) ((bJ.f k a0 a1).bind fun r2=>cond (decide (r2.1<0)) (some (r1.1,(3,()))) (aw r2.1 (a0.1.length:Int) (aw r2.1 (r1.1.1.length:Int) (let l3:=(r1.1.1.set r2.1.toNat ((r1.1.1.getD r2.1.toNat (Ty.z aD)).1,((r1.1.1.getD r2.1.toNat (Ty.z aD)).2.1,((ByteArray.size (a0.1.getD r2.1.toNat (Ty.z aD)).2.1:Int),(r1.1.1.getD r2.1.toNat (Ty.z aD)).2.2.2))));(some ((l3,r1.1.2),(0,()))))))))
def f:=t k
end eW
namespace hO
abbrev Rs:Type:=Option ((Ty.d aB) × Int × Unit)
def t (a0:Ty.d aB) (a1:ByteArray) (a2:ByteArray):Rs :=
 ((e7.f k a0 a1).bind fun r1=>cond (r1.2.1==0) ((e9.f k r1.1 a1 a2).bind fun r2=>cond (r2.2.1==0) ((eW.f k r2.1 a1).bind fun r3=>some r3) (some r2)) (cond (r1.2.1==0) ((eW.f k r1.1 a1).bind fun r4=>some r4) (some r1)))
def f:=t k
end hO
namespace kF
abbrev Rs:Type:=Option ((Ty.d aB) × Int × Unit)
def t (a0:Ty.d aB) (a1:ByteArray) (a2:ByteArray):Rs :=
 ((dI.f k a0).bind fun r1=>cond (r1.2.1 != 0) (some r1) ((eF.f k a2).bind fun r2=>cond (!r2.1) (some (r1.1,(5,()))) ((bJ.f k a0 a1).bind fun r3=>cond (decide (r3.1<0)) (some (r1.1,(3,()))) (cond (seq a1 a2) (some (r1.1,(0,()))) (aw r3.1 (a0.1.length:Int) ((fN.f k r1.1.1 r3.1).bind fun r4=>(bJ.f k (r4.1,r1.1.2) a2).bind fun r5=>cond (decide (r5.1≥0)) ((fN.f k r4.1 r5.1).bind fun r6=>(dR.f k r6.1 (a2,(a0.1.getD r3.1.toNat (Ty.z aD)).2)).bind fun r7=>some ((r7.1,r1.1.2),(0,()))) ((dR.f k r4.1 (a2,(a0.1.getD r3.1.toNat (Ty.z aD)).2)).bind fun r8=>some ((r8.1,r1.1.2),(0,())))))))))
def f:=t k
end kF
namespace eu
abbrev Rs:Type:=Option ((Ty.d aB) × Int × Unit)
def t (a0:Ty.d aB) (a1:Ty.d bo):Rs :=
 ((bM.f k a0).bind fun r1=>cond (!r1.1) ((cK.f k a0).bind fun r2=>some (r2.1,(4,()))) ((dU.f k a1).bind fun r3=>cond (!r3.1) ((cK.f k a0).bind fun r4=>some (r4.1,(4,()))) ((dP.f k a1).bind fun r5=>(hO.f k a0 (⟨#[116,101,109,112]⟩:ByteArray) r5.1).bind fun r6=>cond (r6.2.1==0) ((kF.f k r6.1 (⟨#[116,101,109,112]⟩:ByteArray) (⟨#[108,105,118,101]⟩:ByteArray)).bind fun r7=>(aT.f k r7.2.1).bind fun r8=>some (r7.1,r8)) ((aT.f k r6.2.1).bind fun r9=>some (r6.1,r9)))))
def f:=t k
end eu
namespace ic
abbrev Rs:Type:=Option ((Ty.d aF) × (Ty.d aB) × Int × Unit)
def t (a0:Ty.d aB):Rs :=
 ((eY.f k a0 (0,([],()))).bind fun r1=>cond (r1.2.1 != 0) (some (((0,([],())),([],(0,(0,(0,()))))),r1)) ((aW.f k 1).bind fun r2=>(iH.f k r1.1 r2.1).bind fun r3=>cond (r3.2.1 != 0) ((aT.f k r3.2.1).bind fun r4=>some (((0,([],())),([],(0,(0,(0,()))))),(r3.1,r4))) ((eu.f k r3.1 (2,([1],()))).bind fun r5=>cond (r5.2.1 != 0) (some (((0,([],())),([],(0,(0,(0,()))))),r5)) (some (((2,([1],())),([],(1,(0,(0,()))))),(r5.1,(0,())))))))
def f:=t k
end ic
namespace aj
abbrev Rs:Type:=Option (Int × Int × Unit)
abbrev T1:Type:=ByteArray→Int→Int→Int→Rs
abbrev T0:Type:=ByteArray→Int→Rs
def b1 (L0:T0) (L1:T1):T1:=fun x0 x1 x2 x3 =>
 (cond (decide (x3≥0)) (aw x3 (x0.size:Int) (L1 x0 x1 (aG ((aG (x2*128))+(Int.tmod (aG (eI x0 x3)) 128))) (aG (x3-1)))) ((bf.f k x2).bind fun r1=>pE x1 (x0.size:Int) (cond (seq r1.1 (x0.extract 0 x1.toNat)) (some (x2,(x1,()))) (L0 x0 (aG (x1+1))))))
def l1 (L0:T0):Nat→T1
 | 0=>fun _ _ _ _=>none
 | n+1=>b1 k L0 (l1 L0 n)
def b0 (k:Nat) (L1:T1) (L0:T0):T0:=fun x0 x1 =>
 (cond (decide (x1≤7)) (cond (decide (x1≤(x0.size:Int))) (L1 x0 x1 0 (aG (x1-1))) (some (0,(0,())))) (some (0,(0,()))))
def l0:Nat→T0
 | 0=>fun _ _=>none
 | n+1=>b0 k (l1 k (l0 n) k) (l0 n)
def t (k:Nat) (L0:T0) (a0:ByteArray):Rs :=
 (L0 a0 1)
def f:=t k (l0 k k)
end aj
namespace dj
abbrev Rs:Type:=Option (ByteArray × Int × Unit)
def t (a0:ByteArray):Rs :=
 (cond (decide ((a0.size:Int)<5)) (some ((⟨#[]⟩:ByteArray),(0,()))) (pE 4 (a0.size:Int) ((aj.f k (a0.extract 4 (a0.size))).bind fun r1=>cond (r1.2.1==0) (some ((⟨#[]⟩:ByteArray),(0,()))) (cond (decide (r1.1 > 200)) (some ((⟨#[]⟩:ByteArray),(0,()))) (cond (decide (r1.1 > (aG ((aG ((a0.size:Int)-4))-r1.2.1)))) (some ((⟨#[]⟩:ByteArray),(0,()))) (G9 (aG (4+r1.2.1)) (aG ((aG (4+r1.2.1))+r1.1)) (a0.size:Int) (pE (aG ((aG (4+r1.2.1))+r1.1)) (a0.size:Int) ((fb.f k (a0.extract (aG (4+r1.2.1)).toNat (aG ((aG (4+r1.2.1))+r1.1)).toNat)).bind fun r2=>cond (!(seq (a0.extract 0 (aG ((aG (4+r1.2.1))+r1.1)).toNat) r2.1)) (some ((⟨#[]⟩:ByteArray),(0,()))) (some ((a0.extract (aG (4+r1.2.1)).toNat (aG ((aG (4+r1.2.1))+r1.1)).toNat),((aG ((aG (4+r1.2.1))+r1.1)),())))))))))))
def f:=t k
end dj
namespace bT
abbrev Rs:Type:=Option ((Ty.d bo) × Bool × Unit)
abbrev T0:Type:=ByteArray→ByteArray→Int→Int→Int→List Int→Int→List Int→Int→Rs
def b0 (L0:T0):T0:=fun x0 x1 x2 x3 x4 x5 x6 x7 x8 =>
 (cond (decide (x4<x2)) (cond (decide (x4<60)) (pE x3 (x1.size:Int) ((aj.f k (x1.extract x3.toNat (x1.size))).bind fun r4=>rm (Ty.bytes (.int .i64)) (x7.length+1) (L0 x0 x1 x2 (aG (x3+r4.2.1)) (aG (x4+1)) x5 x6 (x7++[r4.1]) x8))) ((dP.f k (x8,(x7,()))).bind fun r5=>cond (!(seq r5.1 x0)) (some ((0,([],())),(false,()))) (some ((x8,(x7,())),(true,()))))) ((dP.f k (x8,(x7,()))).bind fun r6=>cond (!(seq r6.1 x0)) (some ((0,([],())),(false,()))) (some ((x8,(x7,())),(true,())))))
def l0:Nat→T0
 | 0=>fun _ _ _ _ _ _ _ _ _=>none
 | n+1=>b0 k (l0 n)
def t (L0:T0) (a0:ByteArray):Rs :=
 ((dj.f k a0).bind fun r1=>(aj.f k r1.1).bind fun r2=>cond (r1.2.1 != (a0.size:Int)) (some ((0,([],())),(false,()))) (cond (r1.2.1==0) (some ((0,([],())),(false,()))) (cond (r2.2.1==0) (some ((0,([],())),(false,()))) (pE r2.2.1 (r1.1.size:Int) ((aj.f k (r1.1.extract r2.2.1.toNat (r1.1.size))).bind fun r3=>L0 a0 r1.1 r3.1 (aG (r2.2.1+r3.2.1)) 0 [] 0 [] r2.1)))))
def f:=t k (l0 k k)
end bT
namespace ck
abbrev Rs:Type:=Option (ByteArray × ByteArray × Bool × Unit)
def t (a0:ByteArray):Rs :=
 ((aj.f k a0).bind fun r1=>cond (r1.2.1==0) (some ((⟨#[]⟩:ByteArray),((⟨#[]⟩:ByteArray),(false,())))) (cond (decide (r1.1 > (aG ((a0.size:Int)-r1.2.1)))) (some ((⟨#[]⟩:ByteArray),((⟨#[]⟩:ByteArray),(false,())))) (G9 r1.2.1 (aG (r1.2.1+r1.1)) (a0.size:Int) (pE (aG (r1.2.1+r1.1)) (a0.size:Int) (some ((a0.extract r1.2.1.toNat (aG (r1.2.1+r1.1)).toNat),((a0.extract (aG (r1.2.1+r1.1)).toNat (a0.size)),(true,()))))))))
def f:=t k
end ck
namespace cj
abbrev Rs:Type:=Option (Bool × Unit)
def t (a0:ByteArray):Rs :=
 ((aR.f k (a0.size:Int) 1 8).bind fun r1=>some r1)
def f:=t k
end cj
namespace lJ
abbrev Rs:Type:=Option (Bool × Unit)
def t (a0:Ty.d bA):Rs :=
 ((aR.f k a0.2.1 0 1000000).bind fun r1=>cond (!r1.1) (some (false,())) (cond (a0.2.1==0) (cond (a0.1 != 5) (some (false,())) (cond (a0.1==1) (cond (a0.1==1) ((cj.f k a0.2.2.1).bind fun r2=>cond r2.1 (cond (decide ((a0.2.2.2.1.size:Int)≤24)) (cond (a0.2.2.2.2.1==0) (some ((a0.2.2.2.2.2.1==0),())) (some (false,()))) (some (false,()))) (some (false,()))) (cond (a0.1==2) ((cj.f k a0.2.2.1).bind fun r3=>cond r3.1 (cond (seq a0.2.2.2.1 (⟨#[]⟩:ByteArray)) (cond (a0.2.2.2.2.1==0) (some ((a0.2.2.2.2.2.1==0),())) (some (false,()))) (some (false,()))) (some (false,()))) (cond (a0.1==3) (cond (seq a0.2.2.1 (⟨#[]⟩:ByteArray)) (cond (seq a0.2.2.2.1 (⟨#[]⟩:ByteArray)) ((aR.f k a0.2.2.2.2.1 0 8).bind fun r4=>cond r4.1 ((aR.f k a0.2.2.2.2.2.1 0 4294967295).bind fun r5=>some r5) (some (false,()))) (some (false,()))) (some (false,()))) (cond (a0.1==5) (cond (seq a0.2.2.1 (⟨#[]⟩:ByteArray)) (cond (seq a0.2.2.2.1 (⟨#[]⟩:ByteArray)) ((aR.f k a0.2.2.2.2.1 0 20).bind fun r6=>cond r6.1 ((aR.f k a0.2.2.2.2.2.1 0 4294967295).bind fun r7=>some r7) (some (false,()))) (some (false,()))) (some (false,()))) (some (false,())))))) (cond (a0.1==4) ((cj.f k a0.2.2.1).bind fun r8=>cond r8.1 (cond (decide ((a0.2.2.2.1.size:Int)≤24)) (cond (a0.2.2.2.2.1==0) (some ((a0.2.2.2.2.2.1==0),())) (some (false,()))) (some (false,()))) (some (false,()))) (cond (a0.1==2) ((cj.f k a0.2.2.1).bind fun r9=>cond r9.1 (cond (seq a0.2.2.2.1 (⟨#[]⟩:ByteArray)) (cond (a0.2.2.2.2.1==0) (some ((a0.2.2.2.2.2.1==0),())) (some (false,()))) (some (false,()))) (some (false,()))) (cond (a0.1==3) (cond (seq a0.2.2.1 (⟨#[]⟩:ByteArray)) (cond (seq a0.2.2.2.1 (⟨#[]⟩:ByteArray)) ((aR.f k a0.2.2.2.2.1 0 8).bind fun r10=>cond r10.1 ((aR.f k a0.2.2.2.2.2.1 0 4294967295).bind fun r11=>some r11) (some (false,()))) (some (false,()))) (some (false,()))) (cond (a0.1==5) (cond (seq a0.2.2.1 (⟨#[]⟩:ByteArray)) (cond (seq a0.2.2.2.1 (⟨#[]⟩:ByteArray)) ((aR.f k a0.2.2.2.2.1 0 20).bind fun r12=>cond r12.1 ((aR.f k a0.2.2.2.2.2.1 0 4294967295).bind fun r13=>some r13) (some (false,()))) (some (false,()))) (some (false,()))) (some (false,())))))))) (cond (a0.1==1) (cond (a0.1==1) ((cj.f k a0.2.2.1).bind fun r14=>cond r14.1 (cond (decide ((a0.2.2.2.1.size:Int)≤24)) (cond (a0.2.2.2.2.1==0) (some ((a0.2.2.2.2.2.1==0),())) (some (false,()))) (some (false,()))) (some (false,()))) (cond (a0.1==2) ((cj.f k a0.2.2.1).bind fun r15=>cond r15.1 (cond (seq a0.2.2.2.1 (⟨#[]⟩:ByteArray)) (cond (a0.2.2.2.2.1==0) (some ((a0.2.2.2.2.2.1==0),())) (some (false,()))) (some (false,()))) (some (false,()))) (cond (a0.1==3) (cond (seq a0.2.2.1 (⟨#[]⟩:ByteArray)) (cond (seq a0.2.2.2.1 (⟨#[]⟩:ByteArray)) ((aR.f k a0.2.2.2.2.1 0 8).bind fun r16=>cond r16.1 ((aR.f k a0.2.2.2.2.2.1 0 4294967295).bind fun r17=>some r17) (some (false,()))) (some (false,()))) (some (false,()))) (cond (a0.1==5) (cond (seq a0.2.2.1 (⟨#[]⟩:ByteArray)) (cond (seq a0.2.2.2.1 (⟨#[]⟩:ByteArray)) ((aR.f k a0.2.2.2.2.1 0 20).bind fun r18=>cond r18.1 ((aR.f k a0.2.2.2.2.2.1 0 4294967295).bind fun r19=>some r19) (some (false,()))) (some (false,()))) (some (false,()))) (some (false,())))))) (cond (a0.1==4) ((cj.f k a0.2.2.1).bind fun r20=>cond r20.1 (cond (decide ((a0.2.2.2.1.size:Int)≤24)) (cond (a0.2.2.2.2.1==0) (some ((a0.2.2.2.2.2.1==0),())) (some (false,()))) (some (false,()))) (some (false,()))) (cond (a0.1==2) ((cj.f k a0.2.2.1).bind fun r21=>cond r21.1 (cond (seq a0.2.2.2.1 (⟨#[]⟩:ByteArray)) (cond (a0.2.2.2.2.1==0) (some ((a0.2.2.2.2.2.1==0),())) (some (false,()))) (some (false,()))) (some (false,()))) (cond (a0.1==3) (cond (seq a0.2.2.1 (⟨#[]⟩:ByteArray)) (cond (seq a0.2.2.2.1 (⟨#[]⟩:ByteArray)) ((aR.f k a0.2.2.2.2.1 0 8).bind fun r22=>cond r22.1 ((aR.f k a0.2.2.2.2.2.1 0 4294967295).bind fun r23=>some r23) (some (false,()))) (some (false,()))) (some (false,()))) (cond (a0.1==5) (cond (seq a0.2.2.1 (⟨#[]⟩:ByteArray)) (cond (seq a0.2.2.2.1 (⟨#[]⟩:ByteArray)) ((aR.f k a0.2.2.2.2.1 0 20).bind fun r24=>cond r24.1 ((aR.f k a0.2.2.2.2.2.1 0 4294967295).bind fun r25=>some r25) (some (false,()))) (some (false,()))) (some (false,()))) (some (false,())))))))))
def f:=t k
end lJ
namespace cS
abbrev Rs:Type:=Option (ByteArray × Unit)
def t (a0:Ty.d bA):Rs :=
 ((lJ.f k a0).bind fun r1=>cond (!r1.1) (some ((⟨#[]⟩:ByteArray),())) ((bf.f k a0.1).bind fun r2=>(bf.f k a0.2.1).bind fun r3=>ln r2.1 r3.1 (cond (a0.1==1) (cond (a0.1==1) ((bf.f k (a0.2.2.1.size:Int)).bind fun r4=>ln (r2.1++r3.1) r4.1 (ln ((r2.1++r3.1)++r4.1) a0.2.2.1 ((bf.f k (a0.2.2.2.1.size:Int)).bind fun r5=>ln (((r2.1++r3.1)++r4.1)++a0.2.2.1) r5.1 (ln ((((r2.1++r3.1)++r4.1)++a0.2.2.1)++r5.1) a0.2.2.2.1 (some ((((((r2.1++r3.1)++r4.1)++a0.2.2.1)++r5.1)++a0.2.2.2.1),())))))) (cond (a0.1==2) ((bf.f k (a0.2.2.1.size:Int)).bind fun r6=>ln (r2.1++r3.1) r6.1 (ln ((r2.1++r3.1)++r6.1) a0.2.2.1 (some ((((r2.1++r3.1)++r6.1)++a0.2.2.1),())))) ((bf.f k a0.2.2.2.2.1).bind fun r7=>ln (r2.1++r3.1) r7.1 ((di.f k a0.2.2.2.2.2.1 4).bind fun r8=>ln ((r2.1++r3.1)++r7.1) r8.1 (some ((((r2.1++r3.1)++r7.1)++r8.1),())))))) (cond (a0.1==4) ((bf.f k (a0.2.2.1.size:Int)).bind fun r9=>ln (r2.1++r3.1) r9.1 (ln ((r2.1++r3.1)++r9.1) a0.2.2.1 ((bf.f k (a0.2.2.2.1.size:Int)).bind fun r10=>ln (((r2.1++r3.1)++r9.1)++a0.2.2.1) r10.1 (ln ((((r2.1++r3.1)++r9.1)++a0.2.2.1)++r10.1) a0.2.2.2.1 (some ((((((r2.1++r3.1)++r9.1)++a0.2.2.1)++r10.1)++a0.2.2.2.1),())))))) (cond (a0.1==2) ((bf.f k (a0.2.2.1.size:Int)).bind fun r11=>ln (r2.1++r3.1) r11.1 (ln ((r2.1++r3.1)++r11.1) a0.2.2.1 (some ((((r2.1++r3.1)++r11.1)++a0.2.2.1),())))) ((bf.f k a0.2.2.2.2.1).bind fun r12=>ln (r2.1++r3.1) r12.1 ((di.f k a0.2.2.2.2.2.1 4).bind fun r13=>ln ((r2.1++r3.1)++r12.1) r13.1 (some ((((r2.1++r3.1)++r12.1)++r13.1),())))))))))
def f:=t k
end cS
namespace bg
abbrev Rs:Type:=Option (Int × Bool × Unit)
abbrev T0:Type:=ByteArray→Int→Int→Int→Rs
def b0 (k:Nat) (L0:T0):T0:=fun x0 x1 x2 x3 =>
 (cond (decide (x3<x1)) (aw x3 (x0.size:Int) (L0 x0 x1 (aG ((aG (x2*256))+(aG (eI x0 x3)))) (aG (x3+1)))) (some (x2,(true,()))))
def l0:Nat→T0
 | 0=>fun _ _ _ _=>none
 | n+1=>b0 k (l0 n)
def t (L0:T0) (a0:ByteArray) (a1:Int):Rs :=
 ((aR.f k a1 1 7).bind fun r1=>cond (!r1.1) (some (0,(false,()))) (cond (decide ((a0.size:Int)<a1)) (some (0,(false,()))) (L0 a0 a1 0 0)))
def f:=t k (l0 k k)
end bg
namespace eH
abbrev Rs:Type:=Option ((Ty.d bA) × Bool × Unit)
def t (a0:ByteArray):Rs :=
 ((aj.f k a0).bind fun r1=>pE r1.2.1 (a0.size:Int) ((aj.f k (a0.extract r1.2.1.toNat (a0.size))).bind fun r2=>cond (r1.2.1==0) (some ((0,(0,(ByteArray.empty,(ByteArray.empty,(0,(0,())))))),(false,()))) (cond (r2.2.1==0) (some ((0,(0,(ByteArray.empty,(ByteArray.empty,(0,(0,())))))),(false,()))) (pE (aG (r1.2.1+r2.2.1)) (a0.size:Int) (cond (r1.1==1) (cond (r1.1==1) ((ck.f k (a0.extract (aG (r1.2.1+r2.2.1)).toNat (a0.size))).bind fun r3=>(ck.f k r3.2.1).bind fun r4=>(cS.f k (r1.1,(r2.1,(r3.1,(r4.1,(0,(0,()))))))).bind fun r5=>cond (!(seq r5.1 a0)) (some ((0,(0,(ByteArray.empty,(ByteArray.empty,(0,(0,())))))),(false,()))) (cond (seq a0 (⟨#[]⟩:ByteArray)) (some ((0,(0,(ByteArray.empty,(ByteArray.empty,(0,(0,())))))),(false,()))) (some ((r1.1,(r2.1,(r3.1,(r4.1,(0,(0,())))))),(true,()))))) (cond (r1.1==2) ((ck.f k (a0.extract (aG (r1.2.1+r2.2.1)).toNat (a0.size))).bind fun r6=>(cS.f k (r1.1,(r2.1,(r6.1,(ByteArray.empty,(0,(0,()))))))).bind fun r7=>cond (!(seq r7.1 a0)) (some ((0,(0,(ByteArray.empty,(ByteArray.empty,(0,(0,())))))),(false,()))) (cond (seq a0 (⟨#[]⟩:ByteArray)) (some ((0,(0,(ByteArray.empty,(ByteArray.empty,(0,(0,())))))),(false,()))) (some ((r1.1,(r2.1,(r6.1,(ByteArray.empty,(0,(0,())))))),(true,()))))) ((aj.f k (a0.extract (aG (r1.2.1+r2.2.1)).toNat (a0.size))).bind fun r8=>pE r8.2.1 ((a0.extract (aG (r1.2.1+r2.2.1)).toNat (a0.size)).size:Int) ((bg.f k ((a0.extract (aG (r1.2.1+r2.2.1)).toNat (a0.size)).extract r8.2.1.toNat ((a0.extract (aG (r1.2.1+r2.2.1)).toNat (a0.size)).size)) 4).bind fun r9=>(cS.f k (r1.1,(r2.1,(ByteArray.empty,(ByteArray.empty,(r8.1,(r9.1,()))))))).bind fun r10=>cond (!(seq r10.1 a0)) (some ((0,(0,(ByteArray.empty,(ByteArray.empty,(0,(0,())))))),(false,()))) (cond (seq a0 (⟨#[]⟩:ByteArray)) (some ((0,(0,(ByteArray.empty,(ByteArray.empty,(0,(0,())))))),(false,()))) (some ((r1.1,(r2.1,(ByteArray.empty,(ByteArray.empty,(r8.1,(r9.1,())))))),(true,())))))))) (cond (r1.1==4) ((ck.f k (a0.extract (aG (r1.2.1+r2.2.1)).toNat (a0.size))).bind fun r11=>(ck.f k r11.2.1).bind fun r12=>(cS.f k (r1.1,(r2.1,(r11.1,(r12.1,(0,(0,()))))))).bind fun r13=>cond (!(seq r13.1 a0)) (some ((0,(0,(ByteArray.empty,(ByteArray.empty,(0,(0,())))))),(false,()))) (cond (seq a0 (⟨#[]⟩:ByteArray)) (some ((0,(0,(ByteArray.empty,(ByteArray.empty,(0,(0,())))))),(false,()))) (some ((r1.1,(r2.1,(r11.1,(r12.1,(0,(0,())))))),(true,()))))) (cond (r1.1==2) ((ck.f k (a0.extract (aG (r1.2.1+r2.2.1)).toNat (a0.size))).bind fun r14=>(cS.f k (r1.1,(r2.1,(r14.1,(ByteArray.empty,(0,(0,()))))))).bind fun r15=>cond (!(seq r15.1 a0)) (some ((0,(0,(ByteArray.empty,(ByteArray.empty,(0,(0,())))))),(false,()))) (cond (seq a0 (⟨#[]⟩:ByteArray)) (some ((0,(0,(ByteArray.empty,(ByteArray.empty,(0,(0,())))))),(false,()))) (some ((r1.1,(r2.1,(r14.1,(ByteArray.empty,(0,(0,())))))),(true,()))))) ((aj.f k (a0.extract (aG (r1.2.1+r2.2.1)).toNat (a0.size))).bind fun r16=>pE r16.2.1 ((a0.extract (aG (r1.2.1+r2.2.1)).toNat (a0.size)).size:Int) ((bg.f k ((a0.extract (aG (r1.2.1+r2.2.1)).toNat (a0.size)).extract r16.2.1.toNat ((a0.extract (aG (r1.2.1+r2.2.1)).toNat (a0.size)).size)) 4).bind fun r17=>(cS.f k (r1.1,(r2.1,(ByteArray.empty,(ByteArray.empty,(r16.1,(r17.1,()))))))).bind fun r18=>cond (!(seq r18.1 a0)) (some ((0,(0,(ByteArray.empty,(ByteArray.empty,(0,(0,())))))),(false,()))) (cond (seq a0 (⟨#[]⟩:ByteArray)) (some ((0,(0,(ByteArray.empty,(ByteArray.empty,(0,(0,())))))),(false,()))) (some ((r1.1,(r2.1,(ByteArray.empty,(ByteArray.empty,(r16.1,(r17.1,())))))),(true,())))))))))))))
def f:=t k
end eH
namespace ba
abbrev Rs:Type:=Option ((List (Ty.d bK)) × Int × Unit)
abbrev T0:Type:=ByteArray→Int→List (Ty.d bK)→Rs
def b0 (L0:T0):T0:=fun x0 x1 x2 =>
 (cond (decide (x1<(x0.size:Int))) (pE x1 (x0.size:Int) ((dj.f k (x0.extract x1.toNat (x0.size))).bind fun r1=>(eH.f k r1.1).bind fun r2=>cond (r1.2.1==0) (some (x2,(x1,()))) (cond (!r2.2.1) (some (x2,(x1,()))) (rm (Ty.bytes bK) (x2.length+1) (L0 x0 (aG (x1+r1.2.1)) (x2++[(x1,(r1.2.1,(r2.1,())))])))))) (some (x2,(x1,()))))
def l0:Nat→T0
 | 0=>fun _ _ _=>none
 | n+1=>b0 k (l0 n)
def t (k:Nat) (L0:T0) (a0:ByteArray):Rs :=
 (L0 a0 0 [])
def f:=t k (l0 k k)
end ba
namespace ij
abbrev Rs:Type:=Option ((Ty.d aB) × Int × Unit)
def t (a0:Ty.d aB) (a1:ByteArray) (a2:Int):Rs :=
 ((dI.f k a0).bind fun r1=>cond (r1.2.1 != 0) (some r1) ((bJ.f k a0 a1).bind fun r2=>cond (decide (r2.1<0)) (some (r1.1,(3,()))) (aw r2.1 (a0.1.length:Int) ((aR.f k a2 0 (ByteArray.size (a0.1.getD r2.1.toNat (Ty.z aD)).2.1:Int)).bind fun r3=>cond (!r3.1) (some (r1.1,(5,()))) (aw r2.1 (a0.1.length:Int) (pE a2 (ByteArray.size (a0.1.getD r2.1.toNat (Ty.z aD)).2.1:Int) (aw r2.1 (r1.1.1.length:Int) (let l4:=(r1.1.1.set r2.1.toNat ((r1.1.1.getD r2.1.toNat (Ty.z aD)).1,((ByteArray.extract (a0.1.getD r2.1.toNat (Ty.z aD)).2.1 0 a2.toNat),(r1.1.1.getD r2.1.toNat (Ty.z aD)).2.2)));(aw r2.1 (a0.1.length:Int) (aw r2.1 (l4.length:Int) (let l5:=(l4.set r2.1.toNat ((l4.getD r2.1.toNat (Ty.z aD)).1,((l4.getD r2.1.toNat (Ty.z aD)).2.1,((if a2<(a0.1.getD r2.1.toNat (Ty.z aD)).2.2.1 then a2 else (a0.1.getD r2.1.toNat (Ty.z aD)).2.2.1),(l4.getD r2.1.toNat (Ty.z aD)).2.2.2))));(some ((l5,r1.1.2),(0,()))))))))))))))
def f:=t k
end ij
namespace bj
abbrev Rs:Type:=Option ((List Int) × Int × Unit)
abbrev T0:Type:=ByteArray→Int→Int→Int→List Int→Rs
def b0 (L0:T0):T0:=fun x0 x1 x2 x3 x4 =>
 (cond (decide (x3<x2)) (pE x1 (x0.size:Int) ((aj.f k (x0.extract x1.toNat (x0.size))).bind fun r1=>cond (r1.2.1==0) (vJ (Ty.bytes (.int .i64)) x2 (some ((List.replicate x2.toNat (Ty.z (.int .i64))),((-1),())))) (rm (Ty.bytes (.int .i64)) (x4.length+1) (L0 x0 (aG (x1+r1.2.1)) x2 (aG (x3+1)) (x4++[r1.1]))))) (some (x4,(x1,()))))
def l0:Nat→T0
 | 0=>fun _ _ _ _ _=>none
 | n+1=>b0 k (l0 n)
def t (k:Nat) (L0:T0) (a0:ByteArray) (a1:Int) (a2:Int):Rs :=
 (L0 a0 a1 a2 0 [])
def f:=t k (l0 k k)
end bj
namespace fE
abbrev Rs:Type:=Option (Bool × Unit)
abbrev T0:Type:=List (Ty.d a_)→Int→Rs
def b0 (L0:T0):T0:=fun x0 x1 =>
 (cond (decide (x1<(x0.length:Int))) (aw x1 (x0.length:Int) ((cj.f k (x0.getD x1.toNat (Ty.z a_)).1).bind fun r1=>cond (!r1.1) (some (false,())) ((aR.f k (x0.getD x1.toNat (Ty.z a_)).2.1 1 100000).bind fun r2=>cond (!r2.1) (some (false,())) (cond (decide ((x0.getD x1.toNat (Ty.z a_)).2.2.1<0)) (some (false,())) ((aR.f k (x0.getD x1.toNat (Ty.z a_)).2.2.2.1 1 210).bind fun r3=>cond (!r3.1) (some (false,())) ((aR.f k (x0.getD x1.toNat (Ty.z a_)).2.2.2.2.1 1 1000000).bind fun r4=>cond (!r4.1) (some (false,())) (cond (decide (x1 > 0)) (aw (aG (x1-1)) (x0.length:Int) (cond ((oG (x0.getD x1.toNat (Ty.z a_)).1 (x0.getD (aG (x1-1)).toNat (Ty.z a_)).1)||(seq (x0.getD x1.toNat (Ty.z a_)).1 (x0.getD (aG (x1-1)).toNat (Ty.z a_)).1)) (some (false,())) (L0 x0 (aG (x1+1))))) (L0 x0 (aG (x1+1)))))))))) (some (true,())))
def l0:Nat→T0
 | 0=>fun _ _=>none
 | n+1=>b0 k (l0 n)
def t (k:Nat) (L0:T0) (a0:List (Ty.d a_)):Rs :=
 (cond (decide ((a0.length:Int) > 20)) (some (false,())) (L0 a0 0))
def f:=t k (l0 k k)
end fE
namespace gy
abbrev Rs:Type:=Option (Bool × Unit)
abbrev T0:Type:=Int→Int→Int→List (Ty.d a_)→Rs
def b0 (k:Nat) (L0:T0):T0:=fun x0 x1 x2 x3 =>
 (cond (decide (x0<(x3.length:Int))) (aw x0 (x3.length:Int) (aw 0 (x3.length:Int) (cond ((x3.getD x0.toNat (Ty.z a_)).2.1 != (x3.getD 0 (Ty.z a_)).2.1) (some (false,())) (aw x0 (x3.length:Int) (cond (decide ((x3.getD x0.toNat (Ty.z a_)).2.2.1 > 100000)) (some (false,())) (L0 (aG (x0+1)) x1 x2 x3)))))) (some (true,())))
def l0:Nat→T0
 | 0=>fun _ _ _ _=>none
 | n+1=>b0 k (l0 n)
def t (L0:T0) (a0:Ty.d fm):Rs :=
 ((aR.f k a0.1 0 100000).bind fun r1=>cond (!r1.1) (some (false,())) ((aR.f k a0.2.1 0 1000000).bind fun r2=>cond (!r2.1) (some (false,())) ((fE.f k a0.2.2.1).bind fun r3=>cond (!r3.1) (some (false,())) (L0 0 a0.1 a0.2.1 a0.2.2.1))))
def f:=t k (l0 k k)
end gy
namespace db
abbrev Rs:Type:=Option (ByteArray × Unit)
abbrev T0:Type:=ByteArray→Int→Int→Int→List (Ty.d a_)→Rs
def b0 (L0:T0):T0:=fun x0 x1 x2 x3 x4 =>
 (cond (decide (x1<(x4.length:Int))) (aw x1 (x4.length:Int) ((bf.f k (ByteArray.size (x4.getD x1.toNat (Ty.z a_)).1:Int)).bind fun r5=>ln x0 r5.1 (ln (x0++r5.1) (x4.getD x1.toNat (Ty.z a_)).1 ((bf.f k (x4.getD x1.toNat (Ty.z a_)).2.1).bind fun r6=>ln ((x0++r5.1)++(x4.getD x1.toNat (Ty.z a_)).1) r6.1 ((bf.f k (x4.getD x1.toNat (Ty.z a_)).2.2.1).bind fun r7=>ln (((x0++r5.1)++(x4.getD x1.toNat (Ty.z a_)).1)++r6.1) r7.1 ((bf.f k (x4.getD x1.toNat (Ty.z a_)).2.2.2.1).bind fun r8=>ln ((((x0++r5.1)++(x4.getD x1.toNat (Ty.z a_)).1)++r6.1)++r7.1) r8.1 ((bf.f k (x4.getD x1.toNat (Ty.z a_)).2.2.2.2.1).bind fun r9=>ln (((((x0++r5.1)++(x4.getD x1.toNat (Ty.z a_)).1)++r6.1)++r7.1)++r8.1) r9.1 (L0 ((((((x0++r5.1)++(x4.getD x1.toNat (Ty.z a_)).1)++r6.1)++r7.1)++r8.1)++r9.1) (aG (x1+1)) x2 x3 x4)))))))) ((gQ.f k x0).bind fun r10=>(di.f k r10.1 4).bind fun r11=>ln r11.1 x0 (some ((r11.1++x0),()))))
def l0:Nat→T0
 | 0=>fun _ _ _ _ _=>none
 | n+1=>b0 k (l0 n)
def t (L0:T0) (a0:Ty.d fm):Rs :=
 ((gy.f k a0).bind fun r1=>cond (!r1.1) (some ((⟨#[]⟩:ByteArray),())) ((bf.f k a0.1).bind fun r2=>(bf.f k a0.2.1).bind fun r3=>ln r2.1 r3.1 ((bf.f k (a0.2.2.1.length:Int)).bind fun r4=>ln (r2.1++r3.1) r4.1 (L0 ((r2.1++r3.1)++r4.1) 0 a0.1 a0.2.1 a0.2.2.1))))
def f:=t k (l0 k k)
end db
namespace bS
abbrev Rs:Type:=Option ((Ty.d fm) × Bool × Unit)
abbrev T0:Type:=ByteArray→Int→Int→List (Ty.d a_)→Int→Int→List Int→List (Ty.d a_)→Int→Int→Rs
def b0 (L0:T0):T0:=fun x0 x1 x2 x3 x4 x5 x6 x7 x8 x9 =>
 (aw 2 (x6.length:Int) (cond (decide (x2<(x6.getD 2 (Ty.z (.int .i64))))) (pE x1 (x0.size:Int) ((ck.f k (x0.extract x1.toNat (x0.size))).bind fun r2=>(bj.f k r2.2.1 0 4).bind fun r3=>cond (!r2.2.2.1) (some ((0,(0,([],()))),(false,()))) (cond (decide (r3.2.1<0)) (some ((0,(0,([],()))),(false,()))) (aw 0 (r3.1.length:Int) (aw 1 (r3.1.length:Int) (aw 2 (r3.1.length:Int) (aw 3 (r3.1.length:Int) (rm (Ty.bytes a_) (x7.length+1) (L0 x0 (aG ((aG ((x0.size:Int)-(r2.2.1.size:Int)))+r3.2.1)) (aG (x2+1)) x3 x4 x5 x6 (x7++[(r2.1,((r3.1.getD 0 (Ty.z (.int .i64))),((r3.1.getD 1 (Ty.z (.int .i64))),((r3.1.getD 2 (Ty.z (.int .i64))),((r3.1.getD 3 (Ty.z (.int .i64))),())))))]) x8 x9))))))))) ((db.f k (x8,(x9,(x7,())))).bind fun r4=>cond (!(seq r4.1 x0)) (some ((0,(0,([],()))),(false,()))) (some ((x8,(x9,(x7,()))),(true,()))))))
def l0:Nat→T0
 | 0=>fun _ _ _ _ _ _ _ _ _ _=>none
 | n+1=>b0 k (l0 n)
def t (L0:T0) (a0:ByteArray):Rs :=
 (cond (decide ((a0.size:Int)<4)) (some ((0,(0,([],()))),(false,()))) ((bj.f k a0 4 3).bind fun r1=>cond (decide (r1.2.1<0)) (some ((0,(0,([],()))),(false,()))) (aw 2 (r1.1.length:Int) (cond (decide ((r1.1.getD 2 (Ty.z (.int .i64))) > 20)) (some ((0,(0,([],()))),(false,()))) (aw 0 (r1.1.length:Int) (aw 1 (r1.1.length:Int) (L0 a0 r1.2.1 0 [] 0 0 r1.1 [] (r1.1.getD 0 (Ty.z (.int .i64))) (r1.1.getD 1 (Ty.z (.int .i64))))))))))
def f:=t k (l0 k k)
end bS
namespace gG
abbrev Rs:Type:=Option (Int × Unit)
abbrev T0:Type:=List (Ty.d bA)→ByteArray→Int→Rs
def b0 (L0:T0):T0:=fun x0 x1 x2 =>
 (cond (decide (x2<(x0.length:Int))) (aw x2 (x0.length:Int) ((cS.f k (x0.getD x2.toNat (Ty.z bA))).bind fun r1=>ln x1 r1.1 (L0 x0 (x1++r1.1) (aG (x2+1))))) ((gQ.f k x1).bind fun r2=>some r2))
def l0:Nat→T0
 | 0=>fun _ _ _=>none
 | n+1=>b0 k (l0 n)
def t (k:Nat) (L0:T0) (a0:List (Ty.d bA)):Rs :=
 (L0 a0 (⟨#[]⟩:ByteArray) 0)
def f:=t k (l0 k k)
end gG
namespace eG
abbrev Rs:Type:=Option ((Ty.d fm) × Bool × Unit)
abbrev T0:Type:=Int→Int→List (Ty.d a_)→Int→Int→List (Ty.d bK)→List (Ty.d a_)→Int→Int→List (Ty.d bA)→Rs
def b0 (L0:T0):T0:=fun x0 x1 x2 x3 x4 x5 x6 x7 x8 x9 =>
 (cond (decide ((aG (x1+1))<(x5.length:Int))) (aw x1 (x5.length:Int) (cond ((x5.getD x1.toNat (Ty.z bK)).2.2.1.1 != 4) (some ((0,(0,([],()))),(false,()))) (cond (decide ((x5.getD x1.toNat (Ty.z bK)).2.2.1.2.1 > x8)) (some ((0,(0,([],()))),(false,()))) (cond (decide (x1 > 0)) (aw (aG (x1-1)) (x5.length:Int) (cond ((oG (x5.getD x1.toNat (Ty.z bK)).2.2.1.2.2.1 (x5.getD (aG (x1-1)).toNat (Ty.z bK)).2.2.1.2.2.1)||(seq (x5.getD x1.toNat (Ty.z bK)).2.2.1.2.2.1 (x5.getD (aG (x1-1)).toNat (Ty.z bK)).2.2.1.2.2.1)) (some ((0,(0,([],()))),(false,()))) (rm (Ty.bytes bA) (x9.length+1) (aw x1 (x5.length:Int) (aw x1 (x5.length:Int) (rm (Ty.bytes a_) (x6.length+1) (L0 x0 (aG (x1+1)) x2 x3 x4 x5 (x6++[((x5.getD x1.toNat (Ty.z bK)).2.2.1.2.2.1,(x0,((x5.getD x1.toNat (Ty.z bK)).1,((x5.getD x1.toNat (Ty.z bK)).2.1,((x5.getD x1.toNat (Ty.z bK)).2.2.1.2.1,())))))]) x7 x8 (x9++[(x5.getD x1.toNat (Ty.z bK)).2.2.1])))))))) (rm (Ty.bytes bA) (x9.length+1) (aw x1 (x5.length:Int) (aw x1 (x5.length:Int) (rm (Ty.bytes a_) (x6.length+1) (L0 x0 (aG (x1+1)) x2 x3 x4 x5 (x6++[((x5.getD x1.toNat (Ty.z bK)).2.2.1.2.2.1,(x0,((x5.getD x1.toNat (Ty.z bK)).1,((x5.getD x1.toNat (Ty.z bK)).2.1,((x5.getD x1.toNat (Ty.z bK)).2.2.1.2.1,())))))]) x7 x8 (x9++[(x5.getD x1.toNat (Ty.z bK)).2.2.1])))))))))) (aw (aG ((x5.length:Int)-1)) (x5.length:Int) (cond ((x5.getD (aG ((x5.length:Int)-1)).toNat (Ty.z bK)).2.2.1.2.2.2.2.1 != (x9.length:Int)) (some ((0,(0,([],()))),(false,()))) ((gG.f k x9).bind fun r3=>cond ((x5.getD (aG ((x5.length:Int)-1)).toNat (Ty.z bK)).2.2.1.2.2.2.2.2.1 != r3.1) (some ((0,(0,([],()))),(false,()))) (some ((x7,(x8,(x6,()))),(true,())))))))
def l0:Nat→T0
 | 0=>fun _ _ _ _ _ _ _ _ _ _=>none
 | n+1=>b0 k (l0 n)
def t (L0:T0) (a0:Int) (a1:ByteArray):Rs :=
 ((ba.f k a1).bind fun r1=>cond (r1.2.1 != (a1.size:Int)) (some ((0,(0,([],()))),(false,()))) (cond ((r1.1.length:Int)==0) (some ((0,(0,([],()))),(false,()))) (aw (aG ((r1.1.length:Int)-1)) (r1.1.length:Int) (cond ((r1.1.getD (aG ((r1.1.length:Int)-1)).toNat (Ty.z bK)).2.2.1.1 != 5) (some ((0,(0,([],()))),(false,()))) ((aW.f k a0).bind fun r2=>cond (seq r2.1 (⟨#[]⟩:ByteArray)) (some ((0,(0,([],()))),(false,()))) (aw (aG ((r1.1.length:Int)-1)) (r1.1.length:Int) (L0 a0 0 [] 0 0 r1.1 [] (a1.size:Int) (r1.1.getD (aG ((r1.1.length:Int)-1)).toNat (Ty.z bK)).2.2.1.2.1 [])))))))
def f:=t k (l0 k k)
end eG
namespace eJ
abbrev Rs:Type:=Option (Bool × Unit)
abbrev T0:Type:=List (Ty.d a_)→List (Ty.d a_)→Int→Rs
def b0 (k:Nat) (L0:T0):T0:=fun x0 x1 x2 =>
 (cond (decide (x2<(x0.length:Int))) (aw x2 (x0.length:Int) (aw x2 (x1.length:Int) (cond (!((seq (x0.getD x2.toNat (Ty.z a_)).1 (x1.getD x2.toNat (Ty.z a_)).1)&&(((x0.getD x2.toNat (Ty.z a_)).2.1==(x1.getD x2.toNat (Ty.z a_)).2.1)&&(((x0.getD x2.toNat (Ty.z a_)).2.2.1==(x1.getD x2.toNat (Ty.z a_)).2.2.1)&&(((x0.getD x2.toNat (Ty.z a_)).2.2.2.1==(x1.getD x2.toNat (Ty.z a_)).2.2.2.1)&&((x0.getD x2.toNat (Ty.z a_)).2.2.2.2.1==(x1.getD x2.toNat (Ty.z a_)).2.2.2.2.1)))))) (some (false,())) (L0 x0 x1 (aG (x2+1)))))) (some (true,())))
def l0:Nat→T0
 | 0=>fun _ _ _=>none
 | n+1=>b0 k (l0 n)
def t (k:Nat) (L0:T0) (a0:List (Ty.d a_)) (a1:List (Ty.d a_)):Rs :=
 (cond ((a0.length:Int) != (a1.length:Int)) (some (false,())) (L0 a0 a1 0))
def f:=t k (l0 k k)
end eJ
namespace hZ
abbrev Rs:Type:=Option (Bool × Unit)
def t (a0:Int) (a1:ByteArray) (a2:Ty.d fm):Rs :=
 ((eG.f k a0 a1).bind fun r1=>cond r1.2.1 (cond (r1.1.1==a2.1) (cond (r1.1.2.1==a2.2.1) ((eJ.f k r1.1.2.2.1 a2.2.2.1).bind fun r2=>some r2) (some (false,()))) (some (false,()))) (some (false,())))
def f:=t k
end hZ
namespace bi
abbrev Rs:Type:=Option ((List (Ty.d aC)) × Unit)
abbrev T0:Type:=Int→Int→List (Ty.d aC)→List (Ty.d bK)→Rs
def b0 (k:Nat) (L0:T0):T0:=fun x0 x1 x2 x3 =>
 (cond (decide (x1<(x3.length:Int))) (aw x1 (x3.length:Int) (aw x1 (x3.length:Int) (aw x1 (x3.length:Int) (rm (Ty.bytes aC) (x2.length+1) (L0 x0 (aG (x1+1)) (x2++[(x0,((x3.getD x1.toNat (Ty.z bK)).1,((x3.getD x1.toNat (Ty.z bK)).2.1,(x3.getD x1.toNat (Ty.z bK)).2.2)))]) x3))))) (some (x2,())))
def l0:Nat→T0
 | 0=>fun _ _ _ _=>none
 | n+1=>b0 k (l0 n)
def t (L0:T0) (a0:Int) (a1:ByteArray):Rs :=
 ((ba.f k a1).bind fun r1=>L0 a0 0 [] r1.1)
def f:=t k (l0 k k)
end bi
namespace ip
abbrev Rs:Type:=Option ((List (Ty.d aC)) × Unit)
abbrev T0:Type:=List (Ty.d aC)→Int→Int→Int→List (Ty.d aC)→Rs
def b0 (k:Nat) (L0:T0):T0:=fun x0 x1 x2 x3 x4 =>
 (cond (decide (x3<x1)) (aw x3 (x0.length:Int) (cond ((x0.getD x3.toNat (Ty.z aC)).2.2.2.1.2.1==x2) (cond ((x0.getD x3.toNat (Ty.z aC)).2.2.2.1.1==3) (cond ((x0.getD x3.toNat (Ty.z aC)).2.2.2.1.2.1==x2) (cond ((x0.getD x3.toNat (Ty.z aC)).2.2.2.1.1==1) (aw x3 (x0.length:Int) (rm (Ty.bytes aC) (0+1) (L0 x0 x1 x2 (aG (x3+1)) ([]++[(x0.getD x3.toNat (Ty.z aC))])))) (cond ((x0.getD x3.toNat (Ty.z aC)).2.2.2.1.1==2) (aw x3 (x0.length:Int) (rm (Ty.bytes aC) (0+1) (L0 x0 x1 x2 (aG (x3+1)) ([]++[(x0.getD x3.toNat (Ty.z aC))])))) (L0 x0 x1 x2 (aG (x3+1)) []))) (L0 x0 x1 x2 (aG (x3+1)) [])) (cond ((x0.getD x3.toNat (Ty.z aC)).2.2.2.1.2.1==x2) (cond ((x0.getD x3.toNat (Ty.z aC)).2.2.2.1.1==1) (aw x3 (x0.length:Int) (rm (Ty.bytes aC) (x4.length+1) (L0 x0 x1 x2 (aG (x3+1)) (x4++[(x0.getD x3.toNat (Ty.z aC))])))) (cond ((x0.getD x3.toNat (Ty.z aC)).2.2.2.1.1==2) (aw x3 (x0.length:Int) (rm (Ty.bytes aC) (x4.length+1) (L0 x0 x1 x2 (aG (x3+1)) (x4++[(x0.getD x3.toNat (Ty.z aC))])))) (L0 x0 x1 x2 (aG (x3+1)) x4))) (L0 x0 x1 x2 (aG (x3+1)) x4))) (cond ((x0.getD x3.toNat (Ty.z aC)).2.2.2.1.2.1==x2) (cond ((x0.getD x3.toNat (Ty.z aC)).2.2.2.1.1==1) (aw x3 (x0.length:Int) (rm (Ty.bytes aC) (x4.length+1) (L0 x0 x1 x2 (aG (x3+1)) (x4++[(x0.getD x3.toNat (Ty.z aC))])))) (cond ((x0.getD x3.toNat (Ty.z aC)).2.2.2.1.1==2) (aw x3 (x0.length:Int) (rm (Ty.bytes aC) (x4.length+1) (L0 x0 x1 x2 (aG (x3+1)) (x4++[(x0.getD x3.toNat (Ty.z aC))])))) (L0 x0 x1 x2 (aG (x3+1)) x4))) (L0 x0 x1 x2 (aG (x3+1)) x4)))) (some (x4,())))
def l0:Nat→T0
 | 0=>fun _ _ _ _ _=>none
 | n+1=>b0 k (l0 n)
def t (k:Nat) (L0:T0) (a0:List (Ty.d aC)) (a1:Int) (a2:Int):Rs :=
 (L0 a0 a1 a2 0 [])
def f:=t k (l0 k k)
end ip
namespace gO
abbrev Rs:Type:=Option ((List (Ty.d bA)) × Unit)
abbrev T0:Type:=List (Ty.d aC)→Int→List (Ty.d bA)→Rs
def b0 (k:Nat) (L0:T0):T0:=fun x0 x1 x2 =>
 (cond (decide (x1<(x0.length:Int))) (aw x1 (x0.length:Int) (rm (Ty.bytes bA) (x2.length+1) (L0 x0 (aG (x1+1)) (x2++[(x0.getD x1.toNat (Ty.z aC)).2.2.2.1])))) (some (x2,())))
def l0:Nat→T0
 | 0=>fun _ _ _=>none
 | n+1=>b0 k (l0 n)
def t (k:Nat) (L0:T0) (a0:List (Ty.d aC)):Rs :=
 (L0 a0 0 [])
def f:=t k (l0 k k)
end gO
namespace jP
abbrev Rs:Type:=Option (Bool × Unit)
def t (a0:Ty.d bA) (a1:List (Ty.d aC)):Rs :=
 (cond (a0.2.2.2.2.1==(a1.length:Int)) ((gO.f k a1).bind fun r1=>(gG.f k r1.1).bind fun r2=>some ((a0.2.2.2.2.2.1==r2.1),())) (some (false,())))
def f:=t k
end jP
namespace dH
abbrev Rs:Type:=Option ((List (Ty.d a_)) × Unit)
abbrev T0:Type:=List (Ty.d a_)→ByteArray→Int→List (Ty.d a_)→Rs
def b0 (k:Nat) (L0:T0):T0:=fun x0 x1 x2 x3 =>
 (cond (decide (x2<(x0.length:Int))) (aw x2 (x0.length:Int) (cond (!(seq (x0.getD x2.toNat (Ty.z a_)).1 x1)) (aw x2 (x0.length:Int) (rm (Ty.bytes a_) (x3.length+1) (L0 x0 x1 (aG (x2+1)) (x3++[(x0.getD x2.toNat (Ty.z a_))])))) (L0 x0 x1 (aG (x2+1)) x3))) (some (x3,())))
def l0:Nat→T0
 | 0=>fun _ _ _ _=>none
 | n+1=>b0 k (l0 n)
def t (k:Nat) (L0:T0) (a0:List (Ty.d a_)) (a1:ByteArray):Rs :=
 (L0 a0 a1 0 [])
def f:=t k (l0 k k)
end dH
namespace cH
abbrev Rs:Type:=Option ((List (Ty.d a_)) × Unit)
abbrev T0:Type:=List (Ty.d a_)→Bool→Int→ByteArray→Int→Int→Int→Int→List (Ty.d a_)→Rs
def b0 (k:Nat) (L0:T0):T0:=fun x0 x1 x2 x3 x4 x5 x6 x7 x8 =>
 (cond (decide (x2<(x0.length:Int))) (aw x2 (x0.length:Int) (cond (seq (x0.getD x2.toNat (Ty.z a_)).1 x3) (L0 x0 x1 (aG (x2+1)) x3 x4 x5 x6 x7 x8) (cond (!x1) (aw x2 (x0.length:Int) (cond (!((oG (x0.getD x2.toNat (Ty.z a_)).1 x3)||(seq (x0.getD x2.toNat (Ty.z a_)).1 x3))) (rm (Ty.bytes a_) (x8.length+1) (aw x2 (x0.length:Int) (rm (Ty.bytes a_) (List.length (x8++[(x3,(x4,(x5,(x6,(x7,())))))])+1) (L0 x0 true (aG (x2+1)) x3 x4 x5 x6 x7 ((x8++[(x3,(x4,(x5,(x6,(x7,())))))])++[(x0.getD x2.toNat (Ty.z a_))]))))) (aw x2 (x0.length:Int) (rm (Ty.bytes a_) (x8.length+1) (L0 x0 x1 (aG (x2+1)) x3 x4 x5 x6 x7 (x8++[(x0.getD x2.toNat (Ty.z a_))])))))) (aw x2 (x0.length:Int) (rm (Ty.bytes a_) (x8.length+1) (L0 x0 x1 (aG (x2+1)) x3 x4 x5 x6 x7 (x8++[(x0.getD x2.toNat (Ty.z a_))]))))))) (cond (!x1) (rm (Ty.bytes a_) (x8.length+1) (some ((x8++[(x3,(x4,(x5,(x6,(x7,())))))]),()))) (some (x8,()))))
def l0:Nat→T0
 | 0=>fun _ _ _ _ _ _ _ _ _=>none
 | n+1=>b0 k (l0 n)
def t (k:Nat) (L0:T0) (a0:List (Ty.d a_)) (a1:Ty.d a_):Rs :=
 (L0 a0 false 0 a1.1 a1.2.1 a1.2.2.1 a1.2.2.2.1 a1.2.2.2.2.1 [])
def f:=t k (l0 k k)
end cH
namespace iO
abbrev Rs:Type:=Option ((List (Ty.d a_)) × Unit)
def t (a0:List (Ty.d a_)) (a1:Ty.d aC):Rs :=
 (cond (a1.2.2.2.1.1==2) ((dH.f k a0 a1.2.2.2.1.2.2.1).bind fun r1=>some r1) ((cH.f k a0 (a1.2.2.2.1.2.2.1,(a1.1,(a1.2.1,(a1.2.2.1,(a1.2.2.2.1.2.1,())))))).bind fun r2=>some r2))
def f:=t k
end iO
namespace fK
abbrev Rs:Type:=Option ((List (Ty.d aC)) × Unit)
abbrev T0:Type:=List (Ty.d aC)→Int→Int→List (Ty.d aC)→Rs
def b0 (k:Nat) (L0:T0):T0:=fun x0 x1 x2 x3 =>
 (cond (decide (x2<x1)) (aw x2 (x0.length:Int) (cond ((x0.getD x2.toNat (Ty.z aC)).2.2.2.1.1==5) (aw x2 (x0.length:Int) (cond ((x0.getD x2.toNat (Ty.z aC)).2.2.2.1.1==4) (aw x2 (x0.length:Int) (rm (Ty.bytes aC) (0+1) (L0 x0 x1 (aG (x2+1)) ([]++[(x0.getD x2.toNat (Ty.z aC))])))) (L0 x0 x1 (aG (x2+1)) []))) (aw x2 (x0.length:Int) (cond ((x0.getD x2.toNat (Ty.z aC)).2.2.2.1.1==4) (aw x2 (x0.length:Int) (rm (Ty.bytes aC) (x3.length+1) (L0 x0 x1 (aG (x2+1)) (x3++[(x0.getD x2.toNat (Ty.z aC))])))) (L0 x0 x1 (aG (x2+1)) x3))))) (some (x3,())))
def l0:Nat→T0
 | 0=>fun _ _ _ _=>none
 | n+1=>b0 k (l0 n)
def t (k:Nat) (L0:T0) (a0:List (Ty.d aC)) (a1:Int):Rs :=
 (L0 a0 a1 0 [])
def f:=t k (l0 k k)
end fK
namespace cU
abbrev Rs:Type:=Option ((Ty.d i_) × Unit)
abbrev T1:Type:=List (Ty.d aC)→Int→Int→List (Ty.d a_)→Int→Int→List (Ty.d a_)→Int→Int→List (Ty.d aC)→Rs
abbrev T0:Type:=List (Ty.d aC)→Int→List (Ty.d a_)→Int→Int→List (Ty.d a_)→Int→Int→Rs
def b1 (L0:T0) (L1:T1):T1:=fun x0 x1 x2 x3 x4 x5 x6 x7 x8 x9 =>
 (cond (decide (x2<(x9.length:Int))) (aw x2 (x9.length:Int) ((iO.f k x6 (x9.getD x2.toNat (Ty.z aC))).bind fun r3=>L1 x0 x1 (aG (x2+1)) x3 x4 x5 r3.1 x7 x8 x9)) (cond (decide ((x6.length:Int) > 20)) (L0 x0 (aG (x1+1)) x3 x4 x5 x6 x7 2) (L0 x0 (aG (x1+1)) x3 x4 x5 x6 x7 x8)))
def l1 (L0:T0):Nat→T1
 | 0=>fun _ _ _ _ _ _ _ _ _ _=>none
 | n+1=>b1 k L0 (l1 L0 n)
def b0 (L1:T1) (L0:T0):T0:=fun x0 x1 x2 x3 x4 x5 x6 x7 =>
 (cond (decide (x1<(x0.length:Int))) (cond (x7==0) (aw x1 (x0.length:Int) (cond ((x0.getD x1.toNat (Ty.z aC)).2.2.2.1.1==3) ((ip.f k x0 x1 (x0.getD x1.toNat (Ty.z aC)).2.2.2.1.2.1).bind fun r1=>(jP.f k (x0.getD x1.toNat (Ty.z aC)).2.2.2.1 r1.1).bind fun r2=>cond (!r2.1) (L0 x0 (aG (x1+1)) x2 x3 x4 x5 (if (x0.getD x1.toNat (Ty.z aC)).2.2.2.1.2.1 > x6 then (x0.getD x1.toNat (Ty.z aC)).2.2.2.1.2.1 else x6) x7) (L1 x0 x1 0 x2 x3 x4 x5 (if (x0.getD x1.toNat (Ty.z aC)).2.2.2.1.2.1 > x6 then (x0.getD x1.toNat (Ty.z aC)).2.2.2.1.2.1 else x6) x7 r1.1)) (cond ((x0.getD x1.toNat (Ty.z aC)).2.2.2.1.1==5) ((fK.f k x0 x1).bind fun r4=>(jP.f k (x0.getD x1.toNat (Ty.z aC)).2.2.2.1 r4.1).bind fun r5=>cond (!r5.1) (L0 x0 (aG (x1+1)) x2 x3 x4 x5 (if (x0.getD x1.toNat (Ty.z aC)).2.2.2.1.2.1 > x6 then (x0.getD x1.toNat (Ty.z aC)).2.2.2.1.2.1 else x6) 1) (L1 x0 x1 0 x2 x3 x4 x5 (if (x0.getD x1.toNat (Ty.z aC)).2.2.2.1.2.1 > x6 then (x0.getD x1.toNat (Ty.z aC)).2.2.2.1.2.1 else x6) x7 r4.1)) (L0 x0 (aG (x1+1)) x2 x3 x4 x5 (if (x0.getD x1.toNat (Ty.z aC)).2.2.2.1.2.1 > x6 then (x0.getD x1.toNat (Ty.z aC)).2.2.2.1.2.1 else x6) x7)))) (cond (x7==0) ((fK.f k x0 (x0.length:Int)).bind fun r6=>cond (decide ((r6.1.length:Int) > 0)) (some ((x5,(x6,(1,()))),())) (some ((x5,(x6,(x7,()))),()))) (some ((x5,(x6,(x7,()))),())))) (cond (x7==0) ((fK.f k x0 (x0.length:Int)).bind fun r7=>cond (decide ((r7.1.length:Int) > 0)) (some ((x5,(x6,(1,()))),())) (some ((x5,(x6,(x7,()))),()))) (some ((x5,(x6,(x7,()))),()))))
def l0:Nat→T0
 | 0=>fun _ _ _ _ _ _ _ _=>none
 | n+1=>b0 k (l1 k (l0 n) k) (l0 n)
def t (k:Nat) (L0:T0) (a0:Ty.d i_) (a1:List (Ty.d aC)):Rs :=
 (rm (Ty.bytes a_) (0+List.length a0.1) (L0 a1 0 [] 0 0 ([]++a0.1) a0.2.1 a0.2.2.1))
def f:=t k (l0 k k)
end cU
namespace b_
abbrev Rs:Type:=Option ((Ty.d aB) × Int × Unit)
abbrev T0:Type:=Int→List (Ty.d aD)→Int→Int→Bool→List (Ty.d aD)→Int→Int→Bool→List ByteArray→Rs
def b0 (L0:T0):T0:=fun x0 x1 x2 x3 x4 x5 x6 x7 x8 x9 =>
 (cond (decide (x0<(x9.length:Int))) (aw x0 (x9.length:Int) ((fI.f k (x1,(x2,(x3,(x4,())))) (x9.getD x0.toNat (Ty.z .str))).bind fun r2=>cond (r2.2.1 != 0) ((aT.f k r2.2.1).bind fun r3=>some (r2.1,r3)) (L0 (aG (x0+1)) r2.1.1 r2.1.2.1 r2.1.2.2.1 r2.1.2.2.2.1 x5 x6 x7 x8 x9))) (some ((x1,(x2,(x3,(x4,())))),(0,()))))
def l0:Nat→T0
 | 0=>fun _ _ _ _ _ _ _ _ _ _=>none
 | n+1=>b0 k (l0 n)
def t (L0:T0) (a0:Ty.d aB) (a1:Ty.d bo):Rs :=
 ((bI.f k a0 a1).bind fun r1=>L0 0 a0.1 a0.2.1 a0.2.2.1 a0.2.2.2.1 [] 0 0 false r1.1)
def f:=t k (l0 k k)
end b_
namespace cA
abbrev Rs:Type:=Option ((Ty.d aF) × (Ty.d aB) × Int × Unit)
abbrev T1:Type:=Int→List Int→List (Ty.d a_)→Int→Int→Int→Int→List (Ty.d aD)→Int→Int→Bool→List Int→List (Ty.d a_)→Int→Int→Int→Int→List Int→Int→List (Ty.d aD)→Int→Int→Bool→List (Ty.d a_)→Int→Int→Int→Int→List (Ty.d a_)→Int→Int→List (Ty.d aC)→Rs
abbrev T2:Type:=Int→List Int→List (Ty.d a_)→Int→Int→Int→Int→List (Ty.d aD)→Int→Int→Bool→List Int→List (Ty.d a_)→Int→Int→Int→Int→List Int→Int→List (Ty.d aD)→Int→Int→Bool→List (Ty.d a_)→Int→Int→Int→Int→List (Ty.d a_)→Int→Int→List (Ty.d aC)→Rs
abbrev T0:Type:=Int→Int→List (Ty.d aD)→Int→Int→Bool→List Int→List (Ty.d a_)→Int→Int→Int→Int→List (Ty.d aD)→Int→Int→Bool→List Int→List (Ty.d a_)→Int→Int→Int→Int→List Int→Int→Rs
def b1 (L1:T1):T1:=fun x0 x1 x2 x3 x4 x5 x6 x7 x8 x9 x10 x11 x12 x13 x14 x15 x16 x17 x18 x19 x20 x21 x22 x23 x24 x25 x26 x27 x28 x29 x30 x31 =>
 (cond (decide (x0<(x17.length:Int))) (aw x0 (x17.length:Int) ((aW.f k (x17.getD x0.toNat (Ty.z (.int .i64)))).bind fun r23=>(bp.f k (x19,(x20,(x21,(x22,())))) r23.1).bind fun r24=>aw x0 (x17.length:Int) ((d9.f k (x17.getD x0.toNat (Ty.z (.int .i64)))).bind fun r25=>(bp.f k (x19,(x20,(x21,(x22,())))) r25.1).bind fun r26=>(bS.f k r26.1).bind fun r27=>cond (x0==0) (cond r26.2.1 (cond r27.2.1 (aw 0 (x17.length:Int) ((hZ.f k (x17.getD 0 (Ty.z (.int .i64))) r24.1 r27.1).bind fun r28=>cond r28.1 (aw 0 (x17.length:Int) (L1 (aG (x0+1)) x1 x2 x3 x4 x5 x6 x7 x8 x9 x10 x11 x12 x13 x14 x15 x16 x17 x18 x19 x20 x21 x22 x23 x24 x25 x26 (x17.getD 0 (Ty.z (.int .i64))) r27.1.2.2.1 r27.1.2.1 x30 x31)) (aw x0 (x17.length:Int) ((bi.f k (x17.getD x0.toNat (Ty.z (.int .i64))) r24.1).bind fun r29=>rm (Ty.bytes aC) (x31.length+List.length r29.1) (L1 (aG (x0+1)) x1 x2 x3 x4 x5 x6 x7 x8 x9 x10 x11 x12 x13 x14 x15 x16 x17 x18 x19 x20 x21 x22 x23 x24 x25 x26 x27 x28 x29 x30 (x31++r29.1)))))) (aw x0 (x17.length:Int) ((bi.f k (x17.getD x0.toNat (Ty.z (.int .i64))) r24.1).bind fun r30=>rm (Ty.bytes aC) (x31.length+List.length r30.1) (L1 (aG (x0+1)) x1 x2 x3 x4 x5 x6 x7 x8 x9 x10 x11 x12 x13 x14 x15 x16 x17 x18 x19 x20 x21 x22 x23 x24 x25 x26 x27 x28 x29 x30 (x31++r30.1))))) (aw x0 (x17.length:Int) ((bi.f k (x17.getD x0.toNat (Ty.z (.int .i64))) r24.1).bind fun r31=>rm (Ty.bytes aC) (x31.length+List.length r31.1) (L1 (aG (x0+1)) x1 x2 x3 x4 x5 x6 x7 x8 x9 x10 x11 x12 x13 x14 x15 x16 x17 x18 x19 x20 x21 x22 x23 x24 x25 x26 x27 x28 x29 x30 (x31++r31.1))))) (aw x0 (x17.length:Int) ((bi.f k (x17.getD x0.toNat (Ty.z (.int .i64))) r24.1).bind fun r32=>rm (Ty.bytes aC) (x31.length+List.length r32.1) (L1 (aG (x0+1)) x1 x2 x3 x4 x5 x6 x7 x8 x9 x10 x11 x12 x13 x14 x15 x16 x17 x18 x19 x20 x21 x22 x23 x24 x25 x26 x27 x28 x29 x30 (x31++r32.1))))))) ((cU.f k (x28,(x29,(x30,()))) x31).bind fun r33=>cond (r33.1.2.2.1 != 0) (some (((x13,(x11,())),(x12,(x14,(x15,(x16,()))))),((x19,(x20,(x21,(x22,())))),(3,())))) ((b_.f k (x19,(x20,(x21,(x22,())))) (x18,(x17,()))).bind fun r34=>cond (r34.2.1 != 0) (some (((x13,(x11,())),(x12,(x14,(x15,(x16,()))))),r34)) (some (((x24,(x17,())),(r33.1.1,((aG (r33.1.2.1+1)),(x26,(x27,()))))),(r34.1,(0,())))))))
def l1:Nat→T1
 | 0=>fun _ _ _ _ _ _ _ _ _ _ _ _ _ _ _ _ _ _ _ _ _ _ _ _ _ _ _ _ _ _ _ _=>none
 | n+1=>b1 k (l1 n)
def b2 (L2:T2):T2:=fun x0 x1 x2 x3 x4 x5 x6 x7 x8 x9 x10 x11 x12 x13 x14 x15 x16 x17 x18 x19 x20 x21 x22 x23 x24 x25 x26 x27 x28 x29 x30 x31 =>
 (cond (decide (x0<(x17.length:Int))) (aw x0 (x17.length:Int) ((aW.f k (x17.getD x0.toNat (Ty.z (.int .i64)))).bind fun r38=>(bp.f k (x19,(x20,(x21,(x22,())))) r38.1).bind fun r39=>aw x0 (x17.length:Int) ((d9.f k (x17.getD x0.toNat (Ty.z (.int .i64)))).bind fun r40=>(bp.f k (x19,(x20,(x21,(x22,())))) r40.1).bind fun r41=>(bS.f k r41.1).bind fun r42=>cond (x0==0) (cond r41.2.1 (cond r42.2.1 (aw 0 (x17.length:Int) ((hZ.f k (x17.getD 0 (Ty.z (.int .i64))) r39.1 r42.1).bind fun r43=>cond r43.1 (aw 0 (x17.length:Int) (L2 (aG (x0+1)) x1 x2 x3 x4 x5 x6 x7 x8 x9 x10 x11 x12 x13 x14 x15 x16 x17 x18 x19 x20 x21 x22 x23 x24 x25 x26 (x17.getD 0 (Ty.z (.int .i64))) r42.1.2.2.1 r42.1.2.1 x30 x31)) (aw x0 (x17.length:Int) ((bi.f k (x17.getD x0.toNat (Ty.z (.int .i64))) r39.1).bind fun r44=>rm (Ty.bytes aC) (x31.length+List.length r44.1) (L2 (aG (x0+1)) x1 x2 x3 x4 x5 x6 x7 x8 x9 x10 x11 x12 x13 x14 x15 x16 x17 x18 x19 x20 x21 x22 x23 x24 x25 x26 x27 x28 x29 x30 (x31++r44.1)))))) (aw x0 (x17.length:Int) ((bi.f k (x17.getD x0.toNat (Ty.z (.int .i64))) r39.1).bind fun r45=>rm (Ty.bytes aC) (x31.length+List.length r45.1) (L2 (aG (x0+1)) x1 x2 x3 x4 x5 x6 x7 x8 x9 x10 x11 x12 x13 x14 x15 x16 x17 x18 x19 x20 x21 x22 x23 x24 x25 x26 x27 x28 x29 x30 (x31++r45.1))))) (aw x0 (x17.length:Int) ((bi.f k (x17.getD x0.toNat (Ty.z (.int .i64))) r39.1).bind fun r46=>rm (Ty.bytes aC) (x31.length+List.length r46.1) (L2 (aG (x0+1)) x1 x2 x3 x4 x5 x6 x7 x8 x9 x10 x11 x12 x13 x14 x15 x16 x17 x18 x19 x20 x21 x22 x23 x24 x25 x26 x27 x28 x29 x30 (x31++r46.1))))) (aw x0 (x17.length:Int) ((bi.f k (x17.getD x0.toNat (Ty.z (.int .i64))) r39.1).bind fun r47=>rm (Ty.bytes aC) (x31.length+List.length r47.1) (L2 (aG (x0+1)) x1 x2 x3 x4 x5 x6 x7 x8 x9 x10 x11 x12 x13 x14 x15 x16 x17 x18 x19 x20 x21 x22 x23 x24 x25 x26 x27 x28 x29 x30 (x31++r47.1))))))) ((cU.f k (x28,(x29,(x30,()))) x31).bind fun r48=>cond (r48.1.2.2.1 != 0) (some (((x13,(x11,())),(x12,(x14,(x15,(x16,()))))),((x19,(x20,(x21,(x22,())))),(3,())))) ((b_.f k (x19,(x20,(x21,(x22,())))) (x18,(x17,()))).bind fun r49=>cond (r49.2.1 != 0) (some (((x13,(x11,())),(x12,(x14,(x15,(x16,()))))),r49)) (some (((x24,(x17,())),(r48.1.1,((aG (r48.1.2.1+1)),(x26,(x27,()))))),(r49.1,(0,())))))))
def l2:Nat→T2
 | 0=>fun _ _ _ _ _ _ _ _ _ _ _ _ _ _ _ _ _ _ _ _ _ _ _ _ _ _ _ _ _ _ _ _=>none
 | n+1=>b2 k (l2 n)
def b0 (L1:T1) (L2:T2) (L0:T0):T0:=fun x0 x1 x2 x3 x4 x5 x6 x7 x8 x9 x10 x11 x12 x13 x14 x15 x16 x17 x18 x19 x20 x21 x22 x23 =>
 (cond (decide (x1<(x22.length:Int))) (aw x1 (x22.length:Int) ((aW.f k (x22.getD x1.toNat (Ty.z (.int .i64)))).bind fun r8=>(bp.f k (x2,(x3,(x4,(x5,())))) r8.1).bind fun r9=>(ba.f k r9.1).bind fun r10=>cond (!r9.2.1) ((cK.f k (x2,(x3,(x4,(x5,()))))).bind fun r11=>some (((x18,(x16,())),(x17,(x19,(x20,(x21,()))))),(r11.1,(3,())))) (aw x1 (x22.length:Int) (cond ((x22.getD x1.toNat (Ty.z (.int .i64))) != x0) (cond (decide (r10.2.1<(r9.1.size:Int))) ((cK.f k (x2,(x3,(x4,(x5,()))))).bind fun r12=>some (((x18,(x16,())),(x17,(x19,(x20,(x21,()))))),(r12.1,(3,())))) (L0 x0 (aG (x1+1)) x2 x3 x4 x5 x6 x7 x8 x9 x10 x11 x12 x13 x14 x15 x16 x17 x18 x19 x20 x21 x22 x23)) (L0 x0 (aG (x1+1)) x2 x3 x4 x5 x6 x7 x8 x9 x10 x11 x12 x13 x14 x15 x16 x17 x18 x19 x20 x21 x22 x23))))) ((aW.f k x0).bind fun r13=>(bp.f k (x2,(x3,(x4,(x5,())))) r13.1).bind fun r14=>(ba.f k r14.1).bind fun r15=>(cK.f k (x2,(x3,(x4,(x5,()))))).bind fun r16=>cond (decide (r15.2.1<(r14.1.size:Int))) ((aW.f k x0).bind fun r17=>(ij.f k r16.1 r17.1 r15.2.1).bind fun r18=>cond (r18.2.1 != 0) ((aT.f k r18.2.1).bind fun r19=>some (((x18,(x16,())),(x17,(x19,(x20,(x21,()))))),(r18.1,r19))) ((aW.f k x0).bind fun r20=>(eW.f k r18.1 r20.1).bind fun r21=>cond (r21.2.1 != 0) ((aT.f k r21.2.1).bind fun r22=>some (((x18,(x16,())),(x17,(x19,(x20,(x21,()))))),(r21.1,r22))) (L1 0 x6 x7 x8 x9 x10 x11 x12 x13 x14 x15 x16 x17 x18 x19 x20 x21 x22 x23 r21.1.1 r21.1.2.1 r21.1.2.2.1 r21.1.2.2.2.1 [] x23 0 r15.2.1 0 [] 0 0 []))) ((aW.f k x0).bind fun r35=>(eW.f k r16.1 r35.1).bind fun r36=>cond (r36.2.1 != 0) ((aT.f k r36.2.1).bind fun r37=>some (((x18,(x16,())),(x17,(x19,(x20,(x21,()))))),(r36.1,r37))) (L2 0 x6 x7 x8 x9 x10 x11 x12 x13 x14 x15 x16 x17 x18 x19 x20 x21 x22 x23 r36.1.1 r36.1.2.1 r36.1.2.2.1 r36.1.2.2.2.1 [] x23 0 r15.2.1 0 [] 0 0 []))))
def l0:Nat→T0
 | 0=>fun _ _ _ _ _ _ _ _ _ _ _ _ _ _ _ _ _ _ _ _ _ _ _ _=>none
 | n+1=>b0 k (l1 k k) (l2 k k) (l0 n)
def t (L0:T0) (a0:Ty.d aB):Rs :=
 ((bM.f k a0).bind fun r1=>cond (!r1.1) ((cK.f k a0).bind fun r2=>some (((0,([],())),([],(0,(0,(0,()))))),(r2.1,(4,())))) (cond a0.2.2.2.1 ((cK.f k a0).bind fun r3=>some (((0,([],())),([],(0,(0,(0,()))))),(r3.1,(1,())))) ((bp.f k a0 (⟨#[108,105,118,101]⟩:ByteArray)).bind fun r4=>cond (!r4.2.1) ((ic.f k a0).bind fun r5=>some r5) ((bT.f k r4.1).bind fun r6=>cond (!r6.2.1) ((cK.f k a0).bind fun r7=>some (((0,([],())),([],(0,(0,(0,()))))),(r7.1,(3,())))) (aw (aG ((r6.1.2.1.length:Int)-1)) (r6.1.2.1.length:Int) (L0 (r6.1.2.1.getD (aG ((r6.1.2.1.length:Int)-1)).toNat (Ty.z (.int .i64))) 0 a0.1 a0.2.1 a0.2.2.1 a0.2.2.2.1 [] [] 0 0 0 0 [] 0 0 false [] [] 0 0 0 0 r6.1.2.1 r6.1.1))))))
def f:=t k (l0 k k)
end cA
namespace gA
abbrev Rs:Type:=Option ((Ty.d aV) × Int × Unit)
def t (a0:Ty.d aB):Rs :=
 ((cA.f k a0).bind fun r1=>vJ (Ty.bytes an) 3 (some (((r1.2.2.1==0),(r1.1,(r1.2.1,((List.replicate (Int.toNat 3) (Ty.z an)),())))),r1.2.2)))
def f:=t k
end gA
namespace cm
abbrev Rs:Type:=Option ((Ty.d fB) × ByteArray × Unit)
def t (a0:Ty.d fB) (a1:List ByteArray):Rs :=
 ((b9.f k a0 (a1.length:Int)).bind fun r1=>aw r1.2.1 (a1.length:Int) (some (r1.1,((a1.getD r1.2.1.toNat (Ty.z .str)),()))))
def f:=t k
end cm
namespace ix
abbrev Rs:Type:=Option ((Ty.d fB) × ByteArray × Unit)
def t (a0:Ty.d fB):Rs :=
 ((cm.f k a0 [(⟨#[97]⟩:ByteArray),(⟨#[98]⟩:ByteArray),(⟨#[99]⟩:ByteArray),(⟨#[107,101,121]⟩:ByteArray),(⟨#[108,111,110,103,110,97,109,101]⟩:ByteArray)]).bind fun r1=>some r1)
def f:=t k
end ix
namespace fP
abbrev Rs:Type:=Option ((Ty.d fB) × ByteArray × Unit)
abbrev T0:Type:=Int→Int→List Int→Int→Int→List Int→Rs
def b0 (L0:T0):T0:=fun x0 x1 x2 x3 x4 x5 =>
 (cond (decide (x1 > 0)) ((fD.f k (x2,(x3,(x4,())))).bind fun r3=>cond (x0==1) (cond (x0==2) (rm (Ty.bytes (.int .u8)) (x5.length+1) (L0 x0 (aG (x1-1)) r3.1.1 r3.1.2.1 r3.1.2.2.1 (x5++[(IntKind.wrap .u8 (aG (97+(Int.tmod (Int.tmod r3.2.1 2) 4))))]))) (rm (Ty.bytes (.int .u8)) (x5.length+1) (L0 x0 (aG (x1-1)) r3.1.1 r3.1.2.1 r3.1.2.2.1 (x5++[(IntKind.wrap .u8 (Int.tmod r3.2.1 2))])))) (cond (x0==2) (rm (Ty.bytes (.int .u8)) (x5.length+1) (L0 x0 (aG (x1-1)) r3.1.1 r3.1.2.1 r3.1.2.2.1 (x5++[(IntKind.wrap .u8 (aG (97+(Int.tmod r3.2.1 4))))]))) (rm (Ty.bytes (.int .u8)) (x5.length+1) (L0 x0 (aG (x1-1)) r3.1.1 r3.1.2.1 r3.1.2.2.1 (x5++[(IntKind.wrap .u8 r3.2.1)]))))) (some ((x2,(x3,(x4,()))),((bytesOf x5),()))))
def l0:Nat→T0
 | 0=>fun _ _ _ _ _ _=>none
 | n+1=>b0 k (l0 n)
def t (L0:T0) (a0:Ty.d fB) (a1:Int):Rs :=
 ((b9.f k a0 4).bind fun r1=>(b9.f k r1.1 (aG (a1+1))).bind fun r2=>L0 r1.2.1 r2.2.1 r2.1.1 r2.1.2.1 r2.1.2.2.1 [])
def f:=t k (l0 k k)
end fP
namespace gz
abbrev Rs:Type:=Option ((Ty.d fB) × (Ty.d az) × Unit)
def t (a0:Ty.d fB):Rs :=
 ((aX.f k a0 [1,2,2,3,3,3,4,5,5,6,7,8,1,5]).bind fun r1=>(b9.f k r1.1 3).bind fun r2=>cond (r1.2.1==2) (cond (r1.2.1==2) ((ix.f k r2.1).bind fun r3=>(b9.f k r3.1 40).bind fun r4=>cond (r4.2.1==0) (some (r4.1,((9,(0,(ByteArray.empty,(ByteArray.empty,(0,()))))),()))) (cond (r4.2.1==1) (cond (r4.2.1==1) (some (r4.1,((10,(0,(ByteArray.empty,(ByteArray.empty,(0,()))))),()))) (cond (r4.2.1==3) ((aX.f k r4.1 [(-1),3]).bind fun r5=>some (r5.1,((r1.2.1,(r5.2.1,(r3.2.1,(ByteArray.empty,(0,()))))),()))) (cond (r4.2.1==4) ((cm.f k r4.1 [(⟨#[]⟩:ByteArray),(⟨#[110,105,110,101,98,121,116,101,115]⟩:ByteArray)]).bind fun r6=>some (r6.1,((r1.2.1,(r2.2.1,(r6.2.1,(ByteArray.empty,(0,()))))),()))) (cond (r4.2.1==5) ((aX.f k r4.1 [0,12]).bind fun r7=>some (r7.1,((r7.2.1,(r2.2.1,(r3.2.1,(ByteArray.empty,(0,()))))),()))) (some (r4.1,((r1.2.1,(r2.2.1,(r3.2.1,(ByteArray.empty,(0,()))))),()))))))) (cond (r4.2.1==2) (some (r4.1,((10,(0,(ByteArray.empty,(ByteArray.empty,(0,()))))),()))) (cond (r4.2.1==3) ((aX.f k r4.1 [(-1),3]).bind fun r8=>some (r8.1,((r1.2.1,(r8.2.1,(r3.2.1,(ByteArray.empty,(0,()))))),()))) (cond (r4.2.1==4) ((cm.f k r4.1 [(⟨#[]⟩:ByteArray),(⟨#[110,105,110,101,98,121,116,101,115]⟩:ByteArray)]).bind fun r9=>some (r9.1,((r1.2.1,(r2.2.1,(r9.2.1,(ByteArray.empty,(0,()))))),()))) (cond (r4.2.1==5) ((aX.f k r4.1 [0,12]).bind fun r10=>some (r10.1,((r10.2.1,(r2.2.1,(r3.2.1,(ByteArray.empty,(0,()))))),()))) (some (r4.1,((r1.2.1,(r2.2.1,(r3.2.1,(ByteArray.empty,(0,()))))),()))))))))) (cond (r1.2.1==3) ((ix.f k r2.1).bind fun r11=>(fP.f k r11.1 12).bind fun r12=>(b9.f k r12.1 40).bind fun r13=>cond (r13.2.1==0) (some (r13.1,((9,(0,(ByteArray.empty,(ByteArray.empty,(0,()))))),()))) (cond (r13.2.1==1) (cond (r13.2.1==1) (some (r13.1,((10,(0,(ByteArray.empty,(ByteArray.empty,(0,()))))),()))) (cond (r13.2.1==3) ((aX.f k r13.1 [(-1),3]).bind fun r14=>some (r14.1,((r1.2.1,(r14.2.1,(r11.2.1,(r12.2.1,(0,()))))),()))) (cond (r13.2.1==4) ((cm.f k r13.1 [(⟨#[]⟩:ByteArray),(⟨#[110,105,110,101,98,121,116,101,115]⟩:ByteArray)]).bind fun r15=>some (r15.1,((r1.2.1,(r2.2.1,(r15.2.1,(r12.2.1,(0,()))))),()))) (cond (r13.2.1==5) ((aX.f k r13.1 [0,12]).bind fun r16=>some (r16.1,((r16.2.1,(r2.2.1,(r11.2.1,(r12.2.1,(0,()))))),()))) (some (r13.1,((r1.2.1,(r2.2.1,(r11.2.1,(r12.2.1,(0,()))))),()))))))) (cond (r13.2.1==2) (some (r13.1,((10,(0,(ByteArray.empty,(ByteArray.empty,(0,()))))),()))) (cond (r13.2.1==3) ((aX.f k r13.1 [(-1),3]).bind fun r17=>some (r17.1,((r1.2.1,(r17.2.1,(r11.2.1,(r12.2.1,(0,()))))),()))) (cond (r13.2.1==4) ((cm.f k r13.1 [(⟨#[]⟩:ByteArray),(⟨#[110,105,110,101,98,121,116,101,115]⟩:ByteArray)]).bind fun r18=>some (r18.1,((r1.2.1,(r2.2.1,(r18.2.1,(r12.2.1,(0,()))))),()))) (cond (r13.2.1==5) ((aX.f k r13.1 [0,12]).bind fun r19=>some (r19.1,((r19.2.1,(r2.2.1,(r11.2.1,(r12.2.1,(0,()))))),()))) (some (r13.1,((r1.2.1,(r2.2.1,(r11.2.1,(r12.2.1,(0,()))))),()))))))))) ((b9.f k r2.1 40).bind fun r20=>cond (r20.2.1==0) (some (r20.1,((9,(0,(ByteArray.empty,(ByteArray.empty,(0,()))))),()))) (cond (r20.2.1==1) (cond (r20.2.1==1) (some (r20.1,((10,(0,(ByteArray.empty,(ByteArray.empty,(0,()))))),()))) (cond (r20.2.1==3) ((aX.f k r20.1 [(-1),3]).bind fun r21=>some (r21.1,((r1.2.1,(r21.2.1,(ByteArray.empty,(ByteArray.empty,(0,()))))),()))) (cond (r20.2.1==4) ((cm.f k r20.1 [(⟨#[]⟩:ByteArray),(⟨#[110,105,110,101,98,121,116,101,115]⟩:ByteArray)]).bind fun r22=>some (r22.1,((r1.2.1,(r2.2.1,(r22.2.1,(ByteArray.empty,(0,()))))),()))) (cond (r20.2.1==5) ((aX.f k r20.1 [0,12]).bind fun r23=>some (r23.1,((r23.2.1,(r2.2.1,(ByteArray.empty,(ByteArray.empty,(0,()))))),()))) (some (r20.1,((r1.2.1,(r2.2.1,(ByteArray.empty,(ByteArray.empty,(0,()))))),()))))))) (cond (r20.2.1==2) (some (r20.1,((10,(0,(ByteArray.empty,(ByteArray.empty,(0,()))))),()))) (cond (r20.2.1==3) ((aX.f k r20.1 [(-1),3]).bind fun r24=>some (r24.1,((r1.2.1,(r24.2.1,(ByteArray.empty,(ByteArray.empty,(0,()))))),()))) (cond (r20.2.1==4) ((cm.f k r20.1 [(⟨#[]⟩:ByteArray),(⟨#[110,105,110,101,98,121,116,101,115]⟩:ByteArray)]).bind fun r25=>some (r25.1,((r1.2.1,(r2.2.1,(r25.2.1,(ByteArray.empty,(0,()))))),()))) (cond (r20.2.1==5) ((aX.f k r20.1 [0,12]).bind fun r26=>some (r26.1,((r26.2.1,(r2.2.1,(ByteArray.empty,(ByteArray.empty,(0,()))))),()))) (some (r20.1,((r1.2.1,(r2.2.1,(ByteArray.empty,(ByteArray.empty,(0,()))))),()))))))))))) (cond (r1.2.1==4) ((ix.f k r2.1).bind fun r27=>(b9.f k r27.1 40).bind fun r28=>cond (r28.2.1==0) (some (r28.1,((9,(0,(ByteArray.empty,(ByteArray.empty,(0,()))))),()))) (cond (r28.2.1==1) (cond (r28.2.1==1) (some (r28.1,((10,(0,(ByteArray.empty,(ByteArray.empty,(0,()))))),()))) (cond (r28.2.1==3) ((aX.f k r28.1 [(-1),3]).bind fun r29=>some (r29.1,((r1.2.1,(r29.2.1,(r27.2.1,(ByteArray.empty,(0,()))))),()))) (cond (r28.2.1==4) ((cm.f k r28.1 [(⟨#[]⟩:ByteArray),(⟨#[110,105,110,101,98,121,116,101,115]⟩:ByteArray)]).bind fun r30=>some (r30.1,((r1.2.1,(r2.2.1,(r30.2.1,(ByteArray.empty,(0,()))))),()))) (cond (r28.2.1==5) ((aX.f k r28.1 [0,12]).bind fun r31=>some (r31.1,((r31.2.1,(r2.2.1,(r27.2.1,(ByteArray.empty,(0,()))))),()))) (some (r28.1,((r1.2.1,(r2.2.1,(r27.2.1,(ByteArray.empty,(0,()))))),()))))))) (cond (r28.2.1==2) (some (r28.1,((10,(0,(ByteArray.empty,(ByteArray.empty,(0,()))))),()))) (cond (r28.2.1==3) ((aX.f k r28.1 [(-1),3]).bind fun r32=>some (r32.1,((r1.2.1,(r32.2.1,(r27.2.1,(ByteArray.empty,(0,()))))),()))) (cond (r28.2.1==4) ((cm.f k r28.1 [(⟨#[]⟩:ByteArray),(⟨#[110,105,110,101,98,121,116,101,115]⟩:ByteArray)]).bind fun r33=>some (r33.1,((r1.2.1,(r2.2.1,(r33.2.1,(ByteArray.empty,(0,()))))),()))) (cond (r28.2.1==5) ((aX.f k r28.1 [0,12]).bind fun r34=>some (r34.1,((r34.2.1,(r2.2.1,(r27.2.1,(ByteArray.empty,(0,()))))),()))) (some (r28.1,((r1.2.1,(r2.2.1,(r27.2.1,(ByteArray.empty,(0,()))))),()))))))))) (cond (r1.2.1==3) ((ix.f k r2.1).bind fun r35=>(fP.f k r35.1 12).bind fun r36=>(b9.f k r36.1 40).bind fun r37=>cond (r37.2.1==0) (some (r37.1,((9,(0,(ByteArray.empty,(ByteArray.empty,(0,()))))),()))) (cond (r37.2.1==1) (cond (r37.2.1==1) (some (r37.1,((10,(0,(ByteArray.empty,(ByteArray.empty,(0,()))))),()))) (cond (r37.2.1==3) ((aX.f k r37.1 [(-1),3]).bind fun r38=>some (r38.1,((r1.2.1,(r38.2.1,(r35.2.1,(r36.2.1,(0,()))))),()))) (cond (r37.2.1==4) ((cm.f k r37.1 [(⟨#[]⟩:ByteArray),(⟨#[110,105,110,101,98,121,116,101,115]⟩:ByteArray)]).bind fun r39=>some (r39.1,((r1.2.1,(r2.2.1,(r39.2.1,(r36.2.1,(0,()))))),()))) (cond (r37.2.1==5) ((aX.f k r37.1 [0,12]).bind fun r40=>some (r40.1,((r40.2.1,(r2.2.1,(r35.2.1,(r36.2.1,(0,()))))),()))) (some (r37.1,((r1.2.1,(r2.2.1,(r35.2.1,(r36.2.1,(0,()))))),()))))))) (cond (r37.2.1==2) (some (r37.1,((10,(0,(ByteArray.empty,(ByteArray.empty,(0,()))))),()))) (cond (r37.2.1==3) ((aX.f k r37.1 [(-1),3]).bind fun r41=>some (r41.1,((r1.2.1,(r41.2.1,(r35.2.1,(r36.2.1,(0,()))))),()))) (cond (r37.2.1==4) ((cm.f k r37.1 [(⟨#[]⟩:ByteArray),(⟨#[110,105,110,101,98,121,116,101,115]⟩:ByteArray)]).bind fun r42=>some (r42.1,((r1.2.1,(r2.2.1,(r42.2.1,(r36.2.1,(0,()))))),()))) (cond (r37.2.1==5) ((aX.f k r37.1 [0,12]).bind fun r43=>some (r43.1,((r43.2.1,(r2.2.1,(r35.2.1,(r36.2.1,(0,()))))),()))) (some (r37.1,((r1.2.1,(r2.2.1,(r35.2.1,(r36.2.1,(0,()))))),()))))))))) ((b9.f k r2.1 40).bind fun r44=>cond (r44.2.1==0) (some (r44.1,((9,(0,(ByteArray.empty,(ByteArray.empty,(0,()))))),()))) (cond (r44.2.1==1) (cond (r44.2.1==1) (some (r44.1,((10,(0,(ByteArray.empty,(ByteArray.empty,(0,()))))),()))) (cond (r44.2.1==3) ((aX.f k r44.1 [(-1),3]).bind fun r45=>some (r45.1,((r1.2.1,(r45.2.1,(ByteArray.empty,(ByteArray.empty,(0,()))))),()))) (cond (r44.2.1==4) ((cm.f k r44.1 [(⟨#[]⟩:ByteArray),(⟨#[110,105,110,101,98,121,116,101,115]⟩:ByteArray)]).bind fun r46=>some (r46.1,((r1.2.1,(r2.2.1,(r46.2.1,(ByteArray.empty,(0,()))))),()))) (cond (r44.2.1==5) ((aX.f k r44.1 [0,12]).bind fun r47=>some (r47.1,((r47.2.1,(r2.2.1,(ByteArray.empty,(ByteArray.empty,(0,()))))),()))) (some (r44.1,((r1.2.1,(r2.2.1,(ByteArray.empty,(ByteArray.empty,(0,()))))),()))))))) (cond (r44.2.1==2) (some (r44.1,((10,(0,(ByteArray.empty,(ByteArray.empty,(0,()))))),()))) (cond (r44.2.1==3) ((aX.f k r44.1 [(-1),3]).bind fun r48=>some (r48.1,((r1.2.1,(r48.2.1,(ByteArray.empty,(ByteArray.empty,(0,()))))),()))) (cond (r44.2.1==4) ((cm.f k r44.1 [(⟨#[]⟩:ByteArray),(⟨#[110,105,110,101,98,121,116,101,115]⟩:ByteArray)]).bind fun r49=>some (r49.1,((r1.2.1,(r2.2.1,(r49.2.1,(ByteArray.empty,(0,()))))),()))) (cond (r44.2.1==5) ((aX.f k r44.1 [0,12]).bind fun r50=>some (r50.1,((r50.2.1,(r2.2.1,(ByteArray.empty,(ByteArray.empty,(0,()))))),()))) (some (r44.1,((r1.2.1,(r2.2.1,(ByteArray.empty,(ByteArray.empty,(0,()))))),()))))))))))))
def f:=t k
end gz
namespace gi
abbrev Rs:Type:=Option ((Ty.d fB) × Bool × Unit)
def t (a0:Ty.d fB) (a1:Int):Rs :=
 ((b9.f k a0 a1).bind fun r1=>some (r1.1,((r1.2.1==0),())))
def f:=t k
end gi
namespace eU
abbrev Rs:Type:=Option ((Ty.d fB) × (List (Ty.d az)) × Unit)
abbrev T0:Type:=Int→List Int→Int→Int→List (Ty.d az)→List Bool→Rs
def b0 (L0:T0):T0:=fun x0 x1 x2 x3 x4 x5 =>
 (cond (decide (x0 > 0)) ((gz.f k (x1,(x2,(x3,())))).bind fun r2=>cond (decide (r2.2.1.1≤6)) ((aR.f k r2.2.1.2.1 0 2).bind fun r3=>cond r3.1 (aw r2.2.1.2.1 (x5.length:Int) (cond (!(x5.getD r2.2.1.2.1.toNat (Ty.z .bool))) ((gi.f k r2.1 8).bind fun r4=>cond (!r4.2.1) (aw r2.2.1.2.1 (x5.length:Int) (cond (x5.getD r2.2.1.2.1.toNat (Ty.z .bool)) ((gi.f k r4.1 8).bind fun r5=>cond (!r5.2.1) (aw r2.2.1.2.1 (x5.length:Int) (let l6:=(x5.set r2.2.1.2.1.toNat false);(rm (Ty.bytes az) (x4.length+1) (L0 (aG (x0-1)) r5.1.1 r5.1.2.1 r5.1.2.2.1 (x4++[(5,(r2.2.1.2.1,(ByteArray.empty,(ByteArray.empty,(0,())))))]) l6)))) (aw r2.2.1.2.1 (x5.length:Int) (let l7:=(x5.set r2.2.1.2.1.toNat true);(rm (Ty.bytes az) (x4.length+1) (L0 (aG (x0-1)) r5.1.1 r5.1.2.1 r5.1.2.2.1 (x4++[(1,(r2.2.1.2.1,(ByteArray.empty,(ByteArray.empty,(0,())))))]) l7))))) (aw r2.2.1.2.1 (x5.length:Int) (let l8:=(x5.set r2.2.1.2.1.toNat true);(rm (Ty.bytes az) (x4.length+1) (L0 (aG (x0-1)) r4.1.1 r4.1.2.1 r4.1.2.2.1 (x4++[(1,(r2.2.1.2.1,(ByteArray.empty,(ByteArray.empty,(0,())))))]) l8)))))) (aw r2.2.1.2.1 (x5.length:Int) (cond (x5.getD r2.2.1.2.1.toNat (Ty.z .bool)) (cond (r2.2.1.1==1) ((gi.f k r4.1 8).bind fun r9=>cond (!r9.2.1) (aw r2.2.1.2.1 (x5.length:Int) (let l10:=(x5.set r2.2.1.2.1.toNat false);(rm (Ty.bytes az) (x4.length+1) (L0 (aG (x0-1)) r9.1.1 r9.1.2.1 r9.1.2.2.1 (x4++[(5,r2.2.1.2)]) l10)))) (cond (r2.2.1.1 != 5) (aw r2.2.1.2.1 (x5.length:Int) (let l11:=(x5.set r2.2.1.2.1.toNat (r2.2.1.1 != 6));(cond (r2.2.1.1==9) (vJ (Ty.bytes .bool) 3 (rm (Ty.bytes az) (x4.length+1) (rm (Ty.bytes az) (List.length (x4++[r2.2.1])+1) (L0 (aG (x0-1)) r9.1.1 r9.1.2.1 r9.1.2.2.1 ((x4++[r2.2.1])++[(10,(0,(ByteArray.empty,(ByteArray.empty,(0,())))))]) (List.replicate (Int.toNat 3) (Ty.z .bool)))))) (rm (Ty.bytes az) (x4.length+1) (L0 (aG (x0-1)) r9.1.1 r9.1.2.1 r9.1.2.2.1 (x4++[r2.2.1]) l11))))) (aw r2.2.1.2.1 (x5.length:Int) (let l12:=(x5.set r2.2.1.2.1.toNat false);(cond (r2.2.1.1==9) (vJ (Ty.bytes .bool) 3 (rm (Ty.bytes az) (x4.length+1) (rm (Ty.bytes az) (List.length (x4++[r2.2.1])+1) (L0 (aG (x0-1)) r9.1.1 r9.1.2.1 r9.1.2.2.1 ((x4++[r2.2.1])++[(10,(0,(ByteArray.empty,(ByteArray.empty,(0,())))))]) (List.replicate (Int.toNat 3) (Ty.z .bool)))))) (rm (Ty.bytes az) (x4.length+1) (L0 (aG (x0-1)) r9.1.1 r9.1.2.1 r9.1.2.2.1 (x4++[r2.2.1]) l12))))))) (cond (r2.2.1.1 != 5) (aw r2.2.1.2.1 (x5.length:Int) (let l13:=(x5.set r2.2.1.2.1.toNat (r2.2.1.1 != 6));(cond (r2.2.1.1==9) (vJ (Ty.bytes .bool) 3 (rm (Ty.bytes az) (x4.length+1) (rm (Ty.bytes az) (List.length (x4++[r2.2.1])+1) (L0 (aG (x0-1)) r4.1.1 r4.1.2.1 r4.1.2.2.1 ((x4++[r2.2.1])++[(10,(0,(ByteArray.empty,(ByteArray.empty,(0,())))))]) (List.replicate (Int.toNat 3) (Ty.z .bool)))))) (rm (Ty.bytes az) (x4.length+1) (L0 (aG (x0-1)) r4.1.1 r4.1.2.1 r4.1.2.2.1 (x4++[r2.2.1]) l13))))) (aw r2.2.1.2.1 (x5.length:Int) (let l14:=(x5.set r2.2.1.2.1.toNat false);(cond (r2.2.1.1==9) (vJ (Ty.bytes .bool) 3 (rm (Ty.bytes az) (x4.length+1) (rm (Ty.bytes az) (List.length (x4++[r2.2.1])+1) (L0 (aG (x0-1)) r4.1.1 r4.1.2.1 r4.1.2.2.1 ((x4++[r2.2.1])++[(10,(0,(ByteArray.empty,(ByteArray.empty,(0,())))))]) (List.replicate (Int.toNat 3) (Ty.z .bool)))))) (rm (Ty.bytes az) (x4.length+1) (L0 (aG (x0-1)) r4.1.1 r4.1.2.1 r4.1.2.2.1 (x4++[r2.2.1]) l14))))))) (cond (r2.2.1.1 != 5) (aw r2.2.1.2.1 (x5.length:Int) (let l15:=(x5.set r2.2.1.2.1.toNat (r2.2.1.1 != 6));(cond (r2.2.1.1==9) (vJ (Ty.bytes .bool) 3 (rm (Ty.bytes az) (x4.length+1) (rm (Ty.bytes az) (List.length (x4++[r2.2.1])+1) (L0 (aG (x0-1)) r4.1.1 r4.1.2.1 r4.1.2.2.1 ((x4++[r2.2.1])++[(10,(0,(ByteArray.empty,(ByteArray.empty,(0,())))))]) (List.replicate (Int.toNat 3) (Ty.z .bool)))))) (rm (Ty.bytes az) (x4.length+1) (L0 (aG (x0-1)) r4.1.1 r4.1.2.1 r4.1.2.2.1 (x4++[r2.2.1]) l15))))) (aw r2.2.1.2.1 (x5.length:Int) (let l16:=(x5.set r2.2.1.2.1.toNat false);(cond (r2.2.1.1==9) (vJ (Ty.bytes .bool) 3 (rm (Ty.bytes az) (x4.length+1) (rm (Ty.bytes az) (List.length (x4++[r2.2.1])+1) (L0 (aG (x0-1)) r4.1.1 r4.1.2.1 r4.1.2.2.1 ((x4++[r2.2.1])++[(10,(0,(ByteArray.empty,(ByteArray.empty,(0,())))))]) (List.replicate (Int.toNat 3) (Ty.z .bool)))))) (rm (Ty.bytes az) (x4.length+1) (L0 (aG (x0-1)) r4.1.1 r4.1.2.1 r4.1.2.2.1 (x4++[r2.2.1]) l16))))))))) (aw r2.2.1.2.1 (x5.length:Int) (cond (x5.getD r2.2.1.2.1.toNat (Ty.z .bool)) (cond (r2.2.1.1==1) ((gi.f k r2.1 8).bind fun r17=>cond (!r17.2.1) (aw r2.2.1.2.1 (x5.length:Int) (let l18:=(x5.set r2.2.1.2.1.toNat false);(rm (Ty.bytes az) (x4.length+1) (L0 (aG (x0-1)) r17.1.1 r17.1.2.1 r17.1.2.2.1 (x4++[(5,r2.2.1.2)]) l18)))) (cond (r2.2.1.1 != 5) (aw r2.2.1.2.1 (x5.length:Int) (let l19:=(x5.set r2.2.1.2.1.toNat (r2.2.1.1 != 6));(cond (r2.2.1.1==9) (vJ (Ty.bytes .bool) 3 (rm (Ty.bytes az) (x4.length+1) (rm (Ty.bytes az) (List.length (x4++[r2.2.1])+1) (L0 (aG (x0-1)) r17.1.1 r17.1.2.1 r17.1.2.2.1 ((x4++[r2.2.1])++[(10,(0,(ByteArray.empty,(ByteArray.empty,(0,())))))]) (List.replicate (Int.toNat 3) (Ty.z .bool)))))) (rm (Ty.bytes az) (x4.length+1) (L0 (aG (x0-1)) r17.1.1 r17.1.2.1 r17.1.2.2.1 (x4++[r2.2.1]) l19))))) (aw r2.2.1.2.1 (x5.length:Int) (let l20:=(x5.set r2.2.1.2.1.toNat false);(cond (r2.2.1.1==9) (vJ (Ty.bytes .bool) 3 (rm (Ty.bytes az) (x4.length+1) (rm (Ty.bytes az) (List.length (x4++[r2.2.1])+1) (L0 (aG (x0-1)) r17.1.1 r17.1.2.1 r17.1.2.2.1 ((x4++[r2.2.1])++[(10,(0,(ByteArray.empty,(ByteArray.empty,(0,())))))]) (List.replicate (Int.toNat 3) (Ty.z .bool)))))) (rm (Ty.bytes az) (x4.length+1) (L0 (aG (x0-1)) r17.1.1 r17.1.2.1 r17.1.2.2.1 (x4++[r2.2.1]) l20))))))) (cond (r2.2.1.1 != 5) (aw r2.2.1.2.1 (x5.length:Int) (let l21:=(x5.set r2.2.1.2.1.toNat (r2.2.1.1 != 6));(cond (r2.2.1.1==9) (vJ (Ty.bytes .bool) 3 (rm (Ty.bytes az) (x4.length+1) (rm (Ty.bytes az) (List.length (x4++[r2.2.1])+1) (L0 (aG (x0-1)) r2.1.1 r2.1.2.1 r2.1.2.2.1 ((x4++[r2.2.1])++[(10,(0,(ByteArray.empty,(ByteArray.empty,(0,())))))]) (List.replicate (Int.toNat 3) (Ty.z .bool)))))) (rm (Ty.bytes az) (x4.length+1) (L0 (aG (x0-1)) r2.1.1 r2.1.2.1 r2.1.2.2.1 (x4++[r2.2.1]) l21))))) (aw r2.2.1.2.1 (x5.length:Int) (let l22:=(x5.set r2.2.1.2.1.toNat false);(cond (r2.2.1.1==9) (vJ (Ty.bytes .bool) 3 (rm (Ty.bytes az) (x4.length+1) (rm (Ty.bytes az) (List.length (x4++[r2.2.1])+1) (L0 (aG (x0-1)) r2.1.1 r2.1.2.1 r2.1.2.2.1 ((x4++[r2.2.1])++[(10,(0,(ByteArray.empty,(ByteArray.empty,(0,())))))]) (List.replicate (Int.toNat 3) (Ty.z .bool)))))) (rm (Ty.bytes az) (x4.length+1) (L0 (aG (x0-1)) r2.1.1 r2.1.2.1 r2.1.2.2.1 (x4++[r2.2.1]) l22))))))) (cond (r2.2.1.1 != 5) (aw r2.2.1.2.1 (x5.length:Int) (let l23:=(x5.set r2.2.1.2.1.toNat (r2.2.1.1 != 6));(cond (r2.2.1.1==9) (vJ (Ty.bytes .bool) 3 (rm (Ty.bytes az) (x4.length+1) (rm (Ty.bytes az) (List.length (x4++[r2.2.1])+1) (L0 (aG (x0-1)) r2.1.1 r2.1.2.1 r2.1.2.2.1 ((x4++[r2.2.1])++[(10,(0,(ByteArray.empty,(ByteArray.empty,(0,())))))]) (List.replicate (Int.toNat 3) (Ty.z .bool)))))) (rm (Ty.bytes az) (x4.length+1) (L0 (aG (x0-1)) r2.1.1 r2.1.2.1 r2.1.2.2.1 (x4++[r2.2.1]) l23))))) (aw r2.2.1.2.1 (x5.length:Int) (let l24:=(x5.set r2.2.1.2.1.toNat false);(cond (r2.2.1.1==9) (vJ (Ty.bytes .bool) 3 (rm (Ty.bytes az) (x4.length+1) (rm (Ty.bytes az) (List.length (x4++[r2.2.1])+1) (L0 (aG (x0-1)) r2.1.1 r2.1.2.1 r2.1.2.2.1 ((x4++[r2.2.1])++[(10,(0,(ByteArray.empty,(ByteArray.empty,(0,())))))]) (List.replicate (Int.toNat 3) (Ty.z .bool)))))) (rm (Ty.bytes az) (x4.length+1) (L0 (aG (x0-1)) r2.1.1 r2.1.2.1 r2.1.2.2.1 (x4++[r2.2.1]) l24)))))))))) (cond (r2.2.1.1==9) (vJ (Ty.bytes .bool) 3 (rm (Ty.bytes az) (x4.length+1) (rm (Ty.bytes az) (List.length (x4++[r2.2.1])+1) (L0 (aG (x0-1)) r2.1.1 r2.1.2.1 r2.1.2.2.1 ((x4++[r2.2.1])++[(10,(0,(ByteArray.empty,(ByteArray.empty,(0,())))))]) (List.replicate (Int.toNat 3) (Ty.z .bool)))))) (rm (Ty.bytes az) (x4.length+1) (L0 (aG (x0-1)) r2.1.1 r2.1.2.1 r2.1.2.2.1 (x4++[r2.2.1]) x5)))) (cond (r2.2.1.1==9) (vJ (Ty.bytes .bool) 3 (rm (Ty.bytes az) (x4.length+1) (rm (Ty.bytes az) (List.length (x4++[r2.2.1])+1) (L0 (aG (x0-1)) r2.1.1 r2.1.2.1 r2.1.2.2.1 ((x4++[r2.2.1])++[(10,(0,(ByteArray.empty,(ByteArray.empty,(0,())))))]) (List.replicate (Int.toNat 3) (Ty.z .bool)))))) (rm (Ty.bytes az) (x4.length+1) (L0 (aG (x0-1)) r2.1.1 r2.1.2.1 r2.1.2.2.1 (x4++[r2.2.1]) x5)))) (some ((x1,(x2,(x3,()))),(x4,()))))
def l0:Nat→T0
 | 0=>fun _ _ _ _ _ _=>none
 | n+1=>b0 k (l0 n)
def t (L0:T0) (a0:Ty.d fB) (a1:Int):Rs :=
 (vJ (Ty.bytes .bool) 3 ((b9.f k a0 (aG (a1+1))).bind fun r1=>L0 r1.2.1 r1.1.1 r1.1.2.1 r1.1.2.2.1 [] (List.replicate (Int.toNat 3) (Ty.z .bool))))
def f:=t k (l0 k k)
end eU
namespace dG
abbrev Rs:Type:=Option ((Ty.d aF) × Unit)
def t (k:Nat) (a0:Ty.d aF):Rs :=
 (rm (Ty.bytes (.int .i64)) (0+List.length a0.1.2.1) (rm (Ty.bytes a_) (0+List.length a0.2.1) (some (((a0.1.1,(([]++a0.1.2.1),())),(([]++a0.2.1),a0.2.2)),()))))
def f:=t k
end dG
namespace f8
abbrev Rs:Type:=Option ((Ty.d an) × Unit)
def t (k:Nat) (a0:Ty.d an):Rs :=
 (rm (Ty.bytes bG) (0+List.length a0.2.1) (rm (Ty.bytes aY) (0+List.length a0.2.2.1) (some ((a0.1,(([]++a0.2.1),(([]++a0.2.2.1),()))),()))))
def f:=t k
end f8
namespace eo
abbrev Rs:Type:=Option ((Ty.d aV) × Unit)
abbrev T0:Type:=Int→List Int→List (Ty.d a_)→List (Ty.d aD)→Bool→Int→Int→Int→Int→Int→Int→Bool→List (Ty.d an)→List Int→List (Ty.d a_)→List (Ty.d aD)→List (Ty.d an)→Bool→Int→Int→Int→Int→Int→Int→Bool→List (Ty.d an)→Rs
def b0 (L0:T0):T0:=fun x0 x1 x2 x3 x4 x5 x6 x7 x8 x9 x10 x11 x12 x13 x14 x15 x16 x17 x18 x19 x20 x21 x22 x23 x24 x25 =>
 (cond (decide (x0<(x12.length:Int))) (aw x0 (x12.length:Int) ((f8.f k (x12.getD x0.toNat (Ty.z an))).bind fun r3=>rm (Ty.bytes an) (x25.length+1) (L0 (aG (x0+1)) x1 x2 x3 x4 x5 x6 x7 x8 x9 x10 x11 x12 x13 x14 x15 x16 x17 x18 x19 x20 x21 x22 x23 x24 (x25++[r3.1])))) (some ((x4,(((x5,(x1,())),(x2,(x6,(x7,(x8,()))))),((x3,(x9,(x10,(x11,())))),(x25,())))),())))
def l0:Nat→T0
 | 0=>fun _ _ _ _ _ _ _ _ _ _ _ _ _ _ _ _ _ _ _ _ _ _ _ _ _ _=>none
 | n+1=>b0 k (l0 n)
def t (L0:T0) (a0:Ty.d aV):Rs :=
 ((dG.f k a0.2.1).bind fun r1=>(cK.f k a0.2.2.1).bind fun r2=>L0 0 r1.1.1.2.1 r1.1.2.1 r2.1.1 a0.1 r1.1.1.1 r1.1.2.2.1 r1.1.2.2.2.1 r1.1.2.2.2.2.1 r2.1.2.1 r2.1.2.2.1 r2.1.2.2.2.1 a0.2.2.2.1 [] [] [] [] false 0 0 0 0 0 0 false [])
def f:=t k (l0 k k)
end eo
namespace jK
abbrev Rs:Type:=Option (Int × Unit)
def t (a0:Ty.d aB):Rs :=
 ((bM.f k a0).bind fun r1=>cond (!r1.1) (some (0,())) ((e_.f k a0).bind fun r2=>some r2))
def f:=t k
end jK
namespace jg
abbrev Rs:Type:=Option ((Ty.d bA) × Bool × Unit)
def t (a0:ByteArray) (a1:Int) (a2:Int):Rs :=
 ((aR.f k a1 0 (a0.size:Int)).bind fun r1=>cond (!r1.1) (some ((0,(0,(ByteArray.empty,(ByteArray.empty,(0,(0,())))))),(false,()))) ((aR.f k a2 1 (aG ((a0.size:Int)-a1))).bind fun r2=>cond (!r2.1) (some ((0,(0,(ByteArray.empty,(ByteArray.empty,(0,(0,())))))),(false,()))) (G9 a1 (aG (a1+a2)) (a0.size:Int) ((dj.f k (a0.extract a1.toNat (aG (a1+a2)).toNat)).bind fun r3=>(eH.f k r3.1).bind fun r4=>cond (r3.2.1 != a2) (some ((0,(0,(ByteArray.empty,(ByteArray.empty,(0,(0,())))))),(false,()))) (cond (!r4.2.1) (some ((0,(0,(ByteArray.empty,(ByteArray.empty,(0,(0,())))))),(false,()))) (some (r4.1,(true,()))))))))
def f:=t k
end jg
namespace cR
abbrev Rs:Type:=Option (Bool × Unit)
abbrev T1:Type:=Int→Int→List Int→List (Ty.d a_)→Int→Int→Int→List (Ty.d aD)→Int→Int→Bool→Rs
abbrev T0:Type:=Int→Int→List Int→List (Ty.d a_)→Int→Int→Int→List (Ty.d aD)→Int→Int→Bool→Rs
def b1 (L1:T1):T1:=fun x0 x1 x2 x3 x4 x5 x6 x7 x8 x9 x10 =>
 (cond (decide (x0<(x3.length:Int))) (aw x0 (x3.length:Int) ((aW.f k (x3.getD x0.toNat (Ty.z a_)).2.1).bind fun r8=>(bp.f k (x7,(x8,(x9,(x10,())))) r8.1).bind fun r9=>(jg.f k r9.1 (x3.getD x0.toNat (Ty.z a_)).2.2.1 (x3.getD x0.toNat (Ty.z a_)).2.2.2.1).bind fun r10=>cond (!r10.2.1) (some (false,())) (cond (!(seq r10.1.2.2.1 (x3.getD x0.toNat (Ty.z a_)).1)) (some (false,())) (cond (r10.1.2.1 != (x3.getD x0.toNat (Ty.z a_)).2.2.2.2.1) (some (false,())) (cond (r10.1.1 != 1) (cond (r10.1.1 != 4) (some (false,())) (cond (decide ((x3.getD x0.toNat (Ty.z a_)).2.2.2.2.1≥x4)) (some (false,())) (L1 (aG (x0+1)) x1 x2 x3 x4 x5 x6 x7 x8 x9 x10))) (cond (decide ((x3.getD x0.toNat (Ty.z a_)).2.2.2.2.1≥x4)) (some (false,())) (L1 (aG (x0+1)) x1 x2 x3 x4 x5 x6 x7 x8 x9 x10))))))) (some (true,())))
def l1:Nat→T1
 | 0=>fun _ _ _ _ _ _ _ _ _ _ _=>none
 | n+1=>b1 k (l1 n)
def b0 (L1:T1) (L0:T0):T0:=fun x0 x1 x2 x3 x4 x5 x6 x7 x8 x9 x10 =>
 (cond (decide (x0<(x2.length:Int))) (aw x0 (x2.length:Int) ((aW.f k (x2.getD x0.toNat (Ty.z (.int .i64)))).bind fun r5=>(bp.f k (x7,(x8,(x9,(x10,())))) r5.1).bind fun r6=>(ba.f k r6.1).bind fun r7=>cond (!r6.2.1) (some (false,())) (cond (decide (r7.2.1<(r6.1.size:Int))) (some (false,())) (cond ((aG (x0+1))==(x2.length:Int)) (cond (x5 != (r6.1.size:Int)) (some (false,())) (L0 (aG (x0+1)) x1 x2 x3 x4 x5 x6 x7 x8 x9 x10)) (L0 (aG (x0+1)) x1 x2 x3 x4 x5 x6 x7 x8 x9 x10))))) (L1 0 x1 x2 x3 x4 x5 x6 x7 x8 x9 x10))
def l0:Nat→T0
 | 0=>fun _ _ _ _ _ _ _ _ _ _ _=>none
 | n+1=>b0 k (l1 k k) (l0 n)
def t (L0:T0) (a0:Ty.d aF) (a1:Ty.d aB):Rs :=
 ((bM.f k a1).bind fun r1=>cond (!r1.1) (some (false,())) ((dU.f k a0.1).bind fun r2=>cond (!r2.1) (some (false,())) ((fE.f k a0.2.1).bind fun r3=>cond (!r3.1) (some (false,())) ((aR.f k a0.2.2.1 1 1000001).bind fun r4=>cond (!r4.1) (some (false,())) (L0 0 a0.1.1 a0.1.2.1 a0.2.1 a0.2.2.1 a0.2.2.2.1 a0.2.2.2.2.1 a1.1 a1.2.1 a1.2.2.1 a1.2.2.2.1)))))
def f:=t k (l0 k k)
end cR
namespace fO
abbrev Rs:Type:=Option ((Ty.d a_) × Bool × Unit)
abbrev T0:Type:=List (Ty.d a_)→ByteArray→Int→ByteArray→Int→Int→Int→Int→Rs
def b0 (k:Nat) (L0:T0):T0:=fun x0 x1 x2 x3 x4 x5 x6 x7 =>
 (cond (decide (x2<(x0.length:Int))) (aw x2 (x0.length:Int) (cond (seq (x0.getD x2.toNat (Ty.z a_)).1 x1) (aw x2 (x0.length:Int) (some ((x0.getD x2.toNat (Ty.z a_)),(true,())))) (L0 x0 x1 (aG (x2+1)) x3 x4 x5 x6 x7))) (some ((ByteArray.empty,(0,(0,(0,(0,()))))),(false,()))))
def l0:Nat→T0
 | 0=>fun _ _ _ _ _ _ _ _=>none
 | n+1=>b0 k (l0 n)
def t (k:Nat) (L0:T0) (a0:List (Ty.d a_)) (a1:ByteArray):Rs :=
 (L0 a0 a1 0 ByteArray.empty 0 0 0 0)
def f:=t k (l0 k k)
end fO
namespace lm
abbrev Rs:Type:=Option ((Ty.d aD) × Int × Unit)
def t (a0:Ty.d aF) (a1:Ty.d aB) (a2:ByteArray):Rs :=
 ((fO.f k a0.2.1 a2).bind fun r1=>cond (!r1.2.1) (some ((ByteArray.empty,(ByteArray.empty,(0,()))),(8,()))) ((aW.f k r1.1.2.1).bind fun r2=>(bp.f k a1 r2.1).bind fun r3=>(jg.f k r3.1 r1.1.2.2.1 r1.1.2.2.2.1).bind fun r4=>cond (!r3.2.1) (some ((ByteArray.empty,(ByteArray.empty,(0,()))),(3,()))) (cond (!r4.2.1) (some ((ByteArray.empty,(ByteArray.empty,(0,()))),(3,()))) (cond (!(seq r4.1.2.2.1 a2)) (some ((ByteArray.empty,(ByteArray.empty,(0,()))),(3,()))) (cond (r4.1.1 != 1) (cond (r4.1.1 != 4) (some ((ByteArray.empty,(ByteArray.empty,(0,()))),(3,()))) (some ((a2,(r4.1.2.2.2.1,(r4.1.2.1,()))),(0,())))) (some ((a2,(r4.1.2.2.2.1,(r4.1.2.1,()))),(0,()))))))))
def f:=t k
end lm
namespace iu
abbrev Rs:Type:=Option ((List (Ty.d aD)) × Int × Unit)
abbrev T0:Type:=Int→Int→List Int→List (Ty.d a_)→Int→Int→Int→List (Ty.d aD)→Int→Int→Bool→List (Ty.d aD)→Rs
def b0 (L0:T0):T0:=fun x0 x1 x2 x3 x4 x5 x6 x7 x8 x9 x10 x11 =>
 (cond (decide (x0<(x3.length:Int))) (aw x0 (x3.length:Int) ((lm.f k ((x1,(x2,())),(x3,(x4,(x5,(x6,()))))) (x7,(x8,(x9,(x10,())))) (x3.getD x0.toNat (Ty.z a_)).1).bind fun r1=>cond (r1.2.1 != 0) (some ([],r1.2)) (rm (Ty.bytes aD) (x11.length+1) (L0 (aG (x0+1)) x1 x2 x3 x4 x5 x6 x7 x8 x9 x10 (x11++[r1.1]))))) (some (x11,(0,()))))
def l0:Nat→T0
 | 0=>fun _ _ _ _ _ _ _ _ _ _ _ _=>none
 | n+1=>b0 k (l0 n)
def t (k:Nat) (L0:T0) (a0:Ty.d aF) (a1:Ty.d aB):Rs :=
 (L0 0 a0.1.1 a0.1.2.1 a0.2.1 a0.2.2.1 a0.2.2.2.1 a0.2.2.2.2.1 a1.1 a1.2.1 a1.2.2.1 a1.2.2.2.1 [])
def f:=t k (l0 k k)
end iu
namespace lY
abbrev Rs:Type:=Option ((Ty.d bA) × Unit)
def t (k:Nat) (a0:Ty.d aD):Rs :=
 (some ((4,(a0.2.2.1,(a0.1,(a0.2.1,(0,(0,())))))),()))
def f:=t k
end lY
namespace i7
abbrev Rs:Type:=Option ((Ty.d bA) × Unit)
def t (a0:List (Ty.d bA)) (a1:Int) (a2:Int):Rs :=
 ((gG.f k a0).bind fun r1=>some ((a2,(a1,(ByteArray.empty,(ByteArray.empty,((a0.length:Int),r1))))),()))
def f:=t k
end i7
namespace e6
abbrev Rs:Type:=Option ((Ty.d aB) × (List (Ty.d a_)) × Int × Unit)
abbrev T0:Type:=Int→List (Ty.d aD)→Int→Int→Int→Int→List (Ty.d aD)→Int→Int→Bool→List (Ty.d a_)→List (Ty.d aD)→Int→Int→Bool→List (Ty.d bA)→Rs
def b0 (L0:T0):T0:=fun x0 x1 x2 x3 x4 x5 x6 x7 x8 x9 x10 x11 x12 x13 x14 x15 =>
 (cond (decide (x5<(x1.length:Int))) (cond (x3==0) (aw x5 (x1.length:Int) ((lY.f k (x1.getD x5.toNat (Ty.z aD))).bind fun r3=>(cS.f k r3.1).bind fun r4=>(fb.f k r4.1).bind fun r5=>(aW.f k x0).bind fun r6=>(e9.f k (x11,(x12,(x13,(x14,())))) r6.1 r5.1).bind fun r7=>rm (Ty.bytes bA) (x15.length+1) (rm (Ty.bytes a_) (x10.length+1) (L0 x0 x1 x2 r7.2.1 (aG (x4+(r5.1.size:Int))) (aG (x5+1)) x6 x7 x8 x9 (x10++[(r3.1.2.2.1,(x0,(x4,((r5.1.size:Int),(r3.1.2.1,())))))]) r7.1.1 r7.1.2.1 r7.1.2.2.1 r7.1.2.2.2.1 (x15++[r3.1]))))) (cond (x3==0) ((aW.f k x0).bind fun r8=>(i7.f k x15 x2 5).bind fun r9=>(cS.f k r9.1).bind fun r10=>(fb.f k r10.1).bind fun r11=>(e9.f k (x11,(x12,(x13,(x14,())))) r8.1 r11.1).bind fun r12=>cond (r12.2.1==0) ((aW.f k x0).bind fun r13=>(eW.f k r12.1 r13.1).bind fun r14=>(aT.f k r14.2.1).bind fun r15=>some (r14.1,(x10,r15))) ((aT.f k r12.2.1).bind fun r16=>some (r12.1,(x10,r16)))) (cond (x3==0) ((aW.f k x0).bind fun r17=>(eW.f k (x11,(x12,(x13,(x14,())))) r17.1).bind fun r18=>(aT.f k r18.2.1).bind fun r19=>some (r18.1,(x10,r19))) ((aT.f k x3).bind fun r20=>some ((x11,(x12,(x13,(x14,())))),(x10,r20)))))) (cond (x3==0) ((aW.f k x0).bind fun r21=>(i7.f k x15 x2 5).bind fun r22=>(cS.f k r22.1).bind fun r23=>(fb.f k r23.1).bind fun r24=>(e9.f k (x11,(x12,(x13,(x14,())))) r21.1 r24.1).bind fun r25=>cond (r25.2.1==0) ((aW.f k x0).bind fun r26=>(eW.f k r25.1 r26.1).bind fun r27=>(aT.f k r27.2.1).bind fun r28=>some (r27.1,(x10,r28))) ((aT.f k r25.2.1).bind fun r29=>some (r25.1,(x10,r29)))) (cond (x3==0) ((aW.f k x0).bind fun r30=>(eW.f k (x11,(x12,(x13,(x14,())))) r30.1).bind fun r31=>(aT.f k r31.2.1).bind fun r32=>some (r31.1,(x10,r32))) ((aT.f k x3).bind fun r33=>some ((x11,(x12,(x13,(x14,())))),(x10,r33))))))
def l0:Nat→T0
 | 0=>fun _ _ _ _ _ _ _ _ _ _ _ _ _ _ _ _=>none
 | n+1=>b0 k (l0 n)
def t (L0:T0) (a0:Ty.d aB) (a1:Int) (a2:List (Ty.d aD)) (a3:Int):Rs :=
 ((aW.f k a1).bind fun r1=>(e7.f k a0 r1.1).bind fun r2=>L0 a1 a2 a3 r2.2.1 0 0 [] 0 0 false [] r2.1.1 r2.1.2.1 r2.1.2.2.1 r2.1.2.2.2.1 [])
def f:=t k (l0 k k)
end e6
namespace cD
abbrev Rs:Type:=Option ((Ty.d aB) × Int × Unit)
abbrev T0:Type:=List ByteArray→Int→List (Ty.d aD)→Int→Int→Bool→List (Ty.d aD)→Int→Int→Bool→Rs
def b0 (L0:T0):T0:=fun x0 x1 x2 x3 x4 x5 x6 x7 x8 x9 =>
 (cond (decide (x1<(x0.length:Int))) (aw x1 (x0.length:Int) ((bJ.f k (x2,(x3,(x4,(x5,())))) (x0.getD x1.toNat (Ty.z .str))).bind fun r1=>cond (decide (r1.1<0)) (L0 x0 (aG (x1+1)) x2 x3 x4 x5 x6 x7 x8 x9) (aw x1 (x0.length:Int) ((fI.f k (x2,(x3,(x4,(x5,())))) (x0.getD x1.toNat (Ty.z .str))).bind fun r2=>cond (r2.2.1 != 0) (some r2) (L0 x0 (aG (x1+1)) r2.1.1 r2.1.2.1 r2.1.2.2.1 r2.1.2.2.2.1 x6 x7 x8 x9))))) (some ((x2,(x3,(x4,(x5,())))),(0,()))))
def l0:Nat→T0
 | 0=>fun _ _ _ _ _ _ _ _ _ _=>none
 | n+1=>b0 k (l0 n)
def t (k:Nat) (L0:T0) (a0:Ty.d aB) (a1:List ByteArray):Rs :=
 (L0 a1 0 a0.1 a0.2.1 a0.2.2.1 a0.2.2.2.1 [] 0 0 false)
def f:=t k (l0 k k)
end cD
namespace du
abbrev Rs:Type:=Option ((Ty.d aF) × (Ty.d aB) × Int × Unit)
def t (a0:Ty.d aF) (a1:Ty.d aB) (a2:Int) (a3:Int):Rs :=
 (cond (a3 != 2) (some (a0,(a1,(a3,())))) ((aW.f k a2).bind fun r1=>(aW.f k (aG (a2+1))).bind fun r2=>(d9.f k a2).bind fun r3=>(cD.f k a1 [(⟨#[116,101,109,112]⟩:ByteArray),r1.1,r2.1,r3.1]).bind fun r4=>cond (r4.2.1 != 0) ((aT.f k r4.2.1).bind fun r5=>some (a0,(r4.1,r5))) (some (a0,(r4.1,(a3,()))))))
def f:=t k
end du
namespace c_
abbrev Rs:Type:=Option ((Ty.d aF) × (Ty.d aB) × Int × Unit)
abbrev T0:Type:=Int→List Int→List (Ty.d a_)→Int→Int→Int→Int→List Int→List (Ty.d a_)→Int→Int→Int→Int→List (Ty.d aD)→Int→Int→Bool→List (Ty.d aD)→Int→Int→Bool→List Int→Rs
def b0 (L0:T0):T0:=fun x0 x1 x2 x3 x4 x5 x6 x7 x8 x9 x10 x11 x12 x13 x14 x15 x16 x17 x18 x19 x20 x21 =>
 (cond (decide (x0<(x21.length:Int))) (aw x0 (x21.length:Int) ((aW.f k (x21.getD x0.toNat (Ty.z (.int .i64)))).bind fun r18=>aw x0 (x21.length:Int) ((d9.f k (x21.getD x0.toNat (Ty.z (.int .i64)))).bind fun r19=>(cD.f k (x17,(x18,(x19,(x20,())))) [r18.1,r19.1]).bind fun r20=>cond (r20.2.1 != 0) ((aT.f k r20.2.1).bind fun r21=>some (((x3,(x1,())),(x2,(x4,(x5,(x6,()))))),(r20.1,r21))) (L0 (aG (x0+1)) x1 x2 x3 x4 x5 x6 x7 x8 x9 x10 x11 x12 x13 x14 x15 x16 r20.1.1 r20.1.2.1 r20.1.2.2.1 r20.1.2.2.2.1 x21)))) (some (((x3,(x1,())),(x2,(x4,(x5,(x6,()))))),((x17,(x18,(x19,(x20,())))),(0,())))))
def l0:Nat→T0
 | 0=>fun _ _ _ _ _ _ _ _ _ _ _ _ _ _ _ _ _ _ _ _ _ _=>none
 | n+1=>b0 k (l0 n)
def t (L0:T0) (a0:Ty.d aF) (a1:Ty.d aB) (a2:List (Ty.d aD)):Rs :=
 ((e6.f k a1 a0.1.1 a2 (aG (a0.2.2.1-1))).bind fun r1=>cond (r1.2.2.1 != 0) ((du.f k (((aG (a0.1.1+2)),a0.1.2),a0.2) r1.1 a0.1.1 r1.2.2.1).bind fun r2=>some r2) ((aW.f k (aG (a0.1.1+1))).bind fun r3=>(e7.f k r1.1 r3.1).bind fun r4=>cond (r4.2.1 != 0) ((aT.f k r4.2.1).bind fun r5=>(du.f k (((aG (a0.1.1+2)),a0.1.2),a0.2) r4.1 a0.1.1 r5.1).bind fun r6=>some r6) ((aW.f k a0.1.1).bind fun r7=>(bp.f k r4.1 r7.1).bind fun r8=>(eG.f k a0.1.1 r8.1).bind fun r9=>(d9.f k a0.1.1).bind fun r10=>(db.f k r9.1).bind fun r11=>(hO.f k r4.1 r10.1 r11.1).bind fun r12=>cond (r12.2.1==2) ((d9.f k a0.1.1).bind fun r13=>(cD.f k r12.1 [r13.1]).bind fun r14=>cond (r14.2.1 != 0) ((aT.f k r14.2.1).bind fun r15=>some ((((aG (a0.1.1+2)),a0.1.2),a0.2),(r14.1,r15))) (rm (Ty.bytes (.int .i64)) (0+List.length a0.1.2.1) ((eu.f k r14.1 ((aG (a0.1.1+2)),([a0.1.1,(aG (a0.1.1+1))],()))).bind fun r16=>cond (r16.2.1 != 0) ((du.f k (((aG (a0.1.1+2)),a0.1.2),a0.2) r16.1 a0.1.1 r16.2.1).bind fun r17=>some r17) (L0 0 [a0.1.1,(aG (a0.1.1+1))] r1.2.1 (aG (a0.1.1+2)) a0.2.2.1 0 0 [] [] 0 0 0 0 [] 0 0 false r16.1.1 r16.1.2.1 r16.1.2.2.1 r16.1.2.2.2.1 ([]++a0.1.2.1))))) (cond (r12.2.1 != 0) ((aT.f k r12.2.1).bind fun r22=>some ((((aG (a0.1.1+2)),a0.1.2),a0.2),(r12.1,r22))) (rm (Ty.bytes (.int .i64)) (0+List.length a0.1.2.1) ((eu.f k r12.1 ((aG (a0.1.1+2)),([a0.1.1,(aG (a0.1.1+1))],()))).bind fun r23=>cond (r23.2.1 != 0) ((du.f k (((aG (a0.1.1+2)),a0.1.2),a0.2) r23.1 a0.1.1 r23.2.1).bind fun r24=>some r24) (L0 0 [a0.1.1,(aG (a0.1.1+1))] r1.2.1 (aG (a0.1.1+2)) a0.2.2.1 0 0 [] [] 0 0 0 0 [] 0 0 false r23.1.1 r23.1.2.1 r23.1.2.2.1 r23.1.2.2.2.1 ([]++a0.1.2.1))))))))
def f:=t k (l0 k k)
end c_
namespace l9
abbrev Rs:Type:=Option ((Ty.d aF) × (Ty.d aB) × Int × Unit)
def t (a0:Ty.d aF) (a1:Ty.d aB):Rs :=
 ((dG.f k a0).bind fun r1=>(cK.f k a1).bind fun r2=>(cR.f k a0 a1).bind fun r3=>cond (!r3.1) (some (r1.1,(r2.1,(4,())))) (cond (decide ((aG (a0.1.1+2)) > 100000)) (some (r1.1,(r2.1,(5,())))) ((iu.f k a0 a1).bind fun r4=>cond (r4.2.1 != 0) (some (r1.1,(r2.1,r4.2))) ((c_.f k r1.1 r2.1 r4.1).bind fun r5=>some r5))))
def f:=t k
end l9
namespace cT
abbrev Rs:Type:=Option ((List ByteArray) × Unit)
abbrev T0:Type:=List (Ty.d a_)→Int→List ByteArray→Rs
def b0 (k:Nat) (L0:T0):T0:=fun x0 x1 x2 =>
 (cond (decide (x1<(x0.length:Int))) (aw x1 (x0.length:Int) (rm (Ty.bytes .str) (x2.length+1) (L0 x0 (aG (x1+1)) (x2++[(x0.getD x1.toNat (Ty.z a_)).1])))) (some (x2,())))
def l0:Nat→T0
 | 0=>fun _ _ _=>none
 | n+1=>b0 k (l0 n)
def t (k:Nat) (L0:T0) (a0:List (Ty.d a_)):Rs :=
 (L0 a0 0 [])
def f:=t k (l0 k k)
end cT
namespace bR
abbrev Rs:Type:=Option ((Ty.d aY) × Bool × Unit)
abbrev T0:Type:=ByteArray→Int→Bool→List (Ty.d bG)→List (Ty.d aY)→ByteArray→Bool→ByteArray→Rs
def b0 (k:Nat) (L0:T0):T0:=fun x0 x1 x2 x3 x4 x5 x6 x7 =>
 (cond (decide (x1≥0)) (aw x1 (x4.length:Int) (cond (seq (x4.getD x1.toNat (Ty.z aY)).1 x0) (aw x1 (x4.length:Int) (some ((x4.getD x1.toNat (Ty.z aY)),(true,())))) (L0 x0 (aG (x1-1)) x2 x3 x4 x5 x6 x7))) (some ((ByteArray.empty,(false,(ByteArray.empty,()))),(false,()))))
def l0:Nat→T0
 | 0=>fun _ _ _ _ _ _ _ _=>none
 | n+1=>b0 k (l0 n)
def t (k:Nat) (L0:T0) (a0:Ty.d an) (a1:ByteArray):Rs :=
 (L0 a1 (aG ((a0.2.2.1.length:Int)-1)) a0.1 a0.2.1 a0.2.2.1 ByteArray.empty false ByteArray.empty)
def f:=t k (l0 k k)
end bR
namespace cP
abbrev Rs:Type:=Option ((Ty.d an) × Int × Unit)
abbrev T0:Type:=ByteArray→Int→Int→Bool→List (Ty.d bG)→List (Ty.d aY)→List (Ty.d bG)→List (Ty.d aY)→Bool→List (Ty.d bG)→List (Ty.d aY)→Bool→Rs
def b0 (k:Nat) (L0:T0):T0:=fun x0 x1 x2 x3 x4 x5 x6 x7 x8 x9 x10 x11 =>
 (cond (decide (x2<(x4.length:Int))) (aw x2 (x4.length:Int) (cond (seq (x4.getD x2.toNat (Ty.z bG)).1 x0) (aw x2 (x4.length:Int) (cond ((x4.getD x2.toNat (Ty.z bG)).2.1 != x1) (some ((x11,(x9,(x10,()))),(7,()))) (some ((x11,(x9,(x10,()))),(0,()))))) (L0 x0 x1 (aG (x2+1)) x3 x4 x5 x6 x7 x8 x9 x10 x11))) (cond (decide ((x4.length:Int)≥20)) (some ((x11,(x9,(x10,()))),(5,()))) (rm (Ty.bytes bG) (x9.length+1) (some ((x11,((x9++[(x0,(x1,()))]),(x10,()))),(0,()))))))
def l0:Nat→T0
 | 0=>fun _ _ _ _ _ _ _ _ _ _ _ _=>none
 | n+1=>b0 k (l0 n)
def t (L0:T0) (a0:Ty.d an) (a1:ByteArray) (a2:Int):Rs :=
 ((f8.f k a0).bind fun r1=>cond (!a0.1) (some (r1.1,(4,()))) ((cj.f k a1).bind fun r2=>cond (!r2.1) (some (r1.1,(4,()))) (L0 a1 a2 0 a0.1 a0.2.1 a0.2.2.1 [] [] false r1.1.2.1 r1.1.2.2.1 r1.1.1)))
def f:=t k (l0 k k)
end cP
namespace dO
abbrev Rs:Type:=Option ((Ty.d aV) × (Ty.d bz) × Unit)
def t (a0:Ty.d aV) (a1:Ty.d az):Rs :=
 (aw a1.2.1 (a0.2.2.2.1.length:Int) ((cj.f k a1.2.2.1).bind fun r1=>cond (!r1.1) (some (a0,((4,(ByteArray.empty,([],()))),()))) ((bR.f k (a0.2.2.2.1.getD a1.2.1.toNat (Ty.z an)) a1.2.2.1).bind fun r2=>cond r2.2.1 (cond r2.1.2.1 (some (a0,((8,(ByteArray.empty,([],()))),()))) (some (a0,((0,(r2.1.2.2.1,([],()))),())))) ((lm.f k a0.2.1 a0.2.2.1 a1.2.2.1).bind fun r3=>cond (r3.2.1==3) (some (a0,((r3.2.1,(ByteArray.empty,([],()))),()))) ((cP.f k (a0.2.2.2.1.getD a1.2.1.toNat (Ty.z an)) a1.2.2.1 r3.1.2.2.1).bind fun r4=>cond (r4.2.1 != 0) (some (a0,((r4.2.1,(ByteArray.empty,([],()))),()))) (aw a1.2.1 (a0.2.2.2.1.length:Int) (let l5:=(a0.2.2.2.1.set a1.2.1.toNat r4.1);(some ((a0.1,(a0.2.1,(a0.2.2.1,(l5,())))),((r3.2.1,(r3.1.2.1,([],()))),()))))))))))
def f:=t k
end dO
namespace da
abbrev Rs:Type:=Option (Bool × Unit)
abbrev T0:Type:=List (Ty.d a_)→Int→Bool→List (Ty.d bG)→List (Ty.d aY)→Rs
def b0 (L0:T0):T0:=fun x0 x1 x2 x3 x4 =>
 (cond (decide (x1<(x3.length:Int))) (aw x1 (x3.length:Int) ((fO.f k x0 (x3.getD x1.toNat (Ty.z bG)).1).bind fun r1=>aw x1 (x3.length:Int) (cond (r1.1.2.2.2.2.1 != (x3.getD x1.toNat (Ty.z bG)).2.1) (some (false,())) (L0 x0 (aG (x1+1)) x2 x3 x4)))) (some (true,())))
def l0:Nat→T0
 | 0=>fun _ _ _ _ _=>none
 | n+1=>b0 k (l0 n)
def t (k:Nat) (L0:T0) (a0:Ty.d an) (a1:List (Ty.d a_)):Rs :=
 (L0 a1 0 a0.1 a0.2.1 a0.2.2.1)
def f:=t k (l0 k k)
end da
namespace aa
abbrev Rs:Type:=Option ((List (Ty.d aY)) × Unit)
abbrev T1:Type:=Int→Bool→Int→Bool→List (Ty.d bG)→List (Ty.d aY)→List (Ty.d aY)→Rs
abbrev T0:Type:=Int→Bool→List (Ty.d bG)→List (Ty.d aY)→List (Ty.d aY)→Rs
def b1 (L0:T0) (L1:T1):T1:=fun x0 x1 x2 x3 x4 x5 x6 =>
 (cond (decide (x2<x0)) (cond x1 (aw x2 (x5.length:Int) (aw x0 (x5.length:Int) (L1 x0 (!(seq (x5.getD x2.toNat (Ty.z aY)).1 (x5.getD x0.toNat (Ty.z aY)).1)) (aG (x2+1)) x3 x4 x5 x6))) (L1 x0 false (aG (x2+1)) x3 x4 x5 x6)) (cond x1 (aw x0 (x5.length:Int) ((bR.f k (x3,(x4,(x5,()))) (x5.getD x0.toNat (Ty.z aY)).1).bind fun r1=>rm (Ty.bytes aY) (x6.length+1) (L0 (aG (x0+1)) x3 x4 x5 (x6++[r1.1])))) (L0 (aG (x0+1)) x3 x4 x5 x6)))
def l1 (L0:T0):Nat→T1
 | 0=>fun _ _ _ _ _ _ _=>none
 | n+1=>b1 k L0 (l1 L0 n)
def b0 (k:Nat) (L1:T1) (L0:T0):T0:=fun x0 x1 x2 x3 x4 =>
 (cond (decide (x0<(x3.length:Int))) (L1 x0 true 0 x1 x2 x3 x4) (some (x4,())))
def l0:Nat→T0
 | 0=>fun _ _ _ _ _=>none
 | n+1=>b0 k (l1 k (l0 n) k) (l0 n)
def t (k:Nat) (L0:T0) (a0:Ty.d an):Rs :=
 (L0 0 a0.1 a0.2.1 a0.2.2.1 [])
def f:=t k (l0 k k)
end aa
namespace cG
abbrev Rs:Type:=Option (Bool × Unit)
abbrev T0:Type:=List (Ty.d aY)→Int→Rs
def b0 (L0:T0):T0:=fun x0 x1 =>
 (cond (decide (x1<(x0.length:Int))) (aw x1 (x0.length:Int) ((cj.f k (x0.getD x1.toNat (Ty.z aY)).1).bind fun r1=>cond (!r1.1) (some (false,())) (aw x1 (x0.length:Int) (cond (decide ((ByteArray.size (x0.getD x1.toNat (Ty.z aY)).2.2.1:Int) > 24)) (some (false,())) (aw x1 (x0.length:Int) (cond (x0.getD x1.toNat (Ty.z aY)).2.1 (aw x1 (x0.length:Int) (cond (!(seq (x0.getD x1.toNat (Ty.z aY)).2.2.1 (⟨#[]⟩:ByteArray))) (some (false,())) (L0 x0 (aG (x1+1))))) (L0 x0 (aG (x1+1))))))))) (some (true,())))
def l0:Nat→T0
 | 0=>fun _ _=>none
 | n+1=>b0 k (l0 n)
def t (k:Nat) (L0:T0) (a0:List (Ty.d aY)):Rs :=
 (cond (decide ((a0.length:Int) > 8)) (some (false,())) (L0 a0 0))
def f:=t k (l0 k k)
end cG
namespace dQ
abbrev Rs:Type:=Option (Int × Unit)
abbrev T1:Type:=List (Ty.d aY)→Int→List (Ty.d a_)→Rs
abbrev T0:Type:=List (Ty.d a_)→List (Ty.d aY)→Int→Rs
def b1 (L1:T1):T1:=fun x0 x1 x2 =>
 (cond (decide (x1<(x0.length:Int))) (aw x1 (x0.length:Int) (cond (x0.getD x1.toNat (Ty.z aY)).2.1 (aw x1 (x0.length:Int) ((dH.f k x2 (x0.getD x1.toNat (Ty.z aY)).1).bind fun r2=>L1 x0 (aG (x1+1)) r2.1)) (aw x1 (x0.length:Int) ((cH.f k x2 ((x0.getD x1.toNat (Ty.z aY)).1,(0,(0,(0,(0,())))))).bind fun r3=>L1 x0 (aG (x1+1)) r3.1)))) (some ((x2.length:Int),())))
def l1:Nat→T1
 | 0=>fun _ _ _=>none
 | n+1=>b1 k (l1 n)
def b0 (L1:T1):T0:=fun x0 x1 x2 =>
 (cond (decide (x2<(x1.length:Int))) (aw x2 (x1.length:Int) (cond (x1.getD x2.toNat (Ty.z aY)).2.1 (aw x2 (x1.length:Int) ((dH.f k x0 (x1.getD x2.toNat (Ty.z aY)).1).bind fun r1=>L1 x1 (aG (x2+1)) r1.1)) (aw x2 (x1.length:Int) ((cH.f k x0 ((x1.getD x2.toNat (Ty.z aY)).1,(0,(0,(0,(0,())))))).bind fun r4=>L1 x1 (aG (x2+1)) r4.1)))) (some ((x0.length:Int),())))
def l0:Nat→T0
 | 0=>fun _ _ _=>none
 | n+1=>b0 k (l1 k n)
def t (k:Nat) (L0:T0) (a0:List (Ty.d a_)) (a1:List (Ty.d aY)):Rs :=
 (L0 a0 a1 0)
def f:=t k (l0 k k)
end dQ
namespace dC
abbrev Rs:Type:=Option (ByteArray × Unit)
def t (a0:Ty.d aF):Rs :=
 (aw (aG ((a0.1.2.1.length:Int)-1)) (a0.1.2.1.length:Int) ((aW.f k (a0.1.2.1.getD (aG ((a0.1.2.1.length:Int)-1)).toNat (Ty.z (.int .i64)))).bind fun r1=>some r1))
def f:=t k
end dC
namespace fi
abbrev Rs:Type:=Option ((Ty.d aF) × (Ty.d aB) × Int × Unit)
def t (a0:Ty.d aF) (a1:Ty.d aB):Rs :=
 (cond (decide ((a0.1.2.1.length:Int)≥60)) (some (a0,(a1,(5,())))) (cond (decide (a0.1.1≥100000)) (some (a0,(a1,(5,())))) ((dC.f k a0).bind fun r1=>(eW.f k a1 r1.1).bind fun r2=>cond (r2.2.1 != 0) ((aT.f k r2.2.1).bind fun r3=>some (a0,(r2.1,r3))) ((aW.f k a0.1.1).bind fun r4=>(e7.f k r2.1 r4.1).bind fun r5=>cond (r5.2.1 != 0) ((aT.f k r5.2.1).bind fun r6=>some ((((aG (a0.1.1+1)),a0.1.2),a0.2),(r5.1,r6))) (rm (Ty.bytes (.int .i64)) (0+List.length a0.1.2.1) (rm (Ty.bytes (.int .i64)) (List.length ([]++a0.1.2.1)+1) ((eu.f k r5.1 ((aG (a0.1.1+1)),((([]++a0.1.2.1)++[a0.1.1]),()))).bind fun r7=>cond (r7.2.1==2) ((aW.f k a0.1.1).bind fun r8=>(cD.f k r7.1 [(⟨#[116,101,109,112]⟩:ByteArray),r8.1]).bind fun r9=>cond (r9.2.1 != 0) ((aT.f k r9.2.1).bind fun r10=>some ((((aG (a0.1.1+1)),a0.1.2),a0.2),(r9.1,r10))) (some ((((aG (a0.1.1+1)),a0.1.2),a0.2),(r9.1,r7.2)))) (cond (r7.2.1 != 0) (some ((((aG (a0.1.1+1)),a0.1.2),a0.2),r7)) (some ((((aG (a0.1.1+1)),((([]++a0.1.2.1)++[a0.1.1]),())),(a0.2.1,(a0.2.2.1,(0,a0.2.2.2.2)))),(r7.1,(0,()))))))))))))
def f:=t k
end fi
namespace eS
abbrev Rs:Type:=Option ((Ty.d aF) × (Ty.d aB) × (Ty.d aC) × Int × Unit)
def t (a0:Ty.d aF) (a1:Ty.d aB) (a2:Ty.d bA):Rs :=
 ((cS.f k a2).bind fun r1=>(fb.f k r1.1).bind fun r2=>cond (decide (a0.2.2.2.1 > 0)) (cond (decide ((aG (a0.2.2.2.1+(r2.1.size:Int))) > 200)) ((fi.f k a0 a1).bind fun r3=>cond (r3.2.2.1 != 0) (some (r3.1,(r3.2.1,((0,(0,(0,((0,(0,(ByteArray.empty,(ByteArray.empty,(0,(0,())))))),())))),r3.2.2)))) ((dC.f k r3.1).bind fun r4=>(e9.f k r3.2.1 r4.1 r2.1).bind fun r5=>cond (r5.2.1 != 0) ((aT.f k r5.2.1).bind fun r6=>some (r3.1,(r5.1,((0,(0,(0,((0,(0,(ByteArray.empty,(ByteArray.empty,(0,(0,())))))),())))),r6)))) (aw (aG ((r3.1.1.2.1.length:Int)-1)) (r3.1.1.2.1.length:Int) (some ((r3.1.1,(r3.1.2.1,(r3.1.2.2.1,((aG (r3.1.2.2.2.1+(r2.1.size:Int))),r3.1.2.2.2.2)))),(r5.1,(((r3.1.1.2.1.getD (aG ((r3.1.1.2.1.length:Int)-1)).toNat (Ty.z (.int .i64))),(r3.1.2.2.2.1,((r2.1.size:Int),(a2,())))),(0,())))))))) ((dC.f k a0).bind fun r7=>(e9.f k a1 r7.1 r2.1).bind fun r8=>cond (r8.2.1 != 0) ((aT.f k r8.2.1).bind fun r9=>some (a0,(r8.1,((0,(0,(0,((0,(0,(ByteArray.empty,(ByteArray.empty,(0,(0,())))))),())))),r9)))) (aw (aG ((a0.1.2.1.length:Int)-1)) (a0.1.2.1.length:Int) (some ((a0.1,(a0.2.1,(a0.2.2.1,((aG (a0.2.2.2.1+(r2.1.size:Int))),a0.2.2.2.2)))),(r8.1,(((a0.1.2.1.getD (aG ((a0.1.2.1.length:Int)-1)).toNat (Ty.z (.int .i64))),(a0.2.2.2.1,((r2.1.size:Int),(a2,())))),(0,())))))))) ((dC.f k a0).bind fun r10=>(e9.f k a1 r10.1 r2.1).bind fun r11=>cond (r11.2.1 != 0) ((aT.f k r11.2.1).bind fun r12=>some (a0,(r11.1,((0,(0,(0,((0,(0,(ByteArray.empty,(ByteArray.empty,(0,(0,())))))),())))),r12)))) (aw (aG ((a0.1.2.1.length:Int)-1)) (a0.1.2.1.length:Int) (some ((a0.1,(a0.2.1,(a0.2.2.1,((aG (a0.2.2.2.1+(r2.1.size:Int))),a0.2.2.2.2)))),(r11.1,(((a0.1.2.1.getD (aG ((a0.1.2.1.length:Int)-1)).toNat (Ty.z (.int .i64))),(a0.2.2.2.1,((r2.1.size:Int),(a2,())))),(0,()))))))))
def f:=t k
end eS
namespace bY
abbrev Rs:Type:=Option ((Ty.d aF) × (Ty.d aB) × Int × Unit)
abbrev T0:Type:=Int→Int→List (Ty.d aY)→List Int→List (Ty.d a_)→Int→Int→Int→Int→List (Ty.d aD)→Int→Int→Bool→List Int→List (Ty.d a_)→Int→Int→Int→Int→List (Ty.d aD)→Int→Int→Bool→List (Ty.d bA)→List (Ty.d a_)→Rs
def b0 (L0:T0):T0:=fun x0 x1 x2 x3 x4 x5 x6 x7 x8 x9 x10 x11 x12 x13 x14 x15 x16 x17 x18 x19 x20 x21 x22 x23 x24 =>
 (cond (decide (x1<(x2.length:Int))) (aw x1 (x2.length:Int) (aw x1 (x2.length:Int) (aw x1 (x2.length:Int) (cond (x2.getD x1.toNat (Ty.z aY)).2.1 ((eS.f k ((x5,(x3,())),(x4,(x6,(x7,(x8,()))))) (x9,(x10,(x11,(x12,())))) (2,(x0,((x2.getD x1.toNat (Ty.z aY)).1,((x2.getD x1.toNat (Ty.z aY)).2.2.1,(0,(0,()))))))).bind fun r1=>cond (r1.2.2.2.1 != 0) (some (r1.1,(r1.2.1,r1.2.2.2))) ((iO.f k x24 r1.2.2.1).bind fun r2=>rm (Ty.bytes bA) (x23.length+1) (L0 x0 (aG (x1+1)) x2 r1.1.1.2.1 r1.1.2.1 r1.1.1.1 r1.1.2.2.1 r1.1.2.2.2.1 r1.1.2.2.2.2.1 r1.2.1.1 r1.2.1.2.1 r1.2.1.2.2.1 r1.2.1.2.2.2.1 x13 x14 x15 x16 x17 x18 x19 x20 x21 x22 (x23++[(2,(x0,((x2.getD x1.toNat (Ty.z aY)).1,((x2.getD x1.toNat (Ty.z aY)).2.2.1,(0,(0,()))))))]) r2.1))) ((eS.f k ((x5,(x3,())),(x4,(x6,(x7,(x8,()))))) (x9,(x10,(x11,(x12,())))) (1,(x0,((x2.getD x1.toNat (Ty.z aY)).1,((x2.getD x1.toNat (Ty.z aY)).2.2.1,(0,(0,()))))))).bind fun r3=>cond (r3.2.2.2.1 != 0) (some (r3.1,(r3.2.1,r3.2.2.2))) ((iO.f k x24 r3.2.2.1).bind fun r4=>rm (Ty.bytes bA) (x23.length+1) (L0 x0 (aG (x1+1)) x2 r3.1.1.2.1 r3.1.2.1 r3.1.1.1 r3.1.2.2.1 r3.1.2.2.2.1 r3.1.2.2.2.2.1 r3.2.1.1 r3.2.1.2.1 r3.2.1.2.2.1 r3.2.1.2.2.2.1 x13 x14 x15 x16 x17 x18 x19 x20 x21 x22 (x23++[(1,(x0,((x2.getD x1.toNat (Ty.z aY)).1,((x2.getD x1.toNat (Ty.z aY)).2.2.1,(0,(0,()))))))]) r4.1))))))) ((i7.f k x23 x0 3).bind fun r5=>(eS.f k ((x5,(x3,())),(x4,(x6,(x7,(x8,()))))) (x9,(x10,(x11,(x12,())))) r5.1).bind fun r6=>cond (r6.2.2.2.1 != 0) (some (r6.1,(r6.2.1,r6.2.2.2))) ((dC.f k r6.1).bind fun r7=>(eW.f k r6.2.1 r7.1).bind fun r8=>cond (r8.2.1 != 0) ((aT.f k r8.2.1).bind fun r9=>some (r6.1,(r8.1,r9))) (some ((r6.1.1,(x24,r6.1.2.2)),(r8.1,(0,())))))))
def l0:Nat→T0
 | 0=>fun _ _ _ _ _ _ _ _ _ _ _ _ _ _ _ _ _ _ _ _ _ _ _ _ _=>none
 | n+1=>b0 k (l0 n)
def t (k:Nat) (L0:T0) (a0:Ty.d aF) (a1:Ty.d aB) (a2:List (Ty.d aY)):Rs :=
 (rm (Ty.bytes a_) (0+List.length a0.2.1) (L0 a0.2.2.1 0 a2 a0.1.2.1 a0.2.1 a0.1.1 (aG (a0.2.2.1+1)) a0.2.2.2.1 a0.2.2.2.2.1 a1.1 a1.2.1 a1.2.2.1 a1.2.2.2.1 [] [] 0 0 0 0 [] 0 0 false [] ([]++a0.2.1)))
def f:=t k (l0 k k)
end bY
namespace i8
abbrev Rs:Type:=Option ((Ty.d aF) × (Ty.d aB) × Int × Unit)
def t (a0:Ty.d aF) (a1:Ty.d aB) (a2:List (Ty.d aY)):Rs :=
 ((dG.f k a0).bind fun r1=>(cK.f k a1).bind fun r2=>(cR.f k a0 a1).bind fun r3=>cond (!r3.1) (some (r1.1,(r2.1,(4,())))) ((cG.f k a2).bind fun r4=>cond (!r4.1) (some (r1.1,(r2.1,(4,())))) (cond ((a2.length:Int)==0) (some (r1.1,(r2.1,(0,())))) ((dQ.f k a0.2.1 a2).bind fun r5=>cond (decide (r5.1 > 20)) (some (r1.1,(r2.1,(5,())))) (cond (decide (a0.2.2.1 > 1000000)) (some (r1.1,(r2.1,(5,())))) ((bY.f k r1.1 r2.1 a2).bind fun r6=>some r6))))))
def f:=t k
end i8
namespace bv
abbrev Rs:Type:=Option ((Ty.d aV) × (Ty.d bz) × Unit)
def t (a0:Ty.d aV) (a1:Ty.d az):Rs :=
 (aw a1.2.1 (a0.2.2.2.1.length:Int) (aw a1.2.1 (a0.2.2.2.1.length:Int) (let l1:=(a0.2.2.2.1.set a1.2.1.toNat (false,([],([],()))));((da.f k (a0.2.2.2.1.getD a1.2.1.toNat (Ty.z an)) a0.2.1.2.1).bind fun r2=>cond (!r2.1) (some ((a0.1,(a0.2.1,(a0.2.2.1,(l1,())))),((7,(ByteArray.empty,([],()))),()))) ((aa.f k (a0.2.2.2.1.getD a1.2.1.toNat (Ty.z an))).bind fun r3=>(i8.f k a0.2.1 a0.2.2.1 r3.1).bind fun r4=>some ((a0.1,(r4.1,(r4.2.1,(l1,())))),((r4.2.2.1,(ByteArray.empty,([],()))),())))))))
def f:=t k
end bv
namespace dN
abbrev Rs:Type:=Option ((Ty.d an) × Bool × Unit)
def t (a0:Ty.d an) (a1:Ty.d aY):Rs :=
 ((f8.f k a0).bind fun r1=>cond (!a0.1) (some (r1.1,(false,()))) ((cG.f k [a1]).bind fun r2=>cond (!r2.1) (some (r1.1,(false,()))) (rm (Ty.bytes aY) (r1.1.2.2.1.length+1) ((aa.f k (r1.1.1,(r1.1.2.1,((r1.1.2.2.1++[a1]),())))).bind fun r3=>cond (decide ((r3.1.length:Int) > 8)) ((f8.f k a0).bind fun r4=>some (r4.1,(false,()))) (cond (decide ((List.length (r1.1.2.2.1++[a1]):Int) > 50)) ((f8.f k a0).bind fun r5=>some (r5.1,(false,()))) (some ((r1.1.1,(r1.1.2.1,((r1.1.2.2.1++[a1]),()))),(true,()))))))))
def f:=t k
end dN
namespace bn
abbrev Rs:Type:=Option ((Ty.d aV) × (Ty.d bz) × Unit)
def t (a0:Ty.d aV) (a1:Ty.d az):Rs :=
 ((eo.f k a0).bind fun r1=>cond (a1.1==10) (cond a0.1 (some (r1.1,((4,(ByteArray.empty,([],()))),()))) ((gA.f k a0.2.2.1).bind fun r2=>some (r2.1,((r2.2.1,(ByteArray.empty,([],()))),())))) (cond (a1.1==11) ((bM.f k a0.2.2.1).bind fun r3=>cond (!r3.1) (some (r1.1,((4,(ByteArray.empty,([],()))),()))) ((jK.f k a0.2.2.1).bind fun r4=>(aR.f k a1.2.2.2.2.1 0 (aG (100000-r4.1))).bind fun r5=>cond (!r5.1) (some (r1.1,((4,(ByteArray.empty,([],()))),()))) ((jK.f k a0.2.2.1).bind fun r6=>some ((r1.1.1,(r1.1.2.1,((r1.1.2.2.1.1,((aG (r6.1+a1.2.2.2.2.1)),r1.1.2.2.1.2.2)),r1.1.2.2.2))),((0,(ByteArray.empty,([],()))),()))))) (cond (!a0.1) (some (r1.1,((6,(ByteArray.empty,([],()))),()))) (cond (a1.1==7) ((l9.f k r1.1.2.1 r1.1.2.2.1).bind fun r7=>some ((r1.1.1,(r7.1,(r7.2.1,r1.1.2.2.2))),((r7.2.2.1,(ByteArray.empty,([],()))),()))) (cond (a1.1==8) ((cT.f k r1.1.2.1.2.1).bind fun r8=>some (r1.1,((0,(ByteArray.empty,r8)),()))) (cond (a1.1==9) (vJ (Ty.bytes an) 3 (some ((false,(((0,([],())),([],(0,(0,(0,()))))),(r1.1.2.2.1,((List.replicate (Int.toNat 3) (Ty.z an)),())))),((0,(ByteArray.empty,([],()))),())))) ((aR.f k a1.2.1 0 (aG ((a0.2.2.2.1.length:Int)-1))).bind fun r9=>cond (!r9.1) (some (r1.1,((4,(ByteArray.empty,([],()))),()))) ((aR.f k a1.1 1 6).bind fun r10=>cond (!r10.1) (some (r1.1,((4,(ByteArray.empty,([],()))),()))) (cond (a1.1==1) (aw a1.2.1 (a0.2.2.2.1.length:Int) (cond (a0.2.2.2.1.getD a1.2.1.toNat (Ty.z an)).1 (some (r1.1,((4,(ByteArray.empty,([],()))),()))) (cond (a1.1 != 1) (aw a1.2.1 (a0.2.2.2.1.length:Int) (cond (!(a0.2.2.2.1.getD a1.2.1.toNat (Ty.z an)).1) (some (r1.1,((4,(ByteArray.empty,([],()))),()))) (cond (a1.1==1) (aw a1.2.1 (r1.1.2.2.2.1.length:Int) (let l11:=(r1.1.2.2.2.1.set a1.2.1.toNat (true,([],([],()))));(some ((r1.1.1,(r1.1.2.1,(r1.1.2.2.1,(l11,())))),((0,(ByteArray.empty,([],()))),()))))) (cond (a1.1==6) (aw a1.2.1 (r1.1.2.2.2.1.length:Int) (let l12:=(r1.1.2.2.2.1.set a1.2.1.toNat (false,([],([],()))));(some ((r1.1.1,(r1.1.2.1,(r1.1.2.2.1,(l12,())))),((0,(ByteArray.empty,([],()))),()))))) (cond (a1.1==2) ((dO.f k r1.1 a1).bind fun r13=>some r13) (cond (a1.1==5) ((bv.f k r1.1 a1).bind fun r14=>some r14) ((cG.f k [(a1.2.2.1,((a1.1==4),(a1.2.2.2.1,())))]).bind fun r15=>cond (!r15.1) (some (r1.1,((4,(ByteArray.empty,([],()))),()))) (aw a1.2.1 (r1.1.2.2.2.1.length:Int) ((dN.f k (r1.1.2.2.2.1.getD a1.2.1.toNat (Ty.z an)) (a1.2.2.1,((a1.1==4),(a1.2.2.2.1,())))).bind fun r16=>cond (!r16.2.1) (some (r1.1,((5,(ByteArray.empty,([],()))),()))) (aw a1.2.1 (r1.1.2.2.2.1.length:Int) (let l17:=(r1.1.2.2.2.1.set a1.2.1.toNat r16.1);(some ((r1.1.1,(r1.1.2.1,(r1.1.2.2.1,(l17,())))),((0,(ByteArray.empty,([],()))),())))))))))))))) (cond (a1.1==1) (aw a1.2.1 (r1.1.2.2.2.1.length:Int) (let l18:=(r1.1.2.2.2.1.set a1.2.1.toNat (true,([],([],()))));(some ((r1.1.1,(r1.1.2.1,(r1.1.2.2.1,(l18,())))),((0,(ByteArray.empty,([],()))),()))))) (cond (a1.1==6) (aw a1.2.1 (r1.1.2.2.2.1.length:Int) (let l19:=(r1.1.2.2.2.1.set a1.2.1.toNat (false,([],([],()))));(some ((r1.1.1,(r1.1.2.1,(r1.1.2.2.1,(l19,())))),((0,(ByteArray.empty,([],()))),()))))) (cond (a1.1==2) ((dO.f k r1.1 a1).bind fun r20=>some r20) (cond (a1.1==5) ((bv.f k r1.1 a1).bind fun r21=>some r21) ((cG.f k [(a1.2.2.1,((a1.1==4),(a1.2.2.2.1,())))]).bind fun r22=>cond (!r22.1) (some (r1.1,((4,(ByteArray.empty,([],()))),()))) (aw a1.2.1 (r1.1.2.2.2.1.length:Int) ((dN.f k (r1.1.2.2.2.1.getD a1.2.1.toNat (Ty.z an)) (a1.2.2.1,((a1.1==4),(a1.2.2.2.1,())))).bind fun r23=>cond (!r23.2.1) (some (r1.1,((5,(ByteArray.empty,([],()))),()))) (aw a1.2.1 (r1.1.2.2.2.1.length:Int) (let l24:=(r1.1.2.2.2.1.set a1.2.1.toNat r23.1);(some ((r1.1.1,(r1.1.2.1,(r1.1.2.2.1,(l24,())))),((0,(ByteArray.empty,([],()))),()))))))))))))))) (cond (a1.1 != 1) (aw a1.2.1 (a0.2.2.2.1.length:Int) (cond (!(a0.2.2.2.1.getD a1.2.1.toNat (Ty.z an)).1) (some (r1.1,((4,(ByteArray.empty,([],()))),()))) (cond (a1.1==1) (aw a1.2.1 (r1.1.2.2.2.1.length:Int) (let l25:=(r1.1.2.2.2.1.set a1.2.1.toNat (true,([],([],()))));(some ((r1.1.1,(r1.1.2.1,(r1.1.2.2.1,(l25,())))),((0,(ByteArray.empty,([],()))),()))))) (cond (a1.1==6) (aw a1.2.1 (r1.1.2.2.2.1.length:Int) (let l26:=(r1.1.2.2.2.1.set a1.2.1.toNat (false,([],([],()))));(some ((r1.1.1,(r1.1.2.1,(r1.1.2.2.1,(l26,())))),((0,(ByteArray.empty,([],()))),()))))) (cond (a1.1==2) ((dO.f k r1.1 a1).bind fun r27=>some r27) (cond (a1.1==5) ((bv.f k r1.1 a1).bind fun r28=>some r28) ((cG.f k [(a1.2.2.1,((a1.1==4),(a1.2.2.2.1,())))]).bind fun r29=>cond (!r29.1) (some (r1.1,((4,(ByteArray.empty,([],()))),()))) (aw a1.2.1 (r1.1.2.2.2.1.length:Int) ((dN.f k (r1.1.2.2.2.1.getD a1.2.1.toNat (Ty.z an)) (a1.2.2.1,((a1.1==4),(a1.2.2.2.1,())))).bind fun r30=>cond (!r30.2.1) (some (r1.1,((5,(ByteArray.empty,([],()))),()))) (aw a1.2.1 (r1.1.2.2.2.1.length:Int) (let l31:=(r1.1.2.2.2.1.set a1.2.1.toNat r30.1);(some ((r1.1.1,(r1.1.2.1,(r1.1.2.2.1,(l31,())))),((0,(ByteArray.empty,([],()))),())))))))))))))) (cond (a1.1==1) (aw a1.2.1 (r1.1.2.2.2.1.length:Int) (let l32:=(r1.1.2.2.2.1.set a1.2.1.toNat (true,([],([],()))));(some ((r1.1.1,(r1.1.2.1,(r1.1.2.2.1,(l32,())))),((0,(ByteArray.empty,([],()))),()))))) (cond (a1.1==6) (aw a1.2.1 (r1.1.2.2.2.1.length:Int) (let l33:=(r1.1.2.2.2.1.set a1.2.1.toNat (false,([],([],()))));(some ((r1.1.1,(r1.1.2.1,(r1.1.2.2.1,(l33,())))),((0,(ByteArray.empty,([],()))),()))))) (cond (a1.1==2) ((dO.f k r1.1 a1).bind fun r34=>some r34) (cond (a1.1==5) ((bv.f k r1.1 a1).bind fun r35=>some r35) ((cG.f k [(a1.2.2.1,((a1.1==4),(a1.2.2.2.1,())))]).bind fun r36=>cond (!r36.1) (some (r1.1,((4,(ByteArray.empty,([],()))),()))) (aw a1.2.1 (r1.1.2.2.2.1.length:Int) ((dN.f k (r1.1.2.2.2.1.getD a1.2.1.toNat (Ty.z an)) (a1.2.2.1,((a1.1==4),(a1.2.2.2.1,())))).bind fun r37=>cond (!r37.2.1) (some (r1.1,((5,(ByteArray.empty,([],()))),()))) (aw a1.2.1 (r1.1.2.2.2.1.length:Int) (let l38:=(r1.1.2.2.2.1.set a1.2.1.toNat r37.1);(some ((r1.1.1,(r1.1.2.1,(r1.1.2.2.1,(l38,())))),((0,(ByteArray.empty,([],()))),()))))))))))))))))))))))
def f:=t k
end bn
namespace dw
abbrev Rs:Type:=Option ((Ty.d fB) × (Ty.d aV) × Unit)
abbrev T0:Type:=Int→List Int→Int→Int→List Int→List (Ty.d a_)→List (Ty.d aD)→List (Ty.d an)→Bool→Int→Int→Int→Int→Int→Int→Bool→Bool→Int→List Int→List (Ty.d a_)→Int→Int→Int→List (Ty.d aD)→Int→Int→Bool→List (Ty.d an)→List (Ty.d az)→Rs
def b0 (L0:T0):T0:=fun x0 x1 x2 x3 x4 x5 x6 x7 x8 x9 x10 x11 x12 x13 x14 x15 x16 x17 x18 x19 x20 x21 x22 x23 x24 x25 x26 x27 x28 =>
 (cond (decide (x0<(x28.length:Int))) (aw x0 (x28.length:Int) ((bn.f k (x16,(((x17,(x18,())),(x19,(x20,(x21,(x22,()))))),((x23,(x24,(x25,(x26,())))),(x27,())))) (x28.getD x0.toNat (Ty.z az))).bind fun r5=>L0 (aG (x0+1)) x1 x2 x3 x4 x5 x6 x7 x8 x9 x10 x11 x12 x13 x14 x15 r5.1.1 r5.1.2.1.1.1 r5.1.2.1.1.2.1 r5.1.2.1.2.1 r5.1.2.1.2.2.1 r5.1.2.1.2.2.2.1 r5.1.2.1.2.2.2.2.1 r5.1.2.2.1.1 r5.1.2.2.1.2.1 r5.1.2.2.1.2.2.1 r5.1.2.2.1.2.2.2.1 r5.1.2.2.2.1 x28)) (some ((x1,(x2,(x3,()))),((x16,(((x17,(x18,())),(x19,(x20,(x21,(x22,()))))),((x23,(x24,(x25,(x26,())))),(x27,())))),()))))
def l0:Nat→T0
 | 0=>fun _ _ _ _ _ _ _ _ _ _ _ _ _ _ _ _ _ _ _ _ _ _ _ _ _ _ _ _ _=>none
 | n+1=>b0 k (l0 n)
def t (L0:T0) (a0:Ty.d fB):Rs :=
 ((aX.f k a0 [100000,100000,300]).bind fun r1=>(jQ.f k r1.2.1).bind fun r2=>(gA.f k r2.1).bind fun r3=>(eU.f k r1.1 20).bind fun r4=>L0 0 r4.1.1 r4.1.2.1 r4.1.2.2.1 [] [] [] [] false 0 0 0 0 0 0 false r3.1.1 r3.1.2.1.1.1 r3.1.2.1.1.2.1 r3.1.2.1.2.1 r3.1.2.1.2.2.1 r3.1.2.1.2.2.2.1 r3.1.2.1.2.2.2.2.1 r3.1.2.2.1.1 r3.1.2.2.1.2.1 r3.1.2.2.1.2.2.1 r3.1.2.2.1.2.2.2.1 r3.1.2.2.2.1 r4.2.1)
def f:=t k (l0 k k)
end dw
namespace eZ
abbrev Rs:Type:=Option ((Ty.d aV) × (Ty.d az) × Unit)
def t (a0:List Int):Rs :=
 ((gb.f k a0).bind fun r1=>(dw.f k r1.2.1).bind fun r2=>(gz.f k r2.1).bind fun r3=>(b9.f k r3.1 14).bind fun r4=>cond (r4.2.1==0) ((aX.f k r4.1 [0,5,40,(-1),100000,9223372036854775807]).bind fun r5=>some (r2.2.1,((11,(0,(ByteArray.empty,(ByteArray.empty,r5.2)))),()))) (cond (r4.2.1==1) ((b9.f k r4.1 4).bind fun r6=>some ((r2.2.1.1,(r2.2.1.2.1,((r2.2.1.2.2.1.1,(r2.2.1.2.2.1.2.1,(r6.2.1,r2.2.1.2.2.1.2.2.2))),r2.2.1.2.2.2))),r3.2)) (cond (r4.2.1==2) ((b9.f k r4.1 (aG ((r2.2.1.2.2.2.1.length:Int)+1))).bind fun r7=>pE r7.2.1 (r2.2.1.2.2.2.1.length:Int) (some ((r2.2.1.1,(r2.2.1.2.1,(r2.2.1.2.2.1,((r2.2.1.2.2.2.1.take r7.2.1.toNat),())))),r3.2))) (some (r2.2.1,r3.2)))))
def f:=t k
end eZ
namespace pM
abbrev Rs:Type:=Option (Int × Unit)
def t (k:Nat) (a0:List Int) (a1:Int):Rs :=
 (cond (decide (a1<(a0.length:Int))) (aw a1 (a0.length:Int) (some ((aG (a0.getD a1.toNat (Ty.z (.int .u8)))),()))) (some ((Int.tmod (aG ((aG (a1*37))+(aG ((a0.length:Int)*11)))) 256),())))
def f:=t k
end pM
namespace fv
abbrev Rs:Type:=Option ((Ty.d bo) × Unit)
def t (k:Nat) (a0:Ty.d bo):Rs :=
 (rm (Ty.bytes (.int .i64)) (a0.2.1.length) (some (a0,())))
def f:=t k
end fv
namespace ez
abbrev Rs:Type:=Option ((List (Ty.d a_)) × Unit)
def t (k:Nat) (a0:List (Ty.d a_)):Rs :=
 (rm (Ty.bytes a_) (a0.length) (some (a0,())))
def f:=t k
end ez
namespace dA
abbrev Rs:Type:=Option ((Ty.d aF) × Unit)
def t (a0:Ty.d aF):Rs :=
 ((fv.f k a0.1).bind fun r1=>(ez.f k a0.2.1).bind fun r2=>some ((r1.1,(r2.1,a0.2.2)),()))
def f:=t k
end dA
namespace bD
abbrev Rs:Type:=Option ((Ty.d aB) × Unit)
def t (k:Nat) (a0:Ty.d aB):Rs :=
 (rm (Ty.bytes aD) (a0.1.length) (some (a0,())))
def f:=t k
end bD
namespace jb
abbrev Rs:Type:=Option ((List (Ty.d aY)) × Unit)
def t (k:Nat) (a0:List (Ty.d aY)):Rs :=
 (rm (Ty.bytes aY) (a0.length) (some (a0,())))
def f:=t k
end jb
namespace dt
abbrev Rs:Type:=Option ((Ty.d an) × Unit)
def t (a0:Ty.d an):Rs :=
 (rm (Ty.bytes bG) (a0.2.1.length) ((jb.f k a0.2.2.1).bind fun r1=>some ((a0.1,(a0.2.1,r1)),())))
def f:=t k
end dt
namespace dy
abbrev Rs:Type:=Option ((List (Ty.d an)) × Unit)
abbrev T0:Type:=List (Ty.d an)→Int→Int→List (Ty.d an)→Rs
def b0 (L0:T0):T0:=fun x0 x1 x2 x3 =>
 (cond (decide (x2<x1)) (aw x2 (x0.length:Int) ((dt.f k (x0.getD x2.toNat (Ty.z an))).bind fun r1=>rm (Ty.bytes an) (x3.length+1) (L0 x0 x1 (aG (x2+1)) (x3++[r1.1])))) (some (x3,())))
def l0:Nat→T0
 | 0=>fun _ _ _ _=>none
 | n+1=>b0 k (l0 n)
def t (k:Nat) (L0:T0) (a0:List (Ty.d an)):Rs :=
 (L0 a0 (a0.length:Int) 0 [])
def f:=t k (l0 k k)
end dy
namespace gk
abbrev Rs:Type:=Option ((Ty.d aV) × Unit)
def t (a0:Ty.d aV):Rs :=
 ((dA.f k a0.2.1).bind fun r1=>(bD.f k a0.2.2.1).bind fun r2=>(dy.f k a0.2.2.2.1).bind fun r3=>some ((a0.1,(r1.1,(r2.1,r3))),()))
def f:=t k
end gk
namespace ap
abbrev Rs:Type:=Option (Bool × Unit)
def t (k:Nat) (a0:Int) (a1:Int) (a2:Int):Rs :=
 (cond (decide (a0≥a1)) (some ((decide (a0≤a2)),())) (some (false,())))
def f:=t k
end ap
namespace eE
abbrev Rs:Type:=Option (Bool × Unit)
abbrev T0:Type:=ByteArray→Int→Rs
def b0 (L0:T0):T0:=fun x0 x1 =>
 (cond (decide (x1<(x0.size:Int))) (aw x1 (x0.size:Int) (cond (decide ((eI x0 x1)≥97)) (aw x1 (x0.size:Int) (cond (!(decide ((eI x0 x1)≤122))) (aw x1 (x0.size:Int) (cond (decide ((eI x0 x1)≥48)) (aw x1 (x0.size:Int) (cond (!(decide ((eI x0 x1)≤57))) (some (false,())) (L0 x0 (aG (x1+1))))) (some (false,())))) (L0 x0 (aG (x1+1))))) (aw x1 (x0.size:Int) (cond (decide ((eI x0 x1)≥48)) (aw x1 (x0.size:Int) (cond (!(decide ((eI x0 x1)≤57))) (some (false,())) (L0 x0 (aG (x1+1))))) (some (false,())))))) ((ap.f k (x0.size:Int) 1 12).bind fun r1=>some r1))
def l0:Nat→T0
 | 0=>fun _ _=>none
 | n+1=>b0 k (l0 n)
def t (k:Nat) (L0:T0) (a0:ByteArray):Rs :=
 (L0 a0 0)
def f:=t k (l0 k k)
end eE
namespace ay
abbrev Rs:Type:=Option (Bool × Unit)
abbrev T0:Type:=Int→List (Ty.d aD)→Int→Int→List (Ty.d aD)→Int→Int→Bool→Rs
def b0 (L0:T0):T0:=fun x0 x1 x2 x3 x4 x5 x6 x7 =>
 (cond (decide (x3<x2)) (aw x3 (x1.length:Int) ((eE.f k (x1.getD x3.toNat (Ty.z aD)).1).bind fun r3=>cond (!r3.1) (some (false,())) ((ap.f k (x1.getD x3.toNat (Ty.z aD)).2.2.1 0 (ByteArray.size (x1.getD x3.toNat (Ty.z aD)).2.1:Int)).bind fun r4=>cond (!r4.1) (some (false,())) (cond (decide (x3 > 0)) (aw (aG (x3-1)) (x4.length:Int) (cond (!(oG (x4.getD (aG (x3-1)).toNat (Ty.z aD)).1 (x1.getD x3.toNat (Ty.z aD)).1)) (some (false,())) (L0 (aG (x0+(ByteArray.size (x1.getD x3.toNat (Ty.z aD)).2.1:Int))) x1 x2 (aG (x3+1)) x4 x5 x6 x7))) (L0 (aG (x0+(ByteArray.size (x1.getD x3.toNat (Ty.z aD)).2.1:Int))) x1 x2 (aG (x3+1)) x4 x5 x6 x7))))) (some ((decide (x0≤x5)),())))
def l0:Nat→T0
 | 0=>fun _ _ _ _ _ _ _ _=>none
 | n+1=>b0 k (l0 n)
def t (L0:T0) (a0:Ty.d aB):Rs :=
 (cond (decide ((a0.1.length:Int) > 130)) (some (false,())) ((ap.f k a0.2.1 0 100000).bind fun r1=>cond (!r1.1) (some (false,())) ((ap.f k a0.2.2.1 (-1) 100000).bind fun r2=>cond (!r2.1) (some (false,())) (L0 0 a0.1 (a0.1.length:Int) 0 a0.1 a0.2.1 a0.2.2.1 a0.2.2.2.1))))
def f:=t k (l0 k k)
end ay
namespace bN
abbrev Rs:Type:=Option (Int × Unit)
abbrev T0:Type:=ByteArray→List (Ty.d aD)→Int→Int→Rs
def b0 (k:Nat) (L0:T0):T0:=fun x0 x1 x2 x3 =>
 (cond (decide (x3<x2)) (aw x3 (x1.length:Int) (cond (seq (x1.getD x3.toNat (Ty.z aD)).1 x0) (some (x3,())) (L0 x0 x1 x2 (aG (x3+1))))) (some ((-1),())))
def l0:Nat→T0
 | 0=>fun _ _ _ _=>none
 | n+1=>b0 k (l0 n)
def t (k:Nat) (L0:T0) (a0:Ty.d aB) (a1:ByteArray):Rs :=
 (L0 a1 a0.1 (a0.1.length:Int) 0)
def f:=t k (l0 k k)
end bN
namespace bZ
abbrev Rs:Type:=Option (ByteArray × Bool × Unit)
def t (a0:Ty.d aB) (a1:ByteArray):Rs :=
 ((bN.f k a0 a1).bind fun r1=>cond (decide (r1.1<0)) (some ((⟨#[]⟩:ByteArray),(false,()))) ((ay.f k a0).bind fun r2=>cond (!r2.1) (some ((⟨#[]⟩:ByteArray),(false,()))) (aw r1.1 (a0.1.length:Int) (some ((a0.1.getD r1.1.toNat (Ty.z aD)).2.1,(true,()))))))
def f:=t k
end bZ
namespace cw
abbrev Rs:Type:=Option (Int × Int × Unit)
abbrev T0:Type:=ByteArray→Int→Int→Rs
def b0 (k:Nat) (L0:T0):T0:=fun x0 x1 x2 =>
 (cond (decide (x2<7)) (cond (decide (x2<(x0.size:Int))) (aw x2 (x0.size:Int) (bif (decide ((aG (7*x2))<0)) then none else (cond (decide ((aG (eI x0 x2))≥128)) (L0 x0 (aG (x1+(aG ((Int.tmod (aG (eI x0 x2)) 128)*2 ^ (min (aG (7*x2)).toNat (IntKind.bits .i64)))))) (aG (x2+1))) (cond ((aG (eI x0 x2))==0) (cond (decide (x2 > 0)) (some (0,(0,()))) (some ((aG (x1+(aG ((Int.tmod (aG (eI x0 x2)) 128)*2 ^ (min (aG (7*x2)).toNat (IntKind.bits .i64)))))),((aG (x2+1)),())))) (some ((aG (x1+(aG ((Int.tmod (aG (eI x0 x2)) 128)*2 ^ (min (aG (7*x2)).toNat (IntKind.bits .i64)))))),((aG (x2+1)),()))))))) (some (0,(0,())))) (some (0,(0,()))))
def l0:Nat→T0
 | 0=>fun _ _ _=>none
 | n+1=>b0 k (l0 n)
def t (k:Nat) (L0:T0) (a0:ByteArray):Rs :=
 (L0 a0 0 0)
def f:=t k (l0 k k)
end cw
namespace gP
abbrev Rs:Type:=Option (ByteArray × Unit)
abbrev T0:Type:=Int→List Int→Rs
def b0 (k:Nat) (L0:T0):T0:=fun x0 x1 =>
 (cond (decide (x0 > 127)) (rm (Ty.bytes (.int .u8)) (x1.length+1) (L0 (aG (Int.tdiv x0 128)) (x1++[(IntKind.wrap .u8 (aG ((Int.tmod x0 128)+128)))]))) (rm (Ty.bytes (.int .u8)) (x1.length+1) (some ((bytesOf (x1++[(IntKind.wrap .u8 x0)])),()))))
def l0:Nat→T0
 | 0=>fun _ _=>none
 | n+1=>b0 k (l0 n)
def t (L0:T0) (a0:Int):Rs :=
 ((ap.f k a0 0 562949953421311).bind fun r1=>cond (!r1.1) (some ((⟨#[]⟩:ByteArray),())) (L0 a0 []))
def f:=t k (l0 k k)
end gP
namespace eC
abbrev Rs:Type:=Option (ByteArray × Unit)
def t (a0:ByteArray):Rs :=
 ((gP.f k (a0.size:Int)).bind fun r1=>ln r1.1 a0 (some ((r1.1++a0),())))
def f:=t k
end eC
namespace gI
abbrev Rs:Type:=Option (Int × Unit)
abbrev T1:Type:=ByteArray→Int→Int→Int→Rs
abbrev T0:Type:=ByteArray→Int→Int→Rs
def b1 (k:Nat) (L0:T0) (L1:T1):T1:=fun x0 x1 x2 x3 =>
 (cond (decide (x3<8)) (cond ((IntKind.wrap .u32 (((BitVec.ofInt (IntKind.bits .u32) x1 &&& BitVec.ofInt (IntKind.bits .u32) 1).toNat:Int)))==1) (L1 x0 (IntKind.wrap .u32 (((BitVec.ofInt (IntKind.bits .u32) (Int.fdiv x1 (2 ^ (Int.toNat 1))) ^^^ BitVec.ofInt (IntKind.bits .u32) 2197175160).toNat:Int))) x2 (aG (x3+1))) (L1 x0 (Int.fdiv x1 (2 ^ (Int.toNat 1))) x2 (aG (x3+1)))) (L0 x0 x1 (aG (x2+1))))
def l1 (L0:T0):Nat→T1
 | 0=>fun _ _ _ _=>none
 | n+1=>b1 k L0 (l1 L0 n)
def b0 (k:Nat) (L1:T1) (L0:T0):T0:=fun x0 x1 x2 =>
 (cond (decide (x2<(x0.size:Int))) (aw x2 (x0.size:Int) (L1 x0 (IntKind.wrap .u32 (((BitVec.ofInt (IntKind.bits .u32) x1 ^^^ BitVec.ofInt (IntKind.bits .u32) (IntKind.wrap .u32 (eI x0 x2))).toNat:Int))) x2 0)) (some ((aG (FV .u32 x1)),())))
def l0:Nat→T0
 | 0=>fun _ _ _=>none
 | n+1=>b0 k (l1 k (l0 n) k) (l0 n)
def t (k:Nat) (L0:T0) (a0:ByteArray):Rs :=
 (L0 a0 4294967295 0)
def f:=t k (l0 k k)
end gI
namespace dh
abbrev Rs:Type:=Option (ByteArray × Unit)
abbrev T0:Type:=Int→Int→List Int→Rs
def b0 (k:Nat) (L0:T0):T0:=fun x0 x1 x2 =>
 (cond (decide (x1≥0)) (bif (decide ((aG (8*x1))<0)) then none else (rm (Ty.bytes (.int .u8)) (x2.length+1) (L0 x0 (aG (x1-1)) (x2++[(IntKind.wrap .u8 (Int.fdiv x0 (2 ^ (min (aG (8*x1)).toNat (IntKind.bits .i64)))))])))) (some ((bytesOf x2),())))
def l0:Nat→T0
 | 0=>fun _ _ _=>none
 | n+1=>b0 k (l0 n)
def t (L0:T0) (a0:Int) (a1:Int):Rs :=
 ((ap.f k a1 1 7).bind fun r1=>cond (!r1.1) (some ((⟨#[]⟩:ByteArray),())) (bif (decide ((aG (8*a1))<0)) then none else ((ap.f k a0 0 (aG ((aG (1*2 ^ (min (aG (8*a1)).toNat (IntKind.bits .i64))))-1))).bind fun r2=>cond (!r2.1) (some ((⟨#[]⟩:ByteArray),())) (L0 a0 (aG (a1-1)) []))))
def f:=t k (l0 k k)
end dh
namespace gZ
abbrev Rs:Type:=Option (ByteArray × Unit)
def t (a0:ByteArray):Rs :=
 (cond (decide ((a0.size:Int) > 200)) (some ((⟨#[]⟩:ByteArray),())) ((eC.f k a0).bind fun r1=>(gI.f k r1.1).bind fun r2=>(dh.f k r2.1 4).bind fun r3=>ln r3.1 r1.1 (some ((r3.1++r1.1),()))))
def f:=t k
end gZ
namespace dr
abbrev Rs:Type:=Option (ByteArray × Int × Unit)
def t (a0:ByteArray):Rs :=
 (cond (decide ((a0.size:Int)<4)) (some ((⟨#[]⟩:ByteArray),(0,()))) (pE 4 (a0.size:Int) ((cw.f k (a0.extract 4 (a0.size))).bind fun r1=>cond (r1.2.1==0) (some ((⟨#[]⟩:ByteArray),(0,()))) (cond (decide (r1.1 > 200)) (some ((⟨#[]⟩:ByteArray),(0,()))) (cond (decide (r1.1 > (aG ((aG ((a0.size:Int)-4))-r1.2.1)))) (some ((⟨#[]⟩:ByteArray),(0,()))) (G9 (aG (4+r1.2.1)) (aG ((aG (4+r1.2.1))+r1.1)) (a0.size:Int) ((gZ.f k (a0.extract (aG (4+r1.2.1)).toNat (aG ((aG (4+r1.2.1))+r1.1)).toNat)).bind fun r2=>pE (aG ((aG (4+r1.2.1))+r1.1)) (a0.size:Int) (cond (!(seq r2.1 (a0.extract 0 (aG ((aG (4+r1.2.1))+r1.1)).toNat))) (some ((⟨#[]⟩:ByteArray),(0,()))) (some ((a0.extract (aG (4+r1.2.1)).toNat (aG ((aG (4+r1.2.1))+r1.1)).toNat),((aG ((aG (4+r1.2.1))+r1.1)),())))))))))))
def f:=t k
end dr
namespace aU
abbrev Rs:Type:=Option ((Ty.d me) × Int × Unit)
def t (a0:Ty.d me):Rs :=
 ((cw.f k a0.1).bind fun r1=>cond a0.2.1 (some ((a0.1,(true,())),(0,()))) (cond (r1.2.1==0) (some ((a0.1,(true,())),(0,()))) (pE r1.2.1 (a0.1.size:Int) (some (((a0.1.extract r1.2.1.toNat (a0.1.size)),a0.2),(r1.1,()))))))
def f:=t k
end aU
namespace dK
abbrev Rs:Type:=Option (Bool × Unit)
abbrev T0:Type:=List Int→Int→Int→Int→List Int→Rs
def b0 (L0:T0):T0:=fun x0 x1 x2 x3 x4 =>
 (cond (decide (x2<x1)) (aw x2 (x0.length:Int) ((ap.f k (x0.getD x2.toNat (Ty.z (.int .i64))) 1 (aG (x3-1))).bind fun r1=>cond (!r1.1) (some (false,())) (cond (decide (x2 > 0)) (aw (aG (x2-1)) (x4.length:Int) (cond (decide ((x4.getD (aG (x2-1)).toNat (Ty.z (.int .i64)))≥(x0.getD x2.toNat (Ty.z (.int .i64))))) (some (false,())) (L0 x0 x1 (aG (x2+1)) x3 x4))) (L0 x0 x1 (aG (x2+1)) x3 x4)))) ((ap.f k x3 1 100000).bind fun r2=>cond r2.1 ((ap.f k (x4.length:Int) 1 60).bind fun r3=>some r3) (some (false,()))))
def l0:Nat→T0
 | 0=>fun _ _ _ _ _=>none
 | n+1=>b0 k (l0 n)
def t (k:Nat) (L0:T0) (a0:Ty.d bo):Rs :=
 (L0 a0.2.1 (a0.2.1.length:Int) 0 a0.1 a0.2.1)
def f:=t k (l0 k k)
end dK
namespace lp
abbrev Rs:Type:=Option ((Ty.d bo) × Bool × Unit)
abbrev T0:Type:=ByteArray→Int→Int→Int→List Int→Int→ByteArray→Bool→List Int→Int→Rs
def b0 (L0:T0):T0:=fun x0 x1 x2 x3 x4 x5 x6 x7 x8 x9 =>
 (cond (decide (x3<x2)) (cond (!x7) ((aU.f k (x6,(x7,()))).bind fun r4=>rm (Ty.bytes (.int .i64)) (x8.length+1) (L0 x0 x1 x2 (aG (x3+1)) x4 x5 r4.1.1 r4.1.2.1 (x8++[r4.2.1]) x9)) (cond (x1==0) (some ((0,([],())),(false,()))) (cond (x1 != (x0.size:Int)) (some ((0,([],())),(false,()))) (cond x7 (some ((0,([],())),(false,()))) (cond (!(seq x6 (⟨#[]⟩:ByteArray))) (some ((0,([],())),(false,()))) ((dK.f k (x9,(x8,()))).bind fun r5=>cond (!r5.1) (some ((0,([],())),(false,()))) (some ((x9,(x8,())),(true,()))))))))) (cond (x1==0) (some ((0,([],())),(false,()))) (cond (x1 != (x0.size:Int)) (some ((0,([],())),(false,()))) (cond x7 (some ((0,([],())),(false,()))) (cond (!(seq x6 (⟨#[]⟩:ByteArray))) (some ((0,([],())),(false,()))) ((dK.f k (x9,(x8,()))).bind fun r6=>cond (!r6.1) (some ((0,([],())),(false,()))) (some ((x9,(x8,())),(true,())))))))))
def l0:Nat→T0
 | 0=>fun _ _ _ _ _ _ _ _ _ _=>none
 | n+1=>b0 k (l0 n)
def t (L0:T0) (a0:ByteArray):Rs :=
 ((dr.f k a0).bind fun r1=>(aU.f k (r1.1,(false,()))).bind fun r2=>(aU.f k r2.1).bind fun r3=>L0 a0 r1.2.1 r3.2.1 0 [] 0 r3.1.1 r3.1.2.1 [] r2.2.1)
def f:=t k (l0 k k)
end lp
namespace nq
abbrev Rs:Type:=Option (ByteArray × Unit)
def t (a0:Int):Rs :=
 ((ny.f k a0).bind fun r1=>some r1)
def f:=t k
end nq
namespace jh
abbrev Rs:Type:=Option (ByteArray × Unit)
def t (a0:ByteArray) (a1:Int):Rs :=
 ((ap.f k a1 1 100000).bind fun r1=>cond (!r1.1) (some ((⟨#[]⟩:ByteArray),())) ((nq.f k a1).bind fun r2=>ln a0 r2.1 (some ((a0++r2.1),()))))
def f:=t k
end jh
namespace ak
abbrev Rs:Type:=Option (ByteArray × Unit)
def t (a0:Int):Rs :=
 ((jh.f k (⟨#[115,101,103]⟩:ByteArray) a0).bind fun r1=>some r1)
def f:=t k
end ak
namespace au
abbrev Rs:Type:=Option ((Ty.d me) × ByteArray × Unit)
def t (k:Nat) (a0:Ty.d me) (a1:Int):Rs :=
 (cond a0.2.1 (some ((a0.1,(true,())),((⟨#[]⟩:ByteArray),()))) (cond (decide (a1 > (a0.1.size:Int))) (some ((a0.1,(true,())),((⟨#[]⟩:ByteArray),()))) (pE a1 (a0.1.size:Int) (pE a1 (a0.1.size:Int) (some (((a0.1.extract a1.toNat (a0.1.size)),a0.2),((a0.1.extract 0 a1.toNat),())))))))
def f:=t k
end au
namespace ar
abbrev Rs:Type:=Option ((Ty.d me) × ByteArray × Unit)
def t (a0:Ty.d me):Rs :=
 ((aU.f k a0).bind fun r1=>(au.f k r1.1 r1.2.1).bind fun r2=>some r2)
def f:=t k
end ar
namespace dZ
abbrev Rs:Type:=Option (Bool × Unit)
def t (a0:ByteArray):Rs :=
 ((ap.f k (a0.size:Int) 1 8).bind fun r1=>some r1)
def f:=t k
end dZ
namespace gH
abbrev Rs:Type:=Option (Bool × Unit)
def t (a0:Ty.d bA):Rs :=
 (cond (a0.1==1) (cond (a0.1==1) ((dZ.f k a0.2.2.1).bind fun r1=>cond r1.1 (cond (decide ((a0.2.2.2.1.size:Int)≤24)) ((ap.f k a0.2.1 1 1000000).bind fun r2=>cond r2.1 (some (((a0.1==a0.1)&&((a0.2.1==a0.2.1)&&((seq a0.2.2.1 a0.2.2.1)&&((seq a0.2.2.2.1 a0.2.2.2.1)&&((a0.2.2.2.2.1==0)&&(a0.2.2.2.2.2.1==0)))))),())) (some (false,()))) (some (false,()))) (some (false,()))) (cond (a0.1==2) ((dZ.f k a0.2.2.1).bind fun r3=>cond r3.1 ((ap.f k a0.2.1 1 1000000).bind fun r4=>cond r4.1 (some (((a0.1==a0.1)&&((a0.2.1==a0.2.1)&&((seq a0.2.2.1 a0.2.2.1)&&((seq a0.2.2.2.1 ByteArray.empty)&&((a0.2.2.2.2.1==0)&&(a0.2.2.2.2.2.1==0)))))),())) (some (false,()))) (some (false,()))) (cond (a0.1==3) ((ap.f k a0.2.2.2.2.1 0 8).bind fun r5=>cond r5.1 ((ap.f k a0.2.2.2.2.2.1 0 4294967295).bind fun r6=>cond r6.1 ((ap.f k a0.2.1 1 1000000).bind fun r7=>cond r7.1 (some (((a0.1==a0.1)&&((a0.2.1==a0.2.1)&&((seq a0.2.2.1 ByteArray.empty)&&((seq a0.2.2.2.1 ByteArray.empty)&&((a0.2.2.2.2.1==a0.2.2.2.2.1)&&(a0.2.2.2.2.2.1==a0.2.2.2.2.2.1)))))),())) (some (false,()))) (some (false,()))) (some (false,()))) (cond (a0.1==5) ((ap.f k a0.2.2.2.2.1 0 20).bind fun r8=>cond r8.1 ((ap.f k a0.2.2.2.2.2.1 0 4294967295).bind fun r9=>cond r9.1 ((ap.f k a0.2.1 0 1000000).bind fun r10=>cond r10.1 (some (((a0.1==a0.1)&&((a0.2.1==a0.2.1)&&((seq a0.2.2.1 ByteArray.empty)&&((seq a0.2.2.2.1 ByteArray.empty)&&((a0.2.2.2.2.1==a0.2.2.2.2.1)&&(a0.2.2.2.2.2.1==a0.2.2.2.2.2.1)))))),())) (some (false,()))) (some (false,()))) (some (false,()))) (some (false,())))))) (cond (a0.1==4) ((dZ.f k a0.2.2.1).bind fun r11=>cond r11.1 (cond (decide ((a0.2.2.2.1.size:Int)≤24)) ((ap.f k a0.2.1 1 1000000).bind fun r12=>cond r12.1 (some (((a0.1==a0.1)&&((a0.2.1==a0.2.1)&&((seq a0.2.2.1 a0.2.2.1)&&((seq a0.2.2.2.1 a0.2.2.2.1)&&((a0.2.2.2.2.1==0)&&(a0.2.2.2.2.2.1==0)))))),())) (some (false,()))) (some (false,()))) (some (false,()))) (cond (a0.1==2) ((dZ.f k a0.2.2.1).bind fun r13=>cond r13.1 ((ap.f k a0.2.1 1 1000000).bind fun r14=>cond r14.1 (some (((a0.1==a0.1)&&((a0.2.1==a0.2.1)&&((seq a0.2.2.1 a0.2.2.1)&&((seq a0.2.2.2.1 ByteArray.empty)&&((a0.2.2.2.2.1==0)&&(a0.2.2.2.2.2.1==0)))))),())) (some (false,()))) (some (false,()))) (cond (a0.1==3) ((ap.f k a0.2.2.2.2.1 0 8).bind fun r15=>cond r15.1 ((ap.f k a0.2.2.2.2.2.1 0 4294967295).bind fun r16=>cond r16.1 ((ap.f k a0.2.1 1 1000000).bind fun r17=>cond r17.1 (some (((a0.1==a0.1)&&((a0.2.1==a0.2.1)&&((seq a0.2.2.1 ByteArray.empty)&&((seq a0.2.2.2.1 ByteArray.empty)&&((a0.2.2.2.2.1==a0.2.2.2.2.1)&&(a0.2.2.2.2.2.1==a0.2.2.2.2.2.1)))))),())) (some (false,()))) (some (false,()))) (some (false,()))) (cond (a0.1==5) ((ap.f k a0.2.2.2.2.1 0 20).bind fun r18=>cond r18.1 ((ap.f k a0.2.2.2.2.2.1 0 4294967295).bind fun r19=>cond r19.1 ((ap.f k a0.2.1 0 1000000).bind fun r20=>cond r20.1 (some (((a0.1==a0.1)&&((a0.2.1==a0.2.1)&&((seq a0.2.2.1 ByteArray.empty)&&((seq a0.2.2.2.1 ByteArray.empty)&&((a0.2.2.2.2.1==a0.2.2.2.2.1)&&(a0.2.2.2.2.2.1==a0.2.2.2.2.2.1)))))),())) (some (false,()))) (some (false,()))) (some (false,()))) (some (false,())))))))
def f:=t k
end gH
namespace bq
abbrev Rs:Type:=Option (Int × Bool × Unit)
abbrev T0:Type:=ByteArray→Int→Int→Int→Rs
def b0 (k:Nat) (L0:T0):T0:=fun x0 x1 x2 x3 =>
 (cond (decide (x3<x2)) (aw x3 (x0.size:Int) (L0 x0 (aG (((BitVec.ofInt (IntKind.bits .i64) (aG (x1*2 ^ (min (Int.toNat 8) (IntKind.bits .i64)))) ||| BitVec.ofInt (IntKind.bits .i64) (aG (eI x0 x3))).toNat:Int))) x2 (aG (x3+1)))) (some (x1,(true,()))))
def l0:Nat→T0
 | 0=>fun _ _ _ _=>none
 | n+1=>b0 k (l0 n)
def t (L0:T0) (a0:ByteArray) (a1:Int):Rs :=
 ((ap.f k a1 1 7).bind fun r1=>cond (!r1.1) (some (0,(false,()))) (cond (decide ((a0.size:Int)<a1)) (some (0,(false,()))) (L0 a0 0 a1 0)))
def f:=t k (l0 k k)
end bq
namespace d6
abbrev Rs:Type:=Option ((Ty.d bA) × Bool × Unit)
def t (a0:ByteArray):Rs :=
 ((aU.f k (a0,(false,()))).bind fun r1=>(aU.f k r1.1).bind fun r2=>cond (r1.2.1==1) (cond (r1.2.1==1) ((ar.f k r2.1).bind fun r3=>(ar.f k r3.1).bind fun r4=>cond r4.1.2.1 (some ((0,(0,(ByteArray.empty,(ByteArray.empty,(0,(0,())))))),(false,()))) (cond (!(seq r4.1.1 (⟨#[]⟩:ByteArray))) (some ((0,(0,(ByteArray.empty,(ByteArray.empty,(0,(0,())))))),(false,()))) ((gH.f k (r1.2.1,(r2.2.1,(r3.2.1,(r4.2.1,(0,(0,()))))))).bind fun r5=>cond (!r5.1) (some ((0,(0,(ByteArray.empty,(ByteArray.empty,(0,(0,())))))),(false,()))) (some ((r1.2.1,(r2.2.1,(r3.2.1,(r4.2.1,(0,(0,())))))),(true,())))))) (cond (r1.2.1==2) ((ar.f k r2.1).bind fun r6=>cond r6.1.2.1 (some ((0,(0,(ByteArray.empty,(ByteArray.empty,(0,(0,())))))),(false,()))) (cond (!(seq r6.1.1 (⟨#[]⟩:ByteArray))) (some ((0,(0,(ByteArray.empty,(ByteArray.empty,(0,(0,())))))),(false,()))) ((gH.f k (r1.2.1,(r2.2.1,(r6.2.1,(ByteArray.empty,(0,(0,()))))))).bind fun r7=>cond (!r7.1) (some ((0,(0,(ByteArray.empty,(ByteArray.empty,(0,(0,())))))),(false,()))) (some ((r1.2.1,(r2.2.1,(r6.2.1,(ByteArray.empty,(0,(0,())))))),(true,())))))) ((aU.f k r2.1).bind fun r8=>(au.f k r8.1 4).bind fun r9=>(bq.f k r9.2.1 4).bind fun r10=>cond r9.1.2.1 (some ((0,(0,(ByteArray.empty,(ByteArray.empty,(0,(0,())))))),(false,()))) (cond (!(seq r9.1.1 (⟨#[]⟩:ByteArray))) (some ((0,(0,(ByteArray.empty,(ByteArray.empty,(0,(0,())))))),(false,()))) ((gH.f k (r1.2.1,(r2.2.1,(ByteArray.empty,(ByteArray.empty,(r8.2.1,(r10.1,()))))))).bind fun r11=>cond (!r11.1) (some ((0,(0,(ByteArray.empty,(ByteArray.empty,(0,(0,())))))),(false,()))) (some ((r1.2.1,(r2.2.1,(ByteArray.empty,(ByteArray.empty,(r8.2.1,(r10.1,())))))),(true,())))))))) (cond (r1.2.1==4) ((ar.f k r2.1).bind fun r12=>(ar.f k r12.1).bind fun r13=>cond r13.1.2.1 (some ((0,(0,(ByteArray.empty,(ByteArray.empty,(0,(0,())))))),(false,()))) (cond (!(seq r13.1.1 (⟨#[]⟩:ByteArray))) (some ((0,(0,(ByteArray.empty,(ByteArray.empty,(0,(0,())))))),(false,()))) ((gH.f k (r1.2.1,(r2.2.1,(r12.2.1,(r13.2.1,(0,(0,()))))))).bind fun r14=>cond (!r14.1) (some ((0,(0,(ByteArray.empty,(ByteArray.empty,(0,(0,())))))),(false,()))) (some ((r1.2.1,(r2.2.1,(r12.2.1,(r13.2.1,(0,(0,())))))),(true,())))))) (cond (r1.2.1==2) ((ar.f k r2.1).bind fun r15=>cond r15.1.2.1 (some ((0,(0,(ByteArray.empty,(ByteArray.empty,(0,(0,())))))),(false,()))) (cond (!(seq r15.1.1 (⟨#[]⟩:ByteArray))) (some ((0,(0,(ByteArray.empty,(ByteArray.empty,(0,(0,())))))),(false,()))) ((gH.f k (r1.2.1,(r2.2.1,(r15.2.1,(ByteArray.empty,(0,(0,()))))))).bind fun r16=>cond (!r16.1) (some ((0,(0,(ByteArray.empty,(ByteArray.empty,(0,(0,())))))),(false,()))) (some ((r1.2.1,(r2.2.1,(r15.2.1,(ByteArray.empty,(0,(0,())))))),(true,())))))) ((aU.f k r2.1).bind fun r17=>(au.f k r17.1 4).bind fun r18=>(bq.f k r18.2.1 4).bind fun r19=>cond r18.1.2.1 (some ((0,(0,(ByteArray.empty,(ByteArray.empty,(0,(0,())))))),(false,()))) (cond (!(seq r18.1.1 (⟨#[]⟩:ByteArray))) (some ((0,(0,(ByteArray.empty,(ByteArray.empty,(0,(0,())))))),(false,()))) ((gH.f k (r1.2.1,(r2.2.1,(ByteArray.empty,(ByteArray.empty,(r17.2.1,(r19.1,()))))))).bind fun r20=>cond (!r20.1) (some ((0,(0,(ByteArray.empty,(ByteArray.empty,(0,(0,())))))),(false,()))) (some ((r1.2.1,(r2.2.1,(ByteArray.empty,(ByteArray.empty,(r17.2.1,(r19.1,())))))),(true,())))))))))
def f:=t k
end d6
namespace d8
abbrev Rs:Type:=Option ((List (Ty.d bK)) × Int × Unit)
abbrev T0:Type:=ByteArray→Int→List (Ty.d bK)→Rs
def b0 (L0:T0):T0:=fun x0 x1 x2 =>
 (pE x1 (x0.size:Int) ((dr.f k (x0.extract x1.toNat (x0.size))).bind fun r1=>(d6.f k r1.1).bind fun r2=>cond (r1.2.1==0) (some (x2,(x1,()))) (cond (!r2.2.1) (some (x2,(x1,()))) (rm (Ty.bytes bK) (x2.length+1) (L0 x0 (aG (x1+r1.2.1)) (x2++[(x1,(r1.2.1,(r2.1,())))]))))))
def l0:Nat→T0
 | 0=>fun _ _ _=>none
 | n+1=>b0 k (l0 n)
def t (k:Nat) (L0:T0) (a0:ByteArray):Rs :=
 (L0 a0 0 [])
def f:=t k (l0 k k)
end d8
namespace kD
abbrev Rs:Type:=Option ((List (Ty.d aC)) × Unit)
abbrev T0:Type:=Int→List (Ty.d bK)→Int→Int→List (Ty.d aC)→Rs
def b0 (k:Nat) (L0:T0):T0:=fun x0 x1 x2 x3 x4 =>
 (cond (decide (x3<x2)) (aw x3 (x1.length:Int) (rm (Ty.bytes aC) (x4.length+1) (L0 x0 x1 x2 (aG (x3+1)) (x4++[(x0,(x1.getD x3.toNat (Ty.z bK)))])))) (some (x4,())))
def l0:Nat→T0
 | 0=>fun _ _ _ _ _=>none
 | n+1=>b0 k (l0 n)
def t (k:Nat) (L0:T0) (a0:Int) (a1:List (Ty.d bK)):Rs :=
 (L0 a0 a1 (a1.length:Int) 0 [])
def f:=t k (l0 k k)
end kD
namespace iG
abbrev Rs:Type:=Option ((Ty.d aq) × (List (List (Ty.d aC))) × Int × Bool × Unit)
abbrev T0:Type:=Int→List Int→Int→Int→List (Ty.d aD)→Int→Int→Bool→Int→Int→List Int→List (List (Ty.d aC))→Rs
def b0 (L0:T0):T0:=fun x0 x1 x2 x3 x4 x5 x6 x7 x8 x9 x10 x11 =>
 (cond (decide (x3<x2)) (aw x3 (x1.length:Int) ((ak.f k (x1.getD x3.toNat (Ty.z (.int .i64)))).bind fun r1=>(bZ.f k (x4,(x5,(x6,(x7,())))) r1.1).bind fun r2=>(d8.f k r2.1).bind fun r3=>cond (!r2.2.1) (some (((x4,(x5,(x6,(x7,())))),(x8,())),([],(0,(false,()))))) (cond (decide (x3<(aG ((x10.length:Int)-1)))) (cond (r3.2.1 != (r2.1.size:Int)) (some (((x4,(x5,(x6,(x7,())))),(x8,())),([],(0,(false,()))))) ((kD.f k (x1.getD x3.toNat (Ty.z (.int .i64))) r3.1).bind fun r4=>rm (Ty.bytes (.slice aC)) (x11.length+1) (L0 r3.2.1 x1 x2 (aG (x3+1)) x4 x5 x6 x7 x8 x9 x10 (x11++[r4.1])))) ((kD.f k (x1.getD x3.toNat (Ty.z (.int .i64))) r3.1).bind fun r5=>rm (Ty.bytes (.slice aC)) (x11.length+1) (L0 r3.2.1 x1 x2 (aG (x3+1)) x4 x5 x6 x7 x8 x9 x10 (x11++[r5.1])))))) (some (((x4,(x5,(x6,(x7,())))),(x8,())),(x11,(x0,(true,()))))))
def l0:Nat→T0
 | 0=>fun _ _ _ _ _ _ _ _ _ _ _ _=>none
 | n+1=>b0 k (l0 n)
def t (k:Nat) (L0:T0) (a0:Ty.d aq) (a1:Ty.d bo):Rs :=
 (L0 0 a1.2.1 (a1.2.1.length:Int) 0 a0.1.1 a0.1.2.1 a0.1.2.2.1 a0.1.2.2.2.1 a0.2.1 a1.1 a1.2.1 [])
def f:=t k (l0 k k)
end iG
namespace jJ
abbrev Rs:Type:=Option ((Ty.d aB) × ByteArray × Int × Int × Unit)
def t (a0:Ty.d aB) (a1:ByteArray) (a2:Int):Rs :=
 ((bN.f k a0 a1).bind fun r1=>cond (decide (r1.1<0)) (some (a0,(a1,(a2,(3,()))))) (aw r1.1 (a0.1.length:Int) ((ap.f k a2 0 (ByteArray.size (a0.1.getD r1.1.toNat (Ty.z aD)).2.1:Int)).bind fun r2=>cond (!r2.1) (some (a0,(a1,(a2,(5,()))))) (pE a2 (ByteArray.size (a0.1.getD r1.1.toNat (Ty.z aD)).2.1:Int) (let l3:=(a0.1.set r1.1.toNat ((a0.1.getD r1.1.toNat (Ty.z aD)).1,((ByteArray.extract (a0.1.getD r1.1.toNat (Ty.z aD)).2.1 0 a2.toNat),(a0.1.getD r1.1.toNat (Ty.z aD)).2.2)));(let l4:=(l3.set r1.1.toNat ((l3.getD r1.1.toNat (Ty.z aD)).1,((l3.getD r1.1.toNat (Ty.z aD)).2.1,((if a2<(a0.1.getD r1.1.toNat (Ty.z aD)).2.2.1 then a2 else (a0.1.getD r1.1.toNat (Ty.z aD)).2.2.1),(l3.getD r1.1.toNat (Ty.z aD)).2.2.2))));(some ((l4,a0.2),(a1,(a2,(0,())))))))))))
def f:=t k
end jJ
namespace iC
abbrev Rs:Type:=Option (ByteArray × Int × (Ty.d aB) × Int × Unit)
def t (a0:Ty.d aB) (a1:ByteArray) (a2:Int):Rs :=
 ((bD.f k a0).bind fun r1=>(ay.f k a0).bind fun r2=>cond (!r2.1) (some (a1,(a2,(r1.1,(5,()))))) (cond a0.2.2.2.1 (some (a1,(a2,((r1.1.1,(r1.1.2.1,(r1.1.2.2.1,(true,())))),(1,()))))) (cond (a0.2.2.1==0) (some (a1,(a2,((r1.1.1,(r1.1.2.1,(r1.1.2.2.1,(true,())))),(1,()))))) (cond (decide (a0.2.2.1 > 0)) ((jJ.f k (r1.1.1,(r1.1.2.1,((aG (r1.1.2.2.1-1)),r1.1.2.2.2))) a1 a2).bind fun r3=>some (r3.2.1,(r3.2.2.1,(r3.1,r3.2.2.2)))) ((jJ.f k r1.1 a1 a2).bind fun r4=>some (r4.2.1,(r4.2.2.1,(r4.1,r4.2.2.2))))))))
def f:=t k
end iC
namespace ly
abbrev Rs:Type:=Option ((Ty.d aB) × Int × Unit)
def t (a0:Ty.d aB) (a1:ByteArray) (a2:Int):Rs :=
 ((iC.f k a0 a1 a2).bind fun r1=>some r1.2.2)
def f:=t k
end ly
namespace pt
abbrev Rs:Type:=Option (Int × Unit)
def t (k:Nat) (a0:Int):Rs :=
 (cond (a0==0) (some (0,())) (cond (a0==1) (some (1,())) (cond (a0==2) (some (2,())) (some (3,())))))
def f:=t k
end pt
namespace bH
abbrev Rs:Type:=Option ((Ty.d aq) × Unit)
def t (a0:Ty.d aq) (a1:Ty.d aB) (a2:Int):Rs :=
 ((pt.f k a2).bind fun r1=>some ((a1,r1),()))
def f:=t k
end bH
namespace mN
abbrev Rs:Type:=Option ((Ty.d aB) × ByteArray × Int × Unit)
def t (a0:Ty.d aB) (a1:ByteArray):Rs :=
 ((bN.f k a0 a1).bind fun r1=>cond (decide (r1.1<0)) (some (a0,(a1,(3,())))) (aw r1.1 (a0.1.length:Int) (aw r1.1 (a0.1.length:Int) (let l2:=(a0.1.set r1.1.toNat ((a0.1.getD r1.1.toNat (Ty.z aD)).1,((a0.1.getD r1.1.toNat (Ty.z aD)).2.1,((ByteArray.size (a0.1.getD r1.1.toNat (Ty.z aD)).2.1:Int),(a0.1.getD r1.1.toNat (Ty.z aD)).2.2.2))));(some ((l2,a0.2),(a1,(0,()))))))))
def f:=t k
end mN
namespace k9
abbrev Rs:Type:=Option (ByteArray × (Ty.d aB) × Int × Unit)
def t (a0:Ty.d aB) (a1:ByteArray):Rs :=
 ((bD.f k a0).bind fun r1=>(ay.f k a0).bind fun r2=>cond (!r2.1) (some (a1,(r1.1,(5,())))) (cond a0.2.2.2.1 (some (a1,((r1.1.1,(r1.1.2.1,(r1.1.2.2.1,(true,())))),(1,())))) (cond (a0.2.2.1==0) (some (a1,((r1.1.1,(r1.1.2.1,(r1.1.2.2.1,(true,())))),(1,())))) (cond (decide (a0.2.2.1 > 0)) ((mN.f k (r1.1.1,(r1.1.2.1,((aG (r1.1.2.2.1-1)),r1.1.2.2.2))) a1).bind fun r3=>some (r3.2.1,(r3.1,r3.2.2))) ((mN.f k r1.1 a1).bind fun r4=>some (r4.2.1,(r4.1,r4.2.2)))))))
def f:=t k
end k9
namespace qQ
abbrev Rs:Type:=Option ((Ty.d aB) × Int × Unit)
def t (a0:Ty.d aB) (a1:ByteArray):Rs :=
 ((k9.f k a0 a1).bind fun r1=>some r1.2)
def f:=t k
end qQ
namespace cJ
abbrev Rs:Type:=Option ((Ty.d aq) × Unit)
def t (a0:Ty.d aq) (a1:ByteArray):Rs :=
 (cond (a0.2.1==0) ((qQ.f k a0.1 a1).bind fun r1=>(bH.f k a0 r1.1 r1.2.1).bind fun r2=>some r2) (some (a0,())))
def f:=t k
end cJ
namespace fV
abbrev Rs:Type:=Option (ByteArray × Unit)
def t (a0:Int):Rs :=
 ((jh.f k (⟨#[104,105,110,116]⟩:ByteArray) a0).bind fun r1=>some r1)
def f:=t k
end fV
namespace fF
abbrev Rs:Type:=Option (Bool × Unit)
abbrev T0:Type:=List (Ty.d a_)→List (Ty.d a_)→Int→Int→Rs
def b0 (L0:T0):T0:=fun x0 x1 x2 x3 =>
 (cond (decide (x3<x2)) (aw x3 (x1.length:Int) ((dZ.f k (x1.getD x3.toNat (Ty.z a_)).1).bind fun r1=>cond (!r1.1) (some (false,())) ((ap.f k (x1.getD x3.toNat (Ty.z a_)).2.1 1 100000).bind fun r2=>cond (!r2.1) (some (false,())) (cond (decide ((x1.getD x3.toNat (Ty.z a_)).2.2.1<0)) (some (false,())) ((ap.f k (x1.getD x3.toNat (Ty.z a_)).2.2.2.1 1 210).bind fun r3=>cond (!r3.1) (some (false,())) ((ap.f k (x1.getD x3.toNat (Ty.z a_)).2.2.2.2.1 1 1000000).bind fun r4=>cond (!r4.1) (some (false,())) (cond (decide (x3 > 0)) (aw (aG (x3-1)) (x0.length:Int) (cond (!(oG (x0.getD (aG (x3-1)).toNat (Ty.z a_)).1 (x1.getD x3.toNat (Ty.z a_)).1)) (some (false,())) (L0 x0 x1 x2 (aG (x3+1))))) (L0 x0 x1 x2 (aG (x3+1)))))))))) (some ((decide ((x0.length:Int)≤20)),())))
def l0:Nat→T0
 | 0=>fun _ _ _ _=>none
 | n+1=>b0 k (l0 n)
def t (k:Nat) (L0:T0) (a0:List (Ty.d a_)):Rs :=
 (L0 a0 a0 (a0.length:Int) 0)
def f:=t k (l0 k k)
end fF
namespace kC
abbrev Rs:Type:=Option (Bool × Unit)
abbrev T0:Type:=List (Ty.d a_)→Int→Int→Int→Int→List (Ty.d a_)→Rs
def b0 (L0:T0):T0:=fun x0 x1 x2 x3 x4 x5 =>
 (cond (decide (x2<x1)) (aw x2 (x0.length:Int) (aw 0 (x5.length:Int) (cond ((x0.getD x2.toNat (Ty.z a_)).2.1 != (x5.getD 0 (Ty.z a_)).2.1) (some (false,())) (cond (decide ((x0.getD x2.toNat (Ty.z a_)).2.2.1 > 100000)) (some (false,())) (L0 x0 x1 (aG (x2+1)) x3 x4 x5))))) ((ap.f k x3 0 100000).bind fun r1=>cond r1.1 ((ap.f k x4 0 1000000).bind fun r2=>cond r2.1 ((fF.f k x5).bind fun r3=>some r3) (some (false,()))) (some (false,()))))
def l0:Nat→T0
 | 0=>fun _ _ _ _ _ _=>none
 | n+1=>b0 k (l0 n)
def t (k:Nat) (L0:T0) (a0:Ty.d fm):Rs :=
 (L0 a0.2.2.1 (a0.2.2.1.length:Int) 0 a0.1 a0.2.1 a0.2.2.1)
def f:=t k (l0 k k)
end kC
namespace k7
abbrev Rs:Type:=Option (ByteArray × Unit)
abbrev T0:Type:=ByteArray→List Int→Int→Int→Rs
def b0 (L0:T0):T0:=fun x0 x1 x2 x3 =>
 (cond (decide (x3<x2)) (aw x3 (x1.length:Int) ((gP.f k (x1.getD x3.toNat (Ty.z (.int .i64)))).bind fun r1=>ln x0 r1.1 (L0 (x0++r1.1) x1 x2 (aG (x3+1))))) (some (x0,())))
def l0:Nat→T0
 | 0=>fun _ _ _ _=>none
 | n+1=>b0 k (l0 n)
def t (k:Nat) (L0:T0) (a0:List Int):Rs :=
 (L0 (⟨#[]⟩:ByteArray) a0 (a0.length:Int) 0)
def f:=t k (l0 k k)
end k7
namespace ig
abbrev Rs:Type:=Option (ByteArray × Unit)
abbrev T0:Type:=ByteArray→List (Ty.d a_)→Int→Int→Rs
def b0 (L0:T0):T0:=fun x0 x1 x2 x3 =>
 (cond (decide (x3<x2)) (aw x3 (x1.length:Int) ((eC.f k (x1.getD x3.toNat (Ty.z a_)).1).bind fun r3=>(k7.f k [(x1.getD x3.toNat (Ty.z a_)).2.1,(x1.getD x3.toNat (Ty.z a_)).2.2.1,(x1.getD x3.toNat (Ty.z a_)).2.2.2.1,(x1.getD x3.toNat (Ty.z a_)).2.2.2.2.1]).bind fun r4=>ln r3.1 r4.1 (ln x0 (r3.1++r4.1) (L0 (x0++(r3.1++r4.1)) x1 x2 (aG (x3+1)))))) ((gI.f k x0).bind fun r5=>(dh.f k r5.1 4).bind fun r6=>ln r6.1 x0 (some ((r6.1++x0),()))))
def l0:Nat→T0
 | 0=>fun _ _ _ _=>none
 | n+1=>b0 k (l0 n)
def t (L0:T0) (a0:Ty.d fm):Rs :=
 ((kC.f k a0).bind fun r1=>cond (!r1.1) (some ((⟨#[]⟩:ByteArray),())) ((k7.f k [a0.1,a0.2.1,(a0.2.2.1.length:Int)]).bind fun r2=>L0 r2.1 a0.2.2.1 (a0.2.2.1.length:Int) 0))
def f:=t k (l0 k k)
end ig
namespace m4
abbrev Rs:Type:=Option ((Ty.d fm) × Bool × Unit)
abbrev T0:Type:=ByteArray→Int→Int→List (Ty.d a_)→Int→Int→ByteArray→Bool→List (Ty.d a_)→Int→Int→Rs
def b0 (L0:T0):T0:=fun x0 x1 x2 x3 x4 x5 x6 x7 x8 x9 x10 =>
 (cond (decide (x2<x1)) (cond (!x7) ((ar.f k (x6,(x7,()))).bind fun r5=>(aU.f k r5.1).bind fun r6=>(aU.f k r6.1).bind fun r7=>(aU.f k r7.1).bind fun r8=>(aU.f k r8.1).bind fun r9=>rm (Ty.bytes a_) (x8.length+1) (L0 x0 x1 (aG (x2+1)) x3 x4 x5 r9.1.1 r9.1.2.1 (x8++[(r5.2.1,(r6.2.1,(r7.2.1,(r8.2.1,r9.2))))]) x9 x10)) (cond x7 (some ((0,(0,([],()))),(false,()))) ((kC.f k (x9,(x10,(x8,())))).bind fun r10=>cond (!r10.1) (some ((0,(0,([],()))),(false,()))) ((ig.f k (x9,(x10,(x8,())))).bind fun r11=>cond (!(seq r11.1 x0)) (some ((0,(0,([],()))),(false,()))) (some ((x9,(x10,(x8,()))),(true,()))))))) (cond x7 (some ((0,(0,([],()))),(false,()))) ((kC.f k (x9,(x10,(x8,())))).bind fun r12=>cond (!r12.1) (some ((0,(0,([],()))),(false,()))) ((ig.f k (x9,(x10,(x8,())))).bind fun r13=>cond (!(seq r13.1 x0)) (some ((0,(0,([],()))),(false,()))) (some ((x9,(x10,(x8,()))),(true,())))))))
def l0:Nat→T0
 | 0=>fun _ _ _ _ _ _ _ _ _ _ _=>none
 | n+1=>b0 k (l0 n)
def t (L0:T0) (a0:ByteArray):Rs :=
 ((au.f k (a0,(false,())) 4).bind fun r1=>(aU.f k r1.1).bind fun r2=>(aU.f k r2.1).bind fun r3=>(aU.f k r3.1).bind fun r4=>L0 a0 r4.2.1 0 [] 0 0 r4.1.1 r4.1.2.1 [] r2.2.1 r3.2.1)
def f:=t k (l0 k k)
end m4
namespace iX
abbrev Rs:Type:=Option (ByteArray × Unit)
def t (a0:Ty.d bA):Rs :=
 ((gH.f k a0).bind fun r1=>cond (!r1.1) (some ((⟨#[]⟩:ByteArray),())) ((k7.f k [a0.1,a0.2.1]).bind fun r2=>cond (a0.1==1) (cond (a0.1==1) ((eC.f k a0.2.2.1).bind fun r3=>ln r2.1 r3.1 ((eC.f k a0.2.2.2.1).bind fun r4=>ln (r2.1++r3.1) r4.1 (some (((r2.1++r3.1)++r4.1),())))) (cond (a0.1==2) ((eC.f k a0.2.2.1).bind fun r5=>ln r2.1 r5.1 (some ((r2.1++r5.1),()))) ((gP.f k a0.2.2.2.2.1).bind fun r6=>ln r2.1 r6.1 ((dh.f k a0.2.2.2.2.2.1 4).bind fun r7=>ln (r2.1++r6.1) r7.1 (some (((r2.1++r6.1)++r7.1),())))))) (cond (a0.1==4) ((eC.f k a0.2.2.1).bind fun r8=>ln r2.1 r8.1 ((eC.f k a0.2.2.2.1).bind fun r9=>ln (r2.1++r8.1) r9.1 (some (((r2.1++r8.1)++r9.1),())))) (cond (a0.1==2) ((eC.f k a0.2.2.1).bind fun r10=>ln r2.1 r10.1 (some ((r2.1++r10.1),()))) ((gP.f k a0.2.2.2.2.1).bind fun r11=>ln r2.1 r11.1 ((dh.f k a0.2.2.2.2.2.1 4).bind fun r12=>ln (r2.1++r11.1) r12.1 (some (((r2.1++r11.1)++r12.1),()))))))))
def f:=t k
end iX
namespace kS
abbrev Rs:Type:=Option (Int × Unit)
abbrev T0:Type:=ByteArray→List (Ty.d bA)→Int→Int→Rs
def b0 (L0:T0):T0:=fun x0 x1 x2 x3 =>
 (cond (decide (x3<x2)) (aw x3 (x1.length:Int) ((iX.f k (x1.getD x3.toNat (Ty.z bA))).bind fun r1=>ln x0 r1.1 (L0 (x0++r1.1) x1 x2 (aG (x3+1))))) ((gI.f k x0).bind fun r2=>some r2))
def l0:Nat→T0
 | 0=>fun _ _ _ _=>none
 | n+1=>b0 k (l0 n)
def t (k:Nat) (L0:T0) (a0:List (Ty.d bA)):Rs :=
 (L0 (⟨#[]⟩:ByteArray) a0 (a0.length:Int) 0)
def f:=t k (l0 k k)
end kS
namespace mK
abbrev Rs:Type:=Option (Bool × Unit)
abbrev T0:Type:=List (Ty.d aC)→Int→Int→Int→Int→ByteArray→ByteArray→Int→Int→List (Ty.d bA)→Rs
def b0 (L0:T0):T0:=fun x0 x1 x2 x3 x4 x5 x6 x7 x8 x9 =>
 (cond (decide (x2<x1)) (aw x2 (x0.length:Int) (rm (Ty.bytes bA) (x9.length+1) (L0 x0 x1 (aG (x2+1)) x3 x4 x5 x6 x7 x8 (x9++[(x0.getD x2.toNat (Ty.z aC)).2.2.2.1])))) (cond (x7==(x9.length:Int)) ((kS.f k x9).bind fun r1=>some ((x8==r1.1),())) (some (false,()))))
def l0:Nat→T0
 | 0=>fun _ _ _ _ _ _ _ _ _ _=>none
 | n+1=>b0 k (l0 n)
def t (k:Nat) (L0:T0) (a0:Ty.d bA) (a1:List (Ty.d aC)):Rs :=
 (L0 a1 (a1.length:Int) 0 a0.1 a0.2.1 a0.2.2.1 a0.2.2.2.1 a0.2.2.2.2.1 a0.2.2.2.2.2.1 [])
def f:=t k (l0 k k)
end mK
namespace lH
abbrev Rs:Type:=Option ((Ty.d fm) × Bool × Unit)
abbrev T0:Type:=Int→List (Ty.d bK)→List (Ty.d bK)→Int→Int→List (Ty.d a_)→Int→Int→List (Ty.d a_)→Int→Int→Rs
def b0 (k:Nat) (L0:T0):T0:=fun x0 x1 x2 x3 x4 x5 x6 x7 x8 x9 x10 =>
 (cond (decide (x4<x3)) (aw x4 (x2.length:Int) (cond ((x2.getD x4.toNat (Ty.z bK)).2.2.1.1 != 4) (some ((0,(0,([],()))),(false,()))) (cond (decide ((x2.getD x4.toNat (Ty.z bK)).2.2.1.2.1 > x10)) (some ((0,(0,([],()))),(false,()))) (cond (decide (x4 > 0)) (aw (aG (x4-1)) (x1.length:Int) (cond (!(oG (x1.getD (aG (x4-1)).toNat (Ty.z bK)).2.2.1.2.2.1 (x2.getD x4.toNat (Ty.z bK)).2.2.1.2.2.1)) (some ((0,(0,([],()))),(false,()))) (rm (Ty.bytes a_) (x8.length+1) (L0 x0 x1 x2 x3 (aG (x4+1)) x5 x6 x7 (x8++[((x2.getD x4.toNat (Ty.z bK)).2.2.1.2.2.1,(x0,((x2.getD x4.toNat (Ty.z bK)).1,((x2.getD x4.toNat (Ty.z bK)).2.1,((x2.getD x4.toNat (Ty.z bK)).2.2.1.2.1,())))))]) x9 x10)))) (rm (Ty.bytes a_) (x8.length+1) (L0 x0 x1 x2 x3 (aG (x4+1)) x5 x6 x7 (x8++[((x2.getD x4.toNat (Ty.z bK)).2.2.1.2.2.1,(x0,((x2.getD x4.toNat (Ty.z bK)).1,((x2.getD x4.toNat (Ty.z bK)).2.1,((x2.getD x4.toNat (Ty.z bK)).2.2.1.2.1,())))))]) x9 x10)))))) (some ((x9,(x10,(x8,()))),(true,()))))
def l0:Nat→T0
 | 0=>fun _ _ _ _ _ _ _ _ _ _ _=>none
 | n+1=>b0 k (l0 n)
def t (L0:T0) (a0:Int) (a1:ByteArray):Rs :=
 ((d8.f k a1).bind fun r1=>cond (decide ((aG ((r1.1.length:Int)-1))<0)) (some ((0,(0,([],()))),(false,()))) (cond (r1.2.1 != (a1.size:Int)) (some ((0,(0,([],()))),(false,()))) ((ap.f k a0 1 100000).bind fun r2=>cond (!r2.1) (some ((0,(0,([],()))),(false,()))) (aw (aG ((r1.1.length:Int)-1)) (r1.1.length:Int) (cond ((r1.1.getD (aG ((r1.1.length:Int)-1)).toNat (Ty.z bK)).2.2.1.1 != 5) (some ((0,(0,([],()))),(false,()))) (aw (aG ((r1.1.length:Int)-1)) (r1.1.length:Int) (pE (aG ((r1.1.length:Int)-1)) (r1.1.length:Int) ((kD.f k a0 (r1.1.take (aG ((r1.1.length:Int)-1)).toNat)).bind fun r3=>(mK.f k (r1.1.getD (aG ((r1.1.length:Int)-1)).toNat (Ty.z bK)).2.2.1 r3.1).bind fun r4=>cond (!r4.1) (some ((0,(0,([],()))),(false,()))) (aw (aG ((r1.1.length:Int)-1)) (r1.1.length:Int) (pE (aG ((r1.1.length:Int)-1)) (r1.1.length:Int) (L0 a0 r1.1 (r1.1.take (aG ((r1.1.length:Int)-1)).toNat) ((r1.1.take (aG ((r1.1.length:Int)-1)).toNat).length:Int) 0 [] 0 0 [] r1.2.1 (r1.1.getD (aG ((r1.1.length:Int)-1)).toNat (Ty.z bK)).2.2.1.2.1)))))))))))
def f:=t k (l0 k k)
end lH
namespace mg
abbrev Rs:Type:=Option (Bool × Unit)
abbrev T0:Type:=List (Ty.d a_)→List (Ty.d a_)→Int→Int→Rs
def b0 (k:Nat) (L0:T0):T0:=fun x0 x1 x2 x3 =>
 (cond (decide (x3<x2)) (aw x3 (x0.length:Int) (aw x3 (x1.length:Int) (cond (!((seq (x0.getD x3.toNat (Ty.z a_)).1 (x1.getD x3.toNat (Ty.z a_)).1)&&(((x0.getD x3.toNat (Ty.z a_)).2.1==(x1.getD x3.toNat (Ty.z a_)).2.1)&&(((x0.getD x3.toNat (Ty.z a_)).2.2.1==(x1.getD x3.toNat (Ty.z a_)).2.2.1)&&(((x0.getD x3.toNat (Ty.z a_)).2.2.2.1==(x1.getD x3.toNat (Ty.z a_)).2.2.2.1)&&((x0.getD x3.toNat (Ty.z a_)).2.2.2.2.1==(x1.getD x3.toNat (Ty.z a_)).2.2.2.2.1)))))) (some (false,())) (L0 x0 x1 x2 (aG (x3+1)))))) (some (true,())))
def l0:Nat→T0
 | 0=>fun _ _ _ _=>none
 | n+1=>b0 k (l0 n)
def t (k:Nat) (L0:T0) (a0:List (Ty.d a_)) (a1:List (Ty.d a_)):Rs :=
 (cond ((a0.length:Int) != (a1.length:Int)) (some (false,())) (L0 a0 a1 (a0.length:Int) 0))
def f:=t k (l0 k k)
end mg
namespace m0
abbrev Rs:Type:=Option (Bool × Unit)
def t (a0:Int) (a1:ByteArray) (a2:Ty.d fm):Rs :=
 ((lH.f k a0 a1).bind fun r1=>cond r1.2.1 (cond (r1.1.1==a2.1) (cond (r1.1.2.1==a2.2.1) ((mg.f k r1.1.2.2.1 a2.2.2.1).bind fun r2=>some r2) (some (false,()))) (some (false,()))) (some (false,())))
def f:=t k
end m0
namespace gg
abbrev Rs:Type:=Option ((Ty.d aq) × (Ty.d i_) × Bool × Unit)
def t (a0:Ty.d aq) (a1:Int):Rs :=
 ((fV.f k a1).bind fun r1=>(bZ.f k a0.1 r1.1).bind fun r2=>(m4.f k r2.1).bind fun r3=>(ak.f k a1).bind fun r4=>(bZ.f k a0.1 r4.1).bind fun r5=>cond (!r2.2.1) (some (a0,(([],(0,(0,()))),(false,())))) (cond (!r3.2.1) (some (a0,(([],(0,(0,()))),(false,())))) ((m0.f k a1 r5.1 r3.1).bind fun r6=>cond (!r6.1) (some (a0,(([],(0,(0,()))),(false,())))) (some (a0,((r3.1.2.2.1,(r3.1.2.1,(0,()))),(true,())))))))
def f:=t k
end gg
namespace mC
abbrev Rs:Type:=Option ((List (Ty.d aC)) × Unit)
abbrev T0:Type:=List (Ty.d aC)→Int→Int→Int→Int→ByteArray→ByteArray→Int→Int→List (Ty.d aC)→Rs
def b0 (k:Nat) (L0:T0):T0:=fun x0 x1 x2 x3 x4 x5 x6 x7 x8 x9 =>
 (cond (decide (x2<x1)) (aw x2 (x0.length:Int) (cond (x3==3) (cond ((x0.getD x2.toNat (Ty.z aC)).2.2.2.1.2.1 != x4) (L0 x0 x1 (aG (x2+1)) x3 x4 x5 x6 x7 x8 x9) (cond ((x0.getD x2.toNat (Ty.z aC)).2.2.2.1.1==x3) (L0 x0 x1 (aG (x2+1)) x3 x4 x5 x6 x7 x8 []) (cond (x3==3) (cond ((x0.getD x2.toNat (Ty.z aC)).2.2.2.1.1==1) (rm (Ty.bytes aC) (x9.length+1) (L0 x0 x1 (aG (x2+1)) x3 x4 x5 x6 x7 x8 (x9++[(x0.getD x2.toNat (Ty.z aC))]))) (cond ((x0.getD x2.toNat (Ty.z aC)).2.2.2.1.1==2) (cond ((x0.getD x2.toNat (Ty.z aC)).2.2.2.1.1==2) (rm (Ty.bytes aC) (x9.length+1) (L0 x0 x1 (aG (x2+1)) x3 x4 x5 x6 x7 x8 (x9++[(x0.getD x2.toNat (Ty.z aC))]))) (L0 x0 x1 (aG (x2+1)) x3 x4 x5 x6 x7 x8 x9)) (cond (x3==5) (cond ((x0.getD x2.toNat (Ty.z aC)).2.2.2.1.1==4) (rm (Ty.bytes aC) (x9.length+1) (L0 x0 x1 (aG (x2+1)) x3 x4 x5 x6 x7 x8 (x9++[(x0.getD x2.toNat (Ty.z aC))]))) (L0 x0 x1 (aG (x2+1)) x3 x4 x5 x6 x7 x8 x9)) (L0 x0 x1 (aG (x2+1)) x3 x4 x5 x6 x7 x8 x9)))) (cond (x3==5) (cond ((x0.getD x2.toNat (Ty.z aC)).2.2.2.1.1==4) (rm (Ty.bytes aC) (x9.length+1) (L0 x0 x1 (aG (x2+1)) x3 x4 x5 x6 x7 x8 (x9++[(x0.getD x2.toNat (Ty.z aC))]))) (L0 x0 x1 (aG (x2+1)) x3 x4 x5 x6 x7 x8 x9)) (L0 x0 x1 (aG (x2+1)) x3 x4 x5 x6 x7 x8 x9))))) (cond ((x0.getD x2.toNat (Ty.z aC)).2.2.2.1.1==x3) (L0 x0 x1 (aG (x2+1)) x3 x4 x5 x6 x7 x8 []) (cond (x3==3) (cond ((x0.getD x2.toNat (Ty.z aC)).2.2.2.1.1==1) (rm (Ty.bytes aC) (x9.length+1) (L0 x0 x1 (aG (x2+1)) x3 x4 x5 x6 x7 x8 (x9++[(x0.getD x2.toNat (Ty.z aC))]))) (cond ((x0.getD x2.toNat (Ty.z aC)).2.2.2.1.1==2) (cond ((x0.getD x2.toNat (Ty.z aC)).2.2.2.1.1==2) (rm (Ty.bytes aC) (x9.length+1) (L0 x0 x1 (aG (x2+1)) x3 x4 x5 x6 x7 x8 (x9++[(x0.getD x2.toNat (Ty.z aC))]))) (L0 x0 x1 (aG (x2+1)) x3 x4 x5 x6 x7 x8 x9)) (cond (x3==5) (cond ((x0.getD x2.toNat (Ty.z aC)).2.2.2.1.1==4) (rm (Ty.bytes aC) (x9.length+1) (L0 x0 x1 (aG (x2+1)) x3 x4 x5 x6 x7 x8 (x9++[(x0.getD x2.toNat (Ty.z aC))]))) (L0 x0 x1 (aG (x2+1)) x3 x4 x5 x6 x7 x8 x9)) (L0 x0 x1 (aG (x2+1)) x3 x4 x5 x6 x7 x8 x9)))) (cond (x3==5) (cond ((x0.getD x2.toNat (Ty.z aC)).2.2.2.1.1==4) (rm (Ty.bytes aC) (x9.length+1) (L0 x0 x1 (aG (x2+1)) x3 x4 x5 x6 x7 x8 (x9++[(x0.getD x2.toNat (Ty.z aC))]))) (L0 x0 x1 (aG (x2+1)) x3 x4 x5 x6 x7 x8 x9)) (L0 x0 x1 (aG (x2+1)) x3 x4 x5 x6 x7 x8 x9)))))) (some (x9,())))
def l0:Nat→T0
 | 0=>fun _ _ _ _ _ _ _ _ _ _=>none
 | n+1=>b0 k (l0 n)
def t (k:Nat) (L0:T0) (a0:List (Ty.d aC)) (a1:Ty.d bA):Rs :=
 (L0 a0 (a0.length:Int) 0 a1.1 a1.2.1 a1.2.2.1 a1.2.2.2.1 a1.2.2.2.2.1 a1.2.2.2.2.2.1 [])
def f:=t k (l0 k k)
end mC
namespace gB
abbrev Rs:Type:=Option ((List (Ty.d a_)) × Unit)
abbrev T0:Type:=ByteArray→List (Ty.d a_)→Int→Int→List (Ty.d a_)→Rs
def b0 (k:Nat) (L0:T0):T0:=fun x0 x1 x2 x3 x4 =>
 (cond (decide (x3<x2)) (aw x3 (x1.length:Int) (cond (!(seq (x1.getD x3.toNat (Ty.z a_)).1 x0)) (rm (Ty.bytes a_) (x4.length+1) (L0 x0 x1 x2 (aG (x3+1)) (x4++[(x1.getD x3.toNat (Ty.z a_))]))) (L0 x0 x1 x2 (aG (x3+1)) x4))) (some (x4,())))
def l0:Nat→T0
 | 0=>fun _ _ _ _ _=>none
 | n+1=>b0 k (l0 n)
def t (k:Nat) (L0:T0) (a0:List (Ty.d a_)) (a1:ByteArray):Rs :=
 (L0 a1 a0 (a0.length:Int) 0 [])
def f:=t k (l0 k k)
end gB
namespace ii
abbrev Rs:Type:=Option ((List (Ty.d a_)) × Unit)
abbrev T0:Type:=Int→ByteArray→Int→Int→Int→Int→List (Ty.d a_)→Rs
def b0 (L0:T0):T0:=fun x0 x1 x2 x3 x4 x5 x6 =>
 (cond (decide (x0<(x6.length:Int))) (aw x0 (x6.length:Int) (cond ((oG (x6.getD x0.toNat (Ty.z a_)).1 x1)||(seq (x6.getD x0.toNat (Ty.z a_)).1 x1)) (L0 (aG (x0+1)) x1 x2 x3 x4 x5 x6) (pE x0 (x6.length:Int) ((ez.f k (x6.take x0.toNat)).bind fun r2=>rm (Ty.bytes a_) (r2.1.length+1) (pE x0 (x6.length:Int) (rm (Ty.bytes a_) (List.length (r2.1++[(x1,(x2,(x3,(x4,(x5,())))))])+List.length (x6.drop x0.toNat)) (some (((r2.1++[(x1,(x2,(x3,(x4,(x5,())))))])++(x6.drop x0.toNat)),())))))))) (pE x0 (x6.length:Int) ((ez.f k (x6.take x0.toNat)).bind fun r3=>rm (Ty.bytes a_) (r3.1.length+1) (pE x0 (x6.length:Int) (rm (Ty.bytes a_) (List.length (r3.1++[(x1,(x2,(x3,(x4,(x5,())))))])+List.length (x6.drop x0.toNat)) (some (((r3.1++[(x1,(x2,(x3,(x4,(x5,())))))])++(x6.drop x0.toNat)),())))))))
def l0:Nat→T0
 | 0=>fun _ _ _ _ _ _ _=>none
 | n+1=>b0 k (l0 n)
def t (L0:T0) (a0:List (Ty.d a_)) (a1:Ty.d a_):Rs :=
 ((gB.f k a0 a1.1).bind fun r1=>L0 0 a1.1 a1.2.1 a1.2.2.1 a1.2.2.2.1 a1.2.2.2.2.1 r1.1)
def f:=t k (l0 k k)
end ii
namespace iJ
abbrev Rs:Type:=Option ((Ty.d i_) × Unit)
abbrev T0:Type:=List (Ty.d aC)→Int→Int→List (Ty.d a_)→Int→Int→Rs
def b0 (L0:T0):T0:=fun x0 x1 x2 x3 x4 x5 =>
 (cond (decide (x2<x1)) (aw x2 (x0.length:Int) (cond ((x0.getD x2.toNat (Ty.z aC)).2.2.2.1.1==2) ((gB.f k x3 (x0.getD x2.toNat (Ty.z aC)).2.2.2.1.2.2.1).bind fun r1=>L0 x0 x1 (aG (x2+1)) r1.1 x4 x5) ((ii.f k x3 ((x0.getD x2.toNat (Ty.z aC)).2.2.2.1.2.2.1,((x0.getD x2.toNat (Ty.z aC)).1,((x0.getD x2.toNat (Ty.z aC)).2.1,((x0.getD x2.toNat (Ty.z aC)).2.2.1,((x0.getD x2.toNat (Ty.z aC)).2.2.2.1.2.1,())))))).bind fun r2=>L0 x0 x1 (aG (x2+1)) r2.1 x4 x5))) (cond (decide ((x3.length:Int) > 20)) (some ((x3,(x4,(2,()))),())) (some ((x3,(x4,(x5,()))),()))))
def l0:Nat→T0
 | 0=>fun _ _ _ _ _ _=>none
 | n+1=>b0 k (l0 n)
def t (k:Nat) (L0:T0) (a0:Ty.d i_) (a1:List (Ty.d aC)):Rs :=
 (L0 a1 (a1.length:Int) 0 a0.1 a0.2.1 a0.2.2.1)
def f:=t k (l0 k k)
end iJ
namespace jW
abbrev Rs:Type:=Option ((Ty.d i_) × Unit)
abbrev T0:Type:=List (Ty.d aC)→List (Ty.d aC)→Int→Int→List (Ty.d a_)→Int→Int→List (Ty.d a_)→Int→Int→Rs
def b0 (L0:T0):T0:=fun x0 x1 x2 x3 x4 x5 x6 x7 x8 x9 =>
 (cond (decide (x3<x2)) (aw x3 (x1.length:Int) (cond (x9 != 0) (some ((x7,(x8,(x9,()))),())) (cond ((x1.getD x3.toNat (Ty.z aC)).2.2.2.1.1 != 3) (cond ((x1.getD x3.toNat (Ty.z aC)).2.2.2.1.1 != 5) (L0 x0 x1 x2 (aG (x3+1)) x4 x5 x6 x7 (if (x1.getD x3.toNat (Ty.z aC)).2.2.2.1.2.1 > x8 then (x1.getD x3.toNat (Ty.z aC)).2.2.2.1.2.1 else x8) x9) (pE x3 (x0.length:Int) ((mC.f k (x0.take x3.toNat) (x1.getD x3.toNat (Ty.z aC)).2.2.2.1).bind fun r2=>(mK.f k (x1.getD x3.toNat (Ty.z aC)).2.2.2.1 r2.1).bind fun r3=>cond r3.1 ((iJ.f k (x7,((if (x1.getD x3.toNat (Ty.z aC)).2.2.2.1.2.1 > x8 then (x1.getD x3.toNat (Ty.z aC)).2.2.2.1.2.1 else x8),(x9,()))) r2.1).bind fun r4=>L0 x0 x1 x2 (aG (x3+1)) x4 x5 x6 r4.1.1 r4.1.2.1 r4.1.2.2.1) (cond ((x1.getD x3.toNat (Ty.z aC)).2.2.2.1.1==5) (L0 x0 x1 x2 (aG (x3+1)) x4 x5 x6 x7 (if (x1.getD x3.toNat (Ty.z aC)).2.2.2.1.2.1 > x8 then (x1.getD x3.toNat (Ty.z aC)).2.2.2.1.2.1 else x8) 1) (L0 x0 x1 x2 (aG (x3+1)) x4 x5 x6 x7 (if (x1.getD x3.toNat (Ty.z aC)).2.2.2.1.2.1 > x8 then (x1.getD x3.toNat (Ty.z aC)).2.2.2.1.2.1 else x8) x9))))) (pE x3 (x0.length:Int) ((mC.f k (x0.take x3.toNat) (x1.getD x3.toNat (Ty.z aC)).2.2.2.1).bind fun r5=>(mK.f k (x1.getD x3.toNat (Ty.z aC)).2.2.2.1 r5.1).bind fun r6=>cond r6.1 ((iJ.f k (x7,((if (x1.getD x3.toNat (Ty.z aC)).2.2.2.1.2.1 > x8 then (x1.getD x3.toNat (Ty.z aC)).2.2.2.1.2.1 else x8),(x9,()))) r5.1).bind fun r7=>L0 x0 x1 x2 (aG (x3+1)) x4 x5 x6 r7.1.1 r7.1.2.1 r7.1.2.2.1) (cond ((x1.getD x3.toNat (Ty.z aC)).2.2.2.1.1==5) (L0 x0 x1 x2 (aG (x3+1)) x4 x5 x6 x7 (if (x1.getD x3.toNat (Ty.z aC)).2.2.2.1.2.1 > x8 then (x1.getD x3.toNat (Ty.z aC)).2.2.2.1.2.1 else x8) 1) (L0 x0 x1 x2 (aG (x3+1)) x4 x5 x6 x7 (if (x1.getD x3.toNat (Ty.z aC)).2.2.2.1.2.1 > x8 then (x1.getD x3.toNat (Ty.z aC)).2.2.2.1.2.1 else x8) x9))))))) (cond (x9==0) ((mC.f k x0 (5,(0,(ByteArray.empty,(ByteArray.empty,(0,(0,()))))))).bind fun r8=>cond (decide ((r8.1.length:Int) > 0)) (some ((x7,(x8,(1,()))),())) (some ((x7,(x8,(x9,()))),()))) (some ((x7,(x8,(x9,()))),()))))
def l0:Nat→T0
 | 0=>fun _ _ _ _ _ _ _ _ _ _=>none
 | n+1=>b0 k (l0 n)
def t (L0:T0) (a0:Ty.d i_) (a1:List (Ty.d aC)):Rs :=
 ((ez.f k a0.1).bind fun r1=>L0 a1 a1 (a1.length:Int) 0 [] 0 0 r1.1 a0.2.1 a0.2.2.1)
def f:=t k (l0 k k)
end jW
namespace q5
abbrev Rs:Type:=Option (Int × Bool × Unit)
def t (a0:ByteArray):Rs :=
 ((jd.f k a0 (⟨#[115,101,103]⟩:ByteArray)).bind fun r1=>cond (!r1.2.1) ((jd.f k a0 (⟨#[104,105,110,116]⟩:ByteArray)).bind fun r2=>(dm.f k r2.1).bind fun r3=>cond (!r2.2.1) (some (0,(false,()))) (cond (!r3.2.1) (some (0,(false,()))) ((ap.f k r3.1 1 100000).bind fun r4=>cond (!r4.1) (some (0,(false,()))) (some (r3.1,(true,())))))) ((dm.f k r1.1).bind fun r5=>cond (!r1.2.1) (some (0,(false,()))) (cond (!r5.2.1) (some (0,(false,()))) ((ap.f k r5.1 1 100000).bind fun r6=>cond (!r6.1) (some (0,(false,()))) (some (r5.1,(true,())))))))
def f:=t k
end q5
namespace o5
abbrev Rs:Type:=Option (Bool × Unit)
abbrev T0:Type:=Int→List Int→Int→Int→Rs
def b0 (k:Nat) (L0:T0):T0:=fun x0 x1 x2 x3 =>
 (cond (decide (x3<x2)) (aw x3 (x1.length:Int) (cond ((x1.getD x3.toNat (Ty.z (.int .i64)))==x0) (some (true,())) (L0 x0 x1 x2 (aG (x3+1))))) (some (false,())))
def l0:Nat→T0
 | 0=>fun _ _ _ _=>none
 | n+1=>b0 k (l0 n)
def t (k:Nat) (L0:T0) (a0:List Int) (a1:Int):Rs :=
 (L0 a1 a0 (a0.length:Int) 0)
def f:=t k (l0 k k)
end o5
namespace mW
abbrev Rs:Type:=Option ((List ByteArray) × Unit)
abbrev T0:Type:=List (Ty.d aD)→Int→Int→Int→List Int→List ByteArray→Rs
def b0 (L0:T0):T0:=fun x0 x1 x2 x3 x4 x5 =>
 (cond (decide (x2<x1)) (aw x2 (x0.length:Int) ((q5.f k (x0.getD x2.toNat (Ty.z aD)).1).bind fun r2=>cond (seq (x0.getD x2.toNat (Ty.z aD)).1 (⟨#[116,101,109,112]⟩:ByteArray)) (rm (Ty.bytes .str) (x5.length+1) (L0 x0 x1 (aG (x2+1)) x3 x4 (x5++[(x0.getD x2.toNat (Ty.z aD)).1]))) (cond r2.2.1 ((o5.f k x4 r2.1).bind fun r3=>cond (!r3.1) (rm (Ty.bytes .str) (x5.length+1) (L0 x0 x1 (aG (x2+1)) x3 x4 (x5++[(x0.getD x2.toNat (Ty.z aD)).1]))) (L0 x0 x1 (aG (x2+1)) x3 x4 x5)) (L0 x0 x1 (aG (x2+1)) x3 x4 x5)))) (some (x5,())))
def l0:Nat→T0
 | 0=>fun _ _ _ _ _ _=>none
 | n+1=>b0 k (l0 n)
def t (L0:T0) (a0:Ty.d aB) (a1:Ty.d bo):Rs :=
 ((ay.f k a0).bind fun r1=>cond (!r1.1) (some ([],())) (L0 a0.1 (a0.1.length:Int) 0 a1.1 a1.2.1 []))
def f:=t k (l0 k k)
end mW
namespace gj
abbrev Rs:Type:=Option ((Ty.d aB) × Unit)
def t (a0:Ty.d aB) (a1:ByteArray):Rs :=
 ((bN.f k a0 a1).bind fun r1=>cond (decide (r1.1≥0)) (pE r1.1 (a0.1.length:Int) (rm (Ty.bytes aD) ((a0.1.take r1.1.toNat).length) (pE (aG (r1.1+1)) (a0.1.length:Int) (rm (Ty.bytes aD) ((a0.1.take r1.1.toNat).length+List.length (a0.1.drop (aG (r1.1+1)).toNat)) (some ((((a0.1.take r1.1.toNat)++(a0.1.drop (aG (r1.1+1)).toNat)),a0.2),())))))) (some (a0,())))
def f:=t k
end gj
namespace kf
abbrev Rs:Type:=Option ((Ty.d aB) × ByteArray × Int × Unit)
def t (a0:Ty.d aB) (a1:ByteArray):Rs :=
 ((bN.f k a0 a1).bind fun r1=>cond (decide (r1.1<0)) (some (a0,(a1,(3,())))) ((gj.f k a0 a1).bind fun r2=>some (r2.1,(a1,(0,())))))
def f:=t k
end kf
namespace j2
abbrev Rs:Type:=Option (ByteArray × (Ty.d aB) × Int × Unit)
def t (a0:Ty.d aB) (a1:ByteArray):Rs :=
 ((bD.f k a0).bind fun r1=>(ay.f k a0).bind fun r2=>cond (!r2.1) (some (a1,(r1.1,(5,())))) (cond a0.2.2.2.1 (some (a1,((r1.1.1,(r1.1.2.1,(r1.1.2.2.1,(true,())))),(1,())))) (cond (a0.2.2.1==0) (some (a1,((r1.1.1,(r1.1.2.1,(r1.1.2.2.1,(true,())))),(1,())))) (cond (decide (a0.2.2.1 > 0)) ((kf.f k (r1.1.1,(r1.1.2.1,((aG (r1.1.2.2.1-1)),r1.1.2.2.2))) a1).bind fun r3=>some (r3.2.1,(r3.1,r3.2.2))) ((kf.f k r1.1 a1).bind fun r4=>some (r4.2.1,(r4.1,r4.2.2)))))))
def f:=t k
end j2
namespace nn
abbrev Rs:Type:=Option ((Ty.d aB) × Int × Unit)
def t (a0:Ty.d aB) (a1:ByteArray):Rs :=
 ((j2.f k a0 a1).bind fun r1=>some r1.2)
def f:=t k
end nn
namespace bu
abbrev Rs:Type:=Option ((Ty.d aq) × Unit)
def t (a0:Ty.d aq) (a1:ByteArray):Rs :=
 (cond (a0.2.1==0) ((bN.f k a0.1 a1).bind fun r1=>cond (decide (r1.1≥0)) ((nn.f k a0.1 a1).bind fun r2=>(bH.f k a0 r2.1 r2.2.1).bind fun r3=>some r3) (some (a0,()))) (some (a0,())))
def f:=t k
end bu
namespace d7
abbrev Rs:Type:=Option ((Ty.d aq) × Unit)
abbrev T0:Type:=Int→Int→List (Ty.d aD)→Int→Int→Bool→Int→List ByteArray→Rs
def b0 (L0:T0):T0:=fun x0 x1 x2 x3 x4 x5 x6 x7 =>
 (cond (decide (x1<x0)) (aw x1 (x7.length:Int) ((bu.f k ((x2,(x3,(x4,(x5,())))),(x6,())) (x7.getD x1.toNat (Ty.z .str))).bind fun r2=>L0 x0 (aG (x1+1)) r2.1.1.1 r2.1.1.2.1 r2.1.1.2.2.1 r2.1.1.2.2.2.1 r2.1.2.1 x7)) (some (((x2,(x3,(x4,(x5,())))),(x6,())),())))
def l0:Nat→T0
 | 0=>fun _ _ _ _ _ _ _ _=>none
 | n+1=>b0 k (l0 n)
def t (L0:T0) (a0:Ty.d aq) (a1:Ty.d bo):Rs :=
 ((mW.f k a0.1 a1).bind fun r1=>L0 (r1.1.length:Int) 0 a0.1.1 a0.1.2.1 a0.1.2.2.1 a0.1.2.2.2.1 a0.2.1 r1.1)
def f:=t k (l0 k k)
end d7
namespace j3
abbrev Rs:Type:=Option ((Ty.d aq) × (Ty.d aF) × Unit)
abbrev T0:Type:=List (List (Ty.d aC))→Int→Int→List (Ty.d aD)→Int→Int→Bool→Int→List Int→List (Ty.d a_)→Int→Int→Int→Int→List Int→Int→List (Ty.d a_)→Int→Int→Int→Int→List (Ty.d a_)→Int→Int→List (Ty.d aC)→Rs
abbrev T1:Type:=Int→Int→List (Ty.d aD)→Int→Int→Bool→Int→List Int→List (Ty.d a_)→Int→Int→Int→Int→List Int→Int→List (Ty.d a_)→Int→Int→Int→Int→List (Ty.d a_)→Int→Int→List (Ty.d aC)→List (List (Ty.d aC))→Rs
abbrev T2:Type:=List (List (Ty.d aC))→Int→Int→List (Ty.d aD)→Int→Int→Bool→Int→List Int→List (Ty.d a_)→Int→Int→Int→Int→List Int→Int→List (Ty.d a_)→Int→Int→Int→Int→List (Ty.d a_)→Int→Int→List (Ty.d aC)→Rs
abbrev T3:Type:=Int→Int→List (Ty.d aD)→Int→Int→Bool→Int→List Int→List (Ty.d a_)→Int→Int→Int→Int→List Int→Int→List (Ty.d a_)→Int→Int→Int→Int→List (Ty.d a_)→Int→Int→List (Ty.d aC)→List (List (Ty.d aC))→Rs
def b0 (L0:T0):T0:=fun x0 x1 x2 x3 x4 x5 x6 x7 x8 x9 x10 x11 x12 x13 x14 x15 x16 x17 x18 x19 x20 x21 x22 x23 x24 =>
 (cond (decide (x2<x1)) (aw x2 (x0.length:Int) (rm (Ty.bytes aC) (x24.length+List.length (x0.getD x2.toNat (Ty.z (.slice aC)))) (L0 x0 x1 (aG (x2+1)) x3 x4 x5 x6 x7 x8 x9 x10 x11 x12 x13 x14 x15 x16 x17 x18 x19 x20 x21 x22 x23 (x24++(x0.getD x2.toNat (Ty.z (.slice aC))))))) ((jW.f k (x21,(x22,(x23,()))) x24).bind fun r9=>cond (r9.1.2.2.1 != 0) (some (((x3,(x4,(x5,(x6,())))),(3,())),(((0,([],())),([],(0,(0,(0,()))))),()))) ((d7.f k ((x3,(x4,(x5,(x6,())))),(x7,())) (x15,(x14,()))).bind fun r10=>some (r10.1,(((x17,(x14,())),(r9.1.1,((aG (r9.1.2.1+1)),(x19,(x20,()))))),())))))
def l0:Nat→T0
 | 0=>fun _ _ _ _ _ _ _ _ _ _ _ _ _ _ _ _ _ _ _ _ _ _ _ _ _=>none
 | n+1=>b0 k (l0 n)
def b1 (L1:T1):T1:=fun x0 x1 x2 x3 x4 x5 x6 x7 x8 x9 x10 x11 x12 x13 x14 x15 x16 x17 x18 x19 x20 x21 x22 x23 x24 =>
 (cond (decide (x1<x0)) (aw x1 (x24.length:Int) (rm (Ty.bytes aC) (x23.length+List.length (x24.getD x1.toNat (Ty.z (.slice aC)))) (L1 x0 (aG (x1+1)) x2 x3 x4 x5 x6 x7 x8 x9 x10 x11 x12 x13 x14 x15 x16 x17 x18 x19 x20 x21 x22 (x23++(x24.getD x1.toNat (Ty.z (.slice aC)))) x24))) ((jW.f k (x20,(x21,(x22,()))) x23).bind fun r11=>cond (r11.1.2.2.1 != 0) (some (((x2,(x3,(x4,(x5,())))),(3,())),(((0,([],())),([],(0,(0,(0,()))))),()))) ((d7.f k ((x2,(x3,(x4,(x5,())))),(x6,())) (x14,(x13,()))).bind fun r12=>some (r12.1,(((x16,(x13,())),(r11.1.1,((aG (r11.1.2.1+1)),(x18,(x19,()))))),())))))
def l1:Nat→T1
 | 0=>fun _ _ _ _ _ _ _ _ _ _ _ _ _ _ _ _ _ _ _ _ _ _ _ _ _=>none
 | n+1=>b1 k (l1 n)
def b2 (L2:T2):T2:=fun x0 x1 x2 x3 x4 x5 x6 x7 x8 x9 x10 x11 x12 x13 x14 x15 x16 x17 x18 x19 x20 x21 x22 x23 x24 =>
 (cond (decide (x2<x1)) (aw x2 (x0.length:Int) (rm (Ty.bytes aC) (x24.length+List.length (x0.getD x2.toNat (Ty.z (.slice aC)))) (L2 x0 x1 (aG (x2+1)) x3 x4 x5 x6 x7 x8 x9 x10 x11 x12 x13 x14 x15 x16 x17 x18 x19 x20 x21 x22 x23 (x24++(x0.getD x2.toNat (Ty.z (.slice aC))))))) ((jW.f k (x21,(x22,(x23,()))) x24).bind fun r15=>cond (r15.1.2.2.1 != 0) (some (((x3,(x4,(x5,(x6,())))),(3,())),(((0,([],())),([],(0,(0,(0,()))))),()))) ((d7.f k ((x3,(x4,(x5,(x6,())))),(x7,())) (x15,(x14,()))).bind fun r16=>some (r16.1,(((x17,(x14,())),(r15.1.1,((aG (r15.1.2.1+1)),(x19,(x20,()))))),())))))
def l2:Nat→T2
 | 0=>fun _ _ _ _ _ _ _ _ _ _ _ _ _ _ _ _ _ _ _ _ _ _ _ _ _=>none
 | n+1=>b2 k (l2 n)
def b3 (L3:T3):T3:=fun x0 x1 x2 x3 x4 x5 x6 x7 x8 x9 x10 x11 x12 x13 x14 x15 x16 x17 x18 x19 x20 x21 x22 x23 x24 =>
 (cond (decide (x1<x0)) (aw x1 (x24.length:Int) (rm (Ty.bytes aC) (x23.length+List.length (x24.getD x1.toNat (Ty.z (.slice aC)))) (L3 x0 (aG (x1+1)) x2 x3 x4 x5 x6 x7 x8 x9 x10 x11 x12 x13 x14 x15 x16 x17 x18 x19 x20 x21 x22 (x23++(x24.getD x1.toNat (Ty.z (.slice aC)))) x24))) ((jW.f k (x20,(x21,(x22,()))) x23).bind fun r17=>cond (r17.1.2.2.1 != 0) (some (((x2,(x3,(x4,(x5,())))),(3,())),(((0,([],())),([],(0,(0,(0,()))))),()))) ((d7.f k ((x2,(x3,(x4,(x5,())))),(x6,())) (x14,(x13,()))).bind fun r18=>some (r18.1,(((x16,(x13,())),(r17.1.1,((aG (r17.1.2.1+1)),(x18,(x19,()))))),())))))
def l3:Nat→T3
 | 0=>fun _ _ _ _ _ _ _ _ _ _ _ _ _ _ _ _ _ _ _ _ _ _ _ _ _=>none
 | n+1=>b3 k (l3 n)
def t (L0:T0) (L1:T1) (L2:T2) (L3:T3) (a0:Ty.d aq) (a1:ByteArray):Rs :=
 ((lp.f k a1).bind fun r1=>(iG.f k a0 r1.1).bind fun r2=>cond (!r1.2.1) (some ((r2.1.1,(3,())),(((0,([],())),([],(0,(0,(0,()))))),()))) (cond (!r2.2.2.2.1) (some ((r2.1.1,(3,())),(((0,([],())),([],(0,(0,(0,()))))),()))) (aw (aG ((r1.1.2.1.length:Int)-1)) (r1.1.2.1.length:Int) ((ak.f k (r1.1.2.1.getD (aG ((r1.1.2.1.length:Int)-1)).toNat (Ty.z (.int .i64)))).bind fun r3=>(bZ.f k r2.1.1 r3.1).bind fun r4=>cond ((r4.1.size:Int) != r2.2.2.1) ((ly.f k r2.1.1 r3.1 r2.2.2.1).bind fun r5=>(bH.f k r2.1 r5.1 r5.2.1).bind fun r6=>(cJ.f k r6.1 r3.1).bind fun r7=>cond (r7.1.2.1 != 0) (some (r7.1,(((0,([],())),([],(0,(0,(0,()))))),()))) (aw 0 (r1.1.2.1.length:Int) ((gg.f k r7.1 (r1.1.2.1.getD 0 (Ty.z (.int .i64)))).bind fun r8=>cond r8.2.2.1 (aw 0 (r1.1.2.1.length:Int) (pE 1 (r2.2.1.length:Int) (L0 (r2.2.1.drop 1) ((r2.2.1.drop 1).length:Int) 0 r8.1.1.1 r8.1.1.2.1 r8.1.1.2.2.1 r8.1.1.2.2.2.1 r8.1.2.1 [] [] 0 0 0 0 r1.1.2.1 r1.1.1 [] r1.1.1 0 r2.2.2.1 (r1.1.2.1.getD 0 (Ty.z (.int .i64))) r8.2.1.1 r8.2.1.2.1 r8.2.1.2.2.1 []))) (L1 (r2.2.1.length:Int) 0 r8.1.1.1 r8.1.1.2.1 r8.1.1.2.2.1 r8.1.1.2.2.2.1 r8.1.2.1 [] [] 0 0 0 0 r1.1.2.1 r1.1.1 [] r1.1.1 0 r2.2.2.1 0 r8.2.1.1 r8.2.1.2.1 r8.2.1.2.2.1 [] r2.2.1)))) ((cJ.f k r2.1 r3.1).bind fun r13=>cond (r13.1.2.1 != 0) (some (r13.1,(((0,([],())),([],(0,(0,(0,()))))),()))) (aw 0 (r1.1.2.1.length:Int) ((gg.f k r13.1 (r1.1.2.1.getD 0 (Ty.z (.int .i64)))).bind fun r14=>cond r14.2.2.1 (aw 0 (r1.1.2.1.length:Int) (pE 1 (r2.2.1.length:Int) (L2 (r2.2.1.drop 1) ((r2.2.1.drop 1).length:Int) 0 r14.1.1.1 r14.1.1.2.1 r14.1.1.2.2.1 r14.1.1.2.2.2.1 r14.1.2.1 [] [] 0 0 0 0 r1.1.2.1 r1.1.1 [] r1.1.1 0 r2.2.2.1 (r1.1.2.1.getD 0 (Ty.z (.int .i64))) r14.2.1.1 r14.2.1.2.1 r14.2.1.2.2.1 []))) (L3 (r2.2.1.length:Int) 0 r14.1.1.1 r14.1.1.2.1 r14.1.1.2.2.1 r14.1.1.2.2.2.1 r14.1.2.1 [] [] 0 0 0 0 r1.1.2.1 r1.1.1 [] r1.1.1 0 r2.2.2.1 0 r14.2.1.1 r14.2.1.2.1 r14.2.1.2.2.1 [] r2.2.1))))))))
def f:=t k (l0 k k) (l1 k k) (l2 k k) (l3 k k)
end j3
namespace j8
abbrev Rs:Type:=Option ((Ty.d aB) × Unit)
abbrev T0:Type:=Int→List (Ty.d aD)→Int→Int→Bool→ByteArray→ByteArray→Int→Rs
def b0 (k:Nat) (L0:T0):T0:=fun x0 x1 x2 x3 x4 x5 x6 x7 =>
 (cond (decide (x0<(x1.length:Int))) (aw x0 (x1.length:Int) (cond (oG (x1.getD x0.toNat (Ty.z aD)).1 x5) (L0 (aG (x0+1)) x1 x2 x3 x4 x5 x6 x7) (pE x0 (x1.length:Int) (rm (Ty.bytes aD) ((x1.take x0.toNat).length) (rm (Ty.bytes aD) ((x1.take x0.toNat).length+1) (pE x0 (x1.length:Int) (rm (Ty.bytes aD) (List.length ((x1.take x0.toNat)++[(x5,(x6,(x7,())))])+List.length (x1.drop x0.toNat)) (some (((((x1.take x0.toNat)++[(x5,(x6,(x7,())))])++(x1.drop x0.toNat)),(x2,(x3,(x4,())))),()))))))))) (pE x0 (x1.length:Int) (rm (Ty.bytes aD) ((x1.take x0.toNat).length) (rm (Ty.bytes aD) ((x1.take x0.toNat).length+1) (pE x0 (x1.length:Int) (rm (Ty.bytes aD) (List.length ((x1.take x0.toNat)++[(x5,(x6,(x7,())))])+List.length (x1.drop x0.toNat)) (some (((((x1.take x0.toNat)++[(x5,(x6,(x7,())))])++(x1.drop x0.toNat)),(x2,(x3,(x4,())))),()))))))))
def l0:Nat→T0
 | 0=>fun _ _ _ _ _ _ _ _=>none
 | n+1=>b0 k (l0 n)
def t (k:Nat) (L0:T0) (a0:Ty.d aB) (a1:Ty.d aD):Rs :=
 (L0 0 a0.1 a0.2.1 a0.2.2.1 a0.2.2.2.1 a1.1 a1.2.1 a1.2.2.1)
def f:=t k (l0 k k)
end j8
namespace kj
abbrev Rs:Type:=Option ((Ty.d aB) × ByteArray × Int × Unit)
def t (a0:Ty.d aB) (a1:ByteArray):Rs :=
 ((eE.f k a1).bind fun r1=>cond (!r1.1) (some (a0,(a1,(5,())))) ((bN.f k a0 a1).bind fun r2=>cond (decide (r2.1≥0)) (some (a0,(a1,(4,())))) (cond (decide ((a0.1.length:Int)≥130)) (some (a0,(a1,(2,())))) ((j8.f k a0 (a1,(ByteArray.empty,(0,())))).bind fun r3=>some (r3.1,(a1,(0,())))))))
def f:=t k
end kj
namespace iy
abbrev Rs:Type:=Option (ByteArray × (Ty.d aB) × Int × Unit)
def t (a0:Ty.d aB) (a1:ByteArray):Rs :=
 ((bD.f k a0).bind fun r1=>(ay.f k a0).bind fun r2=>cond (!r2.1) (some (a1,(r1.1,(5,())))) (cond a0.2.2.2.1 (some (a1,((r1.1.1,(r1.1.2.1,(r1.1.2.2.1,(true,())))),(1,())))) (cond (a0.2.2.1==0) (some (a1,((r1.1.1,(r1.1.2.1,(r1.1.2.2.1,(true,())))),(1,())))) (cond (decide (a0.2.2.1 > 0)) ((kj.f k (r1.1.1,(r1.1.2.1,((aG (r1.1.2.2.1-1)),r1.1.2.2.2))) a1).bind fun r3=>some (r3.2.1,(r3.1,r3.2.2))) ((kj.f k r1.1 a1).bind fun r4=>some (r4.2.1,(r4.1,r4.2.2)))))))
def f:=t k
end iy
namespace na
abbrev Rs:Type:=Option ((Ty.d aB) × Int × Unit)
def t (a0:Ty.d aB) (a1:ByteArray):Rs :=
 ((iy.f k a0 a1).bind fun r1=>some r1.2)
def f:=t k
end na
namespace fc
abbrev Rs:Type:=Option ((Ty.d aq) × Unit)
def t (a0:Ty.d aq) (a1:ByteArray):Rs :=
 (cond (a0.2.1==0) ((na.f k a0.1 a1).bind fun r1=>(bH.f k a0 r1.1 r1.2.1).bind fun r2=>some r2) (some (a0,())))
def f:=t k
end fc
namespace ll
abbrev Rs:Type:=Option (ByteArray × Unit)
def t (a0:Ty.d bo):Rs :=
 ((dK.f k a0).bind fun r1=>cond (!r1.1) (some ((⟨#[]⟩:ByteArray),())) ((k7.f k [a0.1,(a0.2.1.length:Int)]).bind fun r2=>(k7.f k a0.2.1).bind fun r3=>ln r2.1 r3.1 ((gZ.f k (r2.1++r3.1)).bind fun r4=>some r4)))
def f:=t k
end ll
namespace dz
abbrev Rs:Type:=Option ((Ty.d aq) × Unit)
def t (a0:Ty.d aq) (a1:ByteArray):Rs :=
 ((bu.f k a0 a1).bind fun r1=>(fc.f k r1.1 a1).bind fun r2=>some r2)
def f:=t k
end dz
namespace mR
abbrev Rs:Type:=Option (Int × Unit)
abbrev T0:Type:=Int→List (Ty.d aD)→Int→Int→Rs
def b0 (k:Nat) (L0:T0):T0:=fun x0 x1 x2 x3 =>
 (cond (decide (x3<x2)) (aw x3 (x1.length:Int) (L0 (aG (x0+(ByteArray.size (x1.getD x3.toNat (Ty.z aD)).2.1:Int))) x1 x2 (aG (x3+1)))) (some (x0,())))
def l0:Nat→T0
 | 0=>fun _ _ _ _=>none
 | n+1=>b0 k (l0 n)
def t (k:Nat) (L0:T0) (a0:Ty.d aB):Rs :=
 (L0 0 a0.1 (a0.1.length:Int) 0)
def f:=t k (l0 k k)
end mR
namespace kh
abbrev Rs:Type:=Option ((Ty.d aB) × ByteArray × ByteArray × Int × Unit)
def t (a0:Ty.d aB) (a1:ByteArray) (a2:ByteArray):Rs :=
 ((bN.f k a0 a1).bind fun r1=>cond (decide (r1.1<0)) (some (a0,(a1,(a2,(3,()))))) ((mR.f k a0).bind fun r2=>cond (decide ((a2.size:Int) > (aG (a0.2.1-r2.1)))) (some (a0,(a1,(a2,(2,()))))) (aw r1.1 (a0.1.length:Int) (ln (a0.1.getD r1.1.toNat (Ty.z aD)).2.1 a2 (aw r1.1 (a0.1.length:Int) (let l3:=(a0.1.set r1.1.toNat ((a0.1.getD r1.1.toNat (Ty.z aD)).1,(((a0.1.getD r1.1.toNat (Ty.z aD)).2.1++a2),(a0.1.getD r1.1.toNat (Ty.z aD)).2.2)));(some ((l3,a0.2),(a1,(a2,(0,())))))))))))
def f:=t k
end kh
namespace j9
abbrev Rs:Type:=Option (ByteArray × ByteArray × (Ty.d aB) × Int × Unit)
def t (a0:Ty.d aB) (a1:ByteArray) (a2:ByteArray):Rs :=
 ((bD.f k a0).bind fun r1=>(ay.f k a0).bind fun r2=>cond (!r2.1) (some (a1,(a2,(r1.1,(5,()))))) (cond a0.2.2.2.1 (some (a1,(a2,((r1.1.1,(r1.1.2.1,(r1.1.2.2.1,(true,())))),(1,()))))) (cond (a0.2.2.1==0) (some (a1,(a2,((r1.1.1,(r1.1.2.1,(r1.1.2.2.1,(true,())))),(1,()))))) (cond (decide (a0.2.2.1 > 0)) ((kh.f k (r1.1.1,(r1.1.2.1,((aG (r1.1.2.2.1-1)),r1.1.2.2.2))) a1 a2).bind fun r3=>some (r3.2.1,(r3.2.2.1,(r3.1,r3.2.2.2)))) ((kh.f k r1.1 a1 a2).bind fun r4=>some (r4.2.1,(r4.2.2.1,(r4.1,r4.2.2.2))))))))
def f:=t k
end j9
namespace nl
abbrev Rs:Type:=Option ((Ty.d aB) × Int × Unit)
def t (a0:Ty.d aB) (a1:ByteArray) (a2:ByteArray):Rs :=
 ((j9.f k a0 a1 a2).bind fun r1=>some r1.2.2)
def f:=t k
end nl
namespace dx
abbrev Rs:Type:=Option ((Ty.d aq) × Unit)
def t (a0:Ty.d aq) (a1:ByteArray) (a2:ByteArray):Rs :=
 (cond (a0.2.1==0) ((nl.f k a0.1 a1 a2).bind fun r1=>(bH.f k a0 r1.1 r1.2.1).bind fun r2=>some r2) (some (a0,())))
def f:=t k
end dx
namespace fh
abbrev Rs:Type:=Option ((Ty.d aq) × Unit)
def t (a0:Ty.d aq) (a1:ByteArray) (a2:ByteArray):Rs :=
 ((dz.f k a0 a1).bind fun r1=>(dx.f k r1.1 a1 a2).bind fun r2=>(cJ.f k r2.1 a1).bind fun r3=>some r3)
def f:=t k
end fh
namespace ki
abbrev Rs:Type:=Option ((Ty.d aB) × ByteArray × ByteArray × Int × Unit)
def t (a0:Ty.d aB) (a1:ByteArray) (a2:ByteArray):Rs :=
 ((bN.f k a0 a1).bind fun r1=>(eE.f k a2).bind fun r2=>cond (!r2.1) (some (a0,(a1,(a2,(5,()))))) (cond (decide (r1.1<0)) (some (a0,(a1,(a2,(3,()))))) (aw r1.1 (a0.1.length:Int) ((gj.f k a0 a1).bind fun r3=>(gj.f k r3.1 a2).bind fun r4=>(j8.f k r4.1 (a2,(a0.1.getD r1.1.toNat (Ty.z aD)).2)).bind fun r5=>some (r5.1,(a1,(a2,(0,()))))))))
def f:=t k
end ki
namespace jB
abbrev Rs:Type:=Option (ByteArray × ByteArray × (Ty.d aB) × Int × Unit)
def t (a0:Ty.d aB) (a1:ByteArray) (a2:ByteArray):Rs :=
 ((bD.f k a0).bind fun r1=>(ay.f k a0).bind fun r2=>cond (!r2.1) (some (a1,(a2,(r1.1,(5,()))))) (cond a0.2.2.2.1 (some (a1,(a2,((r1.1.1,(r1.1.2.1,(r1.1.2.2.1,(true,())))),(1,()))))) (cond (a0.2.2.1==0) (some (a1,(a2,((r1.1.1,(r1.1.2.1,(r1.1.2.2.1,(true,())))),(1,()))))) (cond (decide (a0.2.2.1 > 0)) ((ki.f k (r1.1.1,(r1.1.2.1,((aG (r1.1.2.2.1-1)),r1.1.2.2.2))) a1 a2).bind fun r3=>some (r3.2.1,(r3.2.2.1,(r3.1,r3.2.2.2)))) ((ki.f k r1.1 a1 a2).bind fun r4=>some (r4.2.1,(r4.2.2.1,(r4.1,r4.2.2.2))))))))
def f:=t k
end jB
namespace nh
abbrev Rs:Type:=Option ((Ty.d aB) × Int × Unit)
def t (a0:Ty.d aB) (a1:ByteArray) (a2:ByteArray):Rs :=
 ((jB.f k a0 a1 a2).bind fun r1=>some r1.2.2)
def f:=t k
end nh
namespace iS
abbrev Rs:Type:=Option ((Ty.d aq) × Unit)
def t (a0:Ty.d aq) (a1:ByteArray) (a2:ByteArray):Rs :=
 (cond (a0.2.1==0) ((nh.f k a0.1 a1 a2).bind fun r1=>(bH.f k a0 r1.1 r1.2.1).bind fun r2=>some r2) (some (a0,())))
def f:=t k
end iS
namespace dV
abbrev Rs:Type:=Option ((Ty.d aq) × Unit)
def t (a0:Ty.d aq) (a1:Ty.d bo):Rs :=
 ((ll.f k a1).bind fun r1=>(fh.f k a0 (⟨#[116,101,109,112]⟩:ByteArray) r1.1).bind fun r2=>(iS.f k r2.1 (⟨#[116,101,109,112]⟩:ByteArray) (⟨#[108,105,118,101]⟩:ByteArray)).bind fun r3=>some r3)
def f:=t k
end dV
namespace iw
abbrev Rs:Type:=Option ((Ty.d aq) × (Ty.d aF) × Unit)
def t (a0:Ty.d aq):Rs :=
 ((d7.f k a0 (0,([],()))).bind fun r1=>(ak.f k 1).bind fun r2=>(fc.f k r1.1 r2.1).bind fun r3=>(dV.f k r3.1 (2,([1],()))).bind fun r4=>some (r4.1,(((2,([1],())),([],(1,(0,(0,()))))),())))
def f:=t k
end iw
namespace pz
abbrev Rs:Type:=Option ((Ty.d aF) × (Ty.d aB) × Int × Unit)
def t (a0:Ty.d aB):Rs :=
 ((bD.f k a0).bind fun r1=>(ay.f k a0).bind fun r2=>cond (!r2.1) (some (((0,([],())),([],(0,(0,(0,()))))),(r1.1,(4,())))) (cond a0.2.2.2.1 (some (((0,([],())),([],(0,(0,(0,()))))),(r1.1,(1,())))) ((bZ.f k a0 (⟨#[108,105,118,101]⟩:ByteArray)).bind fun r3=>cond r3.2.1 ((j3.f k (r1.1,(0,())) r3.1).bind fun r4=>cond (r4.1.2.1 != 0) (some (((0,([],())),([],(0,(0,(0,()))))),r4.1)) (some (r4.2.1,(r4.1.1,(0,()))))) ((iw.f k (r1.1,(0,()))).bind fun r5=>cond (r5.1.2.1 != 0) (some (((0,([],())),([],(0,(0,(0,()))))),r5.1)) (some (r5.2.1,(r5.1.1,(0,()))))))))
def f:=t k
end pz
namespace jr
abbrev Rs:Type:=Option ((Ty.d aV) × Int × Unit)
def t (a0:Ty.d aB):Rs :=
 ((pz.f k a0).bind fun r1=>vJ (Ty.bytes an) 3 (some (((r1.2.2.1==0),(r1.1,(r1.2.1,((List.replicate (Int.toNat 3) (Ty.z an)),())))),r1.2.2)))
def f:=t k
end jr
namespace dq
abbrev Rs:Type:=Option ((List ByteArray) × Unit)
abbrev T0:Type:=List (Ty.d a_)→Int→Int→List ByteArray→Rs
def b0 (k:Nat) (L0:T0):T0:=fun x0 x1 x2 x3 =>
 (cond (decide (x2<x1)) (aw x2 (x0.length:Int) (rm (Ty.bytes .str) (x3.length+1) (L0 x0 x1 (aG (x2+1)) (x3++[(x0.getD x2.toNat (Ty.z a_)).1])))) (some (x3,())))
def l0:Nat→T0
 | 0=>fun _ _ _ _=>none
 | n+1=>b0 k (l0 n)
def t (k:Nat) (L0:T0) (a0:List (Ty.d a_)):Rs :=
 (L0 a0 (a0.length:Int) 0 [])
def f:=t k (l0 k k)
end dq
namespace fM
abbrev Rs:Type:=Option ((Ty.d a_) × Bool × Unit)
abbrev T0:Type:=ByteArray→List (Ty.d a_)→Int→Int→ByteArray→Int→Int→Int→Int→Rs
def b0 (k:Nat) (L0:T0):T0:=fun x0 x1 x2 x3 x4 x5 x6 x7 x8 =>
 (cond (decide (x3<x2)) (aw x3 (x1.length:Int) (cond (seq (x1.getD x3.toNat (Ty.z a_)).1 x0) (some ((x1.getD x3.toNat (Ty.z a_)),(true,()))) (L0 x0 x1 x2 (aG (x3+1)) x4 x5 x6 x7 x8))) (some ((ByteArray.empty,(0,(0,(0,(0,()))))),(false,()))))
def l0:Nat→T0
 | 0=>fun _ _ _ _ _ _ _ _ _=>none
 | n+1=>b0 k (l0 n)
def t (k:Nat) (L0:T0) (a0:List (Ty.d a_)) (a1:ByteArray):Rs :=
 (L0 a1 a0 (a0.length:Int) 0 ByteArray.empty 0 0 0 0)
def f:=t k (l0 k k)
end fM
namespace jc
abbrev Rs:Type:=Option ((Ty.d bA) × Bool × Unit)
def t (a0:ByteArray) (a1:Int) (a2:Int):Rs :=
 ((ap.f k a1 0 (a0.size:Int)).bind fun r1=>cond (!r1.1) (some ((0,(0,(ByteArray.empty,(ByteArray.empty,(0,(0,())))))),(false,()))) ((ap.f k a2 0 (aG ((a0.size:Int)-a1))).bind fun r2=>cond (!r2.1) (some ((0,(0,(ByteArray.empty,(ByteArray.empty,(0,(0,())))))),(false,()))) (G9 a1 (aG (a1+a2)) (a0.size:Int) ((dr.f k (a0.extract a1.toNat (aG (a1+a2)).toNat)).bind fun r3=>cond (r3.2.1==0) (some ((0,(0,(ByteArray.empty,(ByteArray.empty,(0,(0,())))))),(false,()))) (cond (r3.2.1 != a2) (some ((0,(0,(ByteArray.empty,(ByteArray.empty,(0,(0,())))))),(false,()))) ((d6.f k r3.1).bind fun r4=>some r4))))))
def f:=t k
end jc
namespace lx
abbrev Rs:Type:=Option ((Ty.d aD) × Int × Unit)
def t (a0:Ty.d aF) (a1:Ty.d aB) (a2:ByteArray):Rs :=
 ((fM.f k a0.2.1 a2).bind fun r1=>cond (!r1.2.1) (some ((ByteArray.empty,(ByteArray.empty,(0,()))),(8,()))) ((ak.f k r1.1.2.1).bind fun r2=>(bZ.f k a1 r2.1).bind fun r3=>(jc.f k r3.1 r1.1.2.2.1 r1.1.2.2.2.1).bind fun r4=>cond (!r4.2.1) (some ((ByteArray.empty,(ByteArray.empty,(0,()))),(3,()))) (cond (r4.1.1 != 1) (cond (r4.1.1 != 4) (some ((ByteArray.empty,(ByteArray.empty,(0,()))),(3,()))) (cond (!(seq r4.1.2.2.1 a2)) (some ((ByteArray.empty,(ByteArray.empty,(0,()))),(3,()))) (some ((r4.1.2.2.1,(r4.1.2.2.2.1,(r4.1.2.1,()))),(0,()))))) (cond (!(seq r4.1.2.2.1 a2)) (some ((ByteArray.empty,(ByteArray.empty,(0,()))),(3,()))) (some ((r4.1.2.2.1,(r4.1.2.2.2.1,(r4.1.2.1,()))),(0,())))))))
def f:=t k
end lx
namespace qB
abbrev Rs:Type:=Option ((List (Ty.d aD)) × Int × Unit)
abbrev T0:Type:=Int→Int→Int→List Int→List (Ty.d a_)→Int→Int→Int→List (Ty.d aD)→Int→Int→Bool→List (Ty.d aD)→List ByteArray→Rs
def b0 (L0:T0):T0:=fun x0 x1 x2 x3 x4 x5 x6 x7 x8 x9 x10 x11 x12 x13 =>
 (cond (decide (x1<x0)) (aw x1 (x13.length:Int) ((lx.f k ((x2,(x3,())),(x4,(x5,(x6,(x7,()))))) (x8,(x9,(x10,(x11,())))) (x13.getD x1.toNat (Ty.z .str))).bind fun r2=>cond (r2.2.1 != 0) (some ([],r2.2)) (rm (Ty.bytes aD) (x12.length+1) (L0 x0 (aG (x1+1)) x2 x3 x4 x5 x6 x7 x8 x9 x10 x11 (x12++[r2.1]) x13)))) (some (x12,(0,()))))
def l0:Nat→T0
 | 0=>fun _ _ _ _ _ _ _ _ _ _ _ _ _ _=>none
 | n+1=>b0 k (l0 n)
def t (L0:T0) (a0:Ty.d aF) (a1:Ty.d aB):Rs :=
 ((dq.f k a0.2.1).bind fun r1=>L0 (r1.1.length:Int) 0 a0.1.1 a0.1.2.1 a0.2.1 a0.2.2.1 a0.2.2.2.1 a0.2.2.2.2.1 a1.1 a1.2.1 a1.2.2.1 a1.2.2.2.1 [] r1.1)
def f:=t k (l0 k k)
end qB
namespace cQ
abbrev Rs:Type:=Option (Bool × Unit)
abbrev T1:Type:=List (Ty.d a_)→Int→Int→Int→List Int→List (Ty.d a_)→Int→Int→Int→List (Ty.d aD)→Int→Int→Bool→Rs
abbrev T0:Type:=List Int→Int→Int→Int→List Int→List (Ty.d a_)→Int→Int→Int→List (Ty.d aD)→Int→Int→Bool→Rs
def b1 (L1:T1):T1:=fun x0 x1 x2 x3 x4 x5 x6 x7 x8 x9 x10 x11 x12 =>
 (cond (decide (x2<x1)) (aw x2 (x0.length:Int) ((ak.f k (x0.getD x2.toNat (Ty.z a_)).2.1).bind fun r8=>(bZ.f k (x9,(x10,(x11,(x12,())))) r8.1).bind fun r9=>(jc.f k r9.1 (x0.getD x2.toNat (Ty.z a_)).2.2.1 (x0.getD x2.toNat (Ty.z a_)).2.2.2.1).bind fun r10=>cond (!r10.2.1) (some (false,())) (cond (r10.1.1 != 1) (cond (r10.1.1 != 4) (some (false,())) (cond (!(seq r10.1.2.2.1 (x0.getD x2.toNat (Ty.z a_)).1)) (some (false,())) (cond (r10.1.2.1 != (x0.getD x2.toNat (Ty.z a_)).2.2.2.2.1) (some (false,())) (cond (decide ((x0.getD x2.toNat (Ty.z a_)).2.2.2.2.1≥x6)) (some (false,())) (L1 x0 x1 (aG (x2+1)) x3 x4 x5 x6 x7 x8 x9 x10 x11 x12))))) (cond (!(seq r10.1.2.2.1 (x0.getD x2.toNat (Ty.z a_)).1)) (some (false,())) (cond (r10.1.2.1 != (x0.getD x2.toNat (Ty.z a_)).2.2.2.2.1) (some (false,())) (cond (decide ((x0.getD x2.toNat (Ty.z a_)).2.2.2.2.1≥x6)) (some (false,())) (L1 x0 x1 (aG (x2+1)) x3 x4 x5 x6 x7 x8 x9 x10 x11 x12))))))) (some (true,())))
def l1:Nat→T1
 | 0=>fun _ _ _ _ _ _ _ _ _ _ _ _ _=>none
 | n+1=>b1 k (l1 n)
def b0 (L1:T1) (L0:T0):T0:=fun x0 x1 x2 x3 x4 x5 x6 x7 x8 x9 x10 x11 x12 =>
 (cond (decide (x2<x1)) (aw x2 (x0.length:Int) ((ak.f k (x0.getD x2.toNat (Ty.z (.int .i64)))).bind fun r5=>(bZ.f k (x9,(x10,(x11,(x12,())))) r5.1).bind fun r6=>(d8.f k r6.1).bind fun r7=>cond (!r6.2.1) (some (false,())) (cond (r7.2.1 != (r6.1.size:Int)) (some (false,())) (cond (x2==(aG ((x4.length:Int)-1))) (cond (x7 != r7.2.1) (some (false,())) (L0 x0 x1 (aG (x2+1)) x3 x4 x5 x6 x7 x8 x9 x10 x11 x12)) (L0 x0 x1 (aG (x2+1)) x3 x4 x5 x6 x7 x8 x9 x10 x11 x12))))) (L1 x5 (x5.length:Int) 0 x3 x4 x5 x6 x7 x8 x9 x10 x11 x12))
def l0:Nat→T0
 | 0=>fun _ _ _ _ _ _ _ _ _ _ _ _ _=>none
 | n+1=>b0 k (l1 k k) (l0 n)
def t (L0:T0) (a0:Ty.d aF) (a1:Ty.d aB):Rs :=
 ((ay.f k a1).bind fun r1=>cond (!r1.1) (some (false,())) ((dK.f k a0.1).bind fun r2=>cond (!r2.1) (some (false,())) ((fF.f k a0.2.1).bind fun r3=>cond (!r3.1) (some (false,())) ((ap.f k a0.2.2.1 1 1000001).bind fun r4=>cond (!r4.1) (some (false,())) (L0 a0.1.2.1 (a0.1.2.1.length:Int) 0 a0.1.1 a0.1.2.1 a0.2.1 a0.2.2.1 a0.2.2.2.1 a0.2.2.2.2.1 a1.1 a1.2.1 a1.2.2.1 a1.2.2.2.1)))))
def f:=t k (l0 k k)
end cQ
namespace ox
abbrev Rs:Type:=Option ((List (Ty.d bA)) × Unit)
abbrev T0:Type:=List (Ty.d aD)→Int→List (Ty.d aD)→Int→Int→List (Ty.d bA)→Rs
def b0 (L0:T0):T0:=fun x0 x1 x2 x3 x4 x5 =>
 (cond (decide (x4<x3)) (aw x4 (x2.length:Int) (rm (Ty.bytes bA) (x5.length+1) (L0 x0 x1 x2 x3 (aG (x4+1)) (x5++[(4,((x2.getD x4.toNat (Ty.z aD)).2.2.1,((x2.getD x4.toNat (Ty.z aD)).1,((x2.getD x4.toNat (Ty.z aD)).2.1,(0,(0,()))))))])))) ((kS.f k x5).bind fun r1=>rm (Ty.bytes bA) (x5.length+1) (some ((x5++[(5,(x1,(ByteArray.empty,(ByteArray.empty,((x0.length:Int),r1)))))]),()))))
def l0:Nat→T0
 | 0=>fun _ _ _ _ _ _=>none
 | n+1=>b0 k (l0 n)
def t (k:Nat) (L0:T0) (a0:List (Ty.d aD)) (a1:Int):Rs :=
 (L0 a0 a1 a0 (a0.length:Int) 0 [])
def f:=t k (l0 k k)
end ox
namespace g9
abbrev Rs:Type:=Option ((Ty.d aq) × (List (Ty.d a_)) × Unit)
abbrev T0:Type:=Int→Int→List (Ty.d bA)→Int→Int→List (Ty.d aD)→Int→Int→Bool→Int→List (Ty.d a_)→Rs
def b0 (L0:T0):T0:=fun x0 x1 x2 x3 x4 x5 x6 x7 x8 x9 x10 =>
 (cond (decide (x4<x3)) (aw x4 (x2.length:Int) ((iX.f k (x2.getD x4.toNat (Ty.z bA))).bind fun r3=>(gZ.f k r3.1).bind fun r4=>(ak.f k x0).bind fun r5=>(dx.f k ((x5,(x6,(x7,(x8,())))),(x9,())) r5.1 r4.1).bind fun r6=>cond ((x2.getD x4.toNat (Ty.z bA)).1==4) (rm (Ty.bytes a_) (x10.length+1) (L0 x0 (aG (x1+(r4.1.size:Int))) x2 x3 (aG (x4+1)) r6.1.1.1 r6.1.1.2.1 r6.1.1.2.2.1 r6.1.1.2.2.2.1 r6.1.2.1 (x10++[((x2.getD x4.toNat (Ty.z bA)).2.2.1,(x0,(x1,((r4.1.size:Int),((x2.getD x4.toNat (Ty.z bA)).2.1,())))))]))) (L0 x0 (aG (x1+(r4.1.size:Int))) x2 x3 (aG (x4+1)) r6.1.1.1 r6.1.1.2.1 r6.1.1.2.2.1 r6.1.1.2.2.2.1 r6.1.2.1 x10))) ((ak.f k x0).bind fun r7=>(cJ.f k ((x5,(x6,(x7,(x8,())))),(x9,())) r7.1).bind fun r8=>(ak.f k (aG (x0+1))).bind fun r9=>(dz.f k r8.1 r9.1).bind fun r10=>some (r10.1,(x10,()))))
def l0:Nat→T0
 | 0=>fun _ _ _ _ _ _ _ _ _ _ _=>none
 | n+1=>b0 k (l0 n)
def t (L0:T0) (a0:Ty.d aq) (a1:Int) (a2:List (Ty.d bA)):Rs :=
 ((ak.f k a1).bind fun r1=>(dz.f k a0 r1.1).bind fun r2=>L0 a1 0 a2 (a2.length:Int) 0 r2.1.1.1 r2.1.1.2.1 r2.1.1.2.2.1 r2.1.1.2.2.2.1 r2.1.2.1 [])
def f:=t k (l0 k k)
end g9
namespace gU
abbrev Rs:Type:=Option ((Ty.d aq) × Unit)
def t (a0:Ty.d aq) (a1:Int):Rs :=
 (cond (a0.2.1 != 0) (some (a0,())) ((ak.f k a1).bind fun r1=>(bZ.f k a0.1 r1.1).bind fun r2=>(lH.f k a1 r2.1).bind fun r3=>(fV.f k a1).bind fun r4=>(ig.f k r3.1).bind fun r5=>(fh.f k a0 r4.1 r5.1).bind fun r6=>cond (r6.1.2.1==2) ((fV.f k a1).bind fun r7=>(bu.f k (r6.1.1,(0,())) r7.1).bind fun r8=>some r8) (some r6)))
def f:=t k
end gU
namespace fS
abbrev Rs:Type:=Option ((Ty.d aq) × Unit)
abbrev T1:Type:=List ByteArray→Int→Int→Int→Int→Bool→Int→List (Ty.d aD)→Int→Int→Bool→Int→Rs
abbrev T0:Type:=List ByteArray→Int→Int→List (Ty.d aD)→Int→Int→Bool→Int→Int→Int→Bool→Int→Rs
def b1 (L1:T1):T1:=fun x0 x1 x2 x3 x4 x5 x6 x7 x8 x9 x10 x11 =>
 (cond (decide (x2<x1)) (aw x2 (x0.length:Int) ((bu.f k ((x7,(x8,(x9,(x10,())))),(x11,())) (x0.getD x2.toNat (Ty.z .str))).bind fun r2=>L1 x0 x1 (aG (x2+1)) x3 x4 x5 x6 r2.1.1.1 r2.1.1.2.1 r2.1.1.2.2.1 r2.1.1.2.2.2.1 r2.1.2.1)) (cond (x11 != 0) (some (((x7,(x8,(x9,(x10,())))),(x11,())),())) (some (((x7,(x8,(x9,(x10,())))),(x6,())),()))))
def l1:Nat→T1
 | 0=>fun _ _ _ _ _ _ _ _ _ _ _ _=>none
 | n+1=>b1 k (l1 n)
def b0 (L1:T1):T0:=fun x0 x1 x2 x3 x4 x5 x6 x7 x8 x9 x10 x11 =>
 (cond (decide (x2<x1)) (aw x2 (x0.length:Int) ((bu.f k ((x3,(x8,(x9,(x10,())))),(x11,())) (x0.getD x2.toNat (Ty.z .str))).bind fun r1=>L1 x0 x1 (aG (x2+1)) x4 x5 x6 x7 r1.1.1.1 r1.1.1.2.1 r1.1.1.2.2.1 r1.1.1.2.2.2.1 r1.1.2.1)) (cond (x11 != 0) (some (((x3,(x8,(x9,(x10,())))),(x11,())),())) (some (((x3,(x8,(x9,(x10,())))),(x7,())),()))))
def l0:Nat→T0
 | 0=>fun _ _ _ _ _ _ _ _ _ _ _ _=>none
 | n+1=>b0 k (l1 k n)
def t (k:Nat) (L0:T0) (a0:Ty.d aq) (a1:List ByteArray):Rs :=
 (cond (a0.2.1 != 2) (some (a0,())) (L0 a1 (a1.length:Int) 0 a0.1.1 a0.1.2.1 a0.1.2.2.1 a0.1.2.2.2.1 a0.2.1 a0.1.2.1 a0.1.2.2.1 a0.1.2.2.2.1 0))
def f:=t k (l0 k k)
end fS
namespace jM
abbrev Rs:Type:=Option ((Ty.d aF) × (Ty.d aq) × Unit)
abbrev T0:Type:=Int→Int→List Int→List (Ty.d a_)→Int→Int→Int→Int→List (Ty.d aD)→Int→Int→Bool→Int→List Int→Rs
def b0 (L0:T0):T0:=fun x0 x1 x2 x3 x4 x5 x6 x7 x8 x9 x10 x11 x12 x13 =>
 (cond (decide (x1<x0)) (aw x1 (x13.length:Int) ((ak.f k (x13.getD x1.toNat (Ty.z (.int .i64)))).bind fun r9=>(bu.f k ((x8,(x9,(x10,(x11,())))),(x12,())) r9.1).bind fun r10=>(fV.f k (x13.getD x1.toNat (Ty.z (.int .i64)))).bind fun r11=>(bu.f k r10.1 r11.1).bind fun r12=>L0 x0 (aG (x1+1)) x2 x3 x4 x5 x6 x7 r12.1.1.1 r12.1.1.2.1 r12.1.1.2.2.1 r12.1.1.2.2.2.1 r12.1.2.1 x13)) (some (((x4,(x2,())),(x3,(x5,(x6,(x7,()))))),(((x8,(x9,(x10,(x11,())))),(x12,())),()))))
def l0:Nat→T0
 | 0=>fun _ _ _ _ _ _ _ _ _ _ _ _ _ _=>none
 | n+1=>b0 k (l0 n)
def t (L0:T0) (a0:Ty.d aF) (a1:Ty.d aq) (a2:List (Ty.d aD)):Rs :=
 ((ox.f k a2 (aG (a0.2.2.1-1))).bind fun r1=>(g9.f k a1 a0.1.1 r1.1).bind fun r2=>(gU.f k r2.1 a0.1.1).bind fun r3=>cond (r3.1.2.1==0) ((dV.f k r3.1 ((aG (a0.1.1+2)),([a0.1.1,(aG (a0.1.1+1))],()))).bind fun r4=>cond (r4.1.2.1 != 0) ((ak.f k a0.1.1).bind fun r5=>(ak.f k (aG (a0.1.1+1))).bind fun r6=>(fV.f k a0.1.1).bind fun r7=>(fS.f k r4.1 [(⟨#[116,101,109,112]⟩:ByteArray),r5.1,r6.1,r7.1]).bind fun r8=>some ((((aG (a0.1.1+2)),a0.1.2),a0.2),r8)) (L0 (a0.1.2.1.length:Int) 0 [a0.1.1,(aG (a0.1.1+1))] r2.2.1 (aG (a0.1.1+2)) a0.2.2.1 0 0 r4.1.1.1 r4.1.1.2.1 r4.1.1.2.2.1 r4.1.1.2.2.2.1 r4.1.2.1 a0.1.2.1)) (cond (r3.1.2.1 != 0) ((ak.f k a0.1.1).bind fun r13=>(ak.f k (aG (a0.1.1+1))).bind fun r14=>(fV.f k a0.1.1).bind fun r15=>(fS.f k r3.1 [(⟨#[116,101,109,112]⟩:ByteArray),r13.1,r14.1,r15.1]).bind fun r16=>some ((((aG (a0.1.1+2)),a0.1.2),a0.2),r16)) (L0 (a0.1.2.1.length:Int) 0 [a0.1.1,(aG (a0.1.1+1))] r2.2.1 (aG (a0.1.1+2)) a0.2.2.1 0 0 r3.1.1.1 r3.1.1.2.1 r3.1.1.2.2.1 r3.1.1.2.2.2.1 r3.1.2.1 a0.1.2.1)))
def f:=t k (l0 k k)
end jM
namespace nD
abbrev Rs:Type:=Option ((Ty.d aF) × (Ty.d aB) × Int × Unit)
def t (a0:Ty.d aF) (a1:Ty.d aB):Rs :=
 ((dA.f k a0).bind fun r1=>(bD.f k a1).bind fun r2=>(qB.f k a0 a1).bind fun r3=>(cQ.f k a0 a1).bind fun r4=>cond (!r4.1) (some (r1.1,(r2.1,(4,())))) (cond (decide ((aG (a0.1.1+2)) > 100000)) (some (r1.1,(r2.1,(5,())))) (cond (r3.2.1 != 0) (some (r1.1,(r2.1,r3.2))) ((jM.f k r1.1 (r2.1,(0,())) r3.1).bind fun r5=>some (r5.1,r5.2.1)))))
def f:=t k
end nD
namespace kK
abbrev Rs:Type:=Option (Bool × Unit)
def t (a0:List (Ty.d an)) (a1:Ty.d az):Rs :=
 ((ap.f k a1.1 1 6).bind fun r1=>cond r1.1 ((ap.f k a1.2.1 0 (aG ((a0.length:Int)-1))).bind fun r2=>cond r2.1 (aw a1.2.1 (a0.length:Int) (some (((a0.getD a1.2.1.toNat (Ty.z an)).1==(a1.1 != 1)),()))) (some (false,()))) (some (false,())))
def f:=t k
end kK
namespace eT
abbrev Rs:Type:=Option ((Ty.d aY) × Bool × Unit)
abbrev T0:Type:=ByteArray→Int→Bool→List (Ty.d bG)→List (Ty.d aY)→ByteArray→Bool→ByteArray→Rs
def b0 (k:Nat) (L0:T0):T0:=fun x0 x1 x2 x3 x4 x5 x6 x7 =>
 (cond (decide (x1≥0)) (aw x1 (x4.length:Int) (cond (seq (x4.getD x1.toNat (Ty.z aY)).1 x0) (aw x1 (x4.length:Int) (some ((x4.getD x1.toNat (Ty.z aY)),(true,())))) (L0 x0 (aG (x1-1)) x2 x3 x4 x5 x6 x7))) (some ((ByteArray.empty,(false,(ByteArray.empty,()))),(false,()))))
def l0:Nat→T0
 | 0=>fun _ _ _ _ _ _ _ _=>none
 | n+1=>b0 k (l0 n)
def t (k:Nat) (L0:T0) (a0:Ty.d an) (a1:ByteArray):Rs :=
 (L0 a1 (aG ((a0.2.2.1.length:Int)-1)) a0.1 a0.2.1 a0.2.2.1 ByteArray.empty false ByteArray.empty)
def f:=t k (l0 k k)
end eT
namespace om
abbrev Rs:Type:=Option ((Ty.d bz) × Bool × Unit)
def t (a0:Ty.d an) (a1:ByteArray):Rs :=
 ((eT.f k a0 a1).bind fun r1=>cond (!r1.2.1) (some ((0,(ByteArray.empty,([],()))),(false,()))) (cond r1.1.2.1 (some ((8,(ByteArray.empty,([],()))),(true,()))) (some ((0,(r1.1.2.2.1,([],()))),(true,())))))
def f:=t k
end om
namespace fW
abbrev Rs:Type:=Option ((Ty.d an) × Int × Unit)
abbrev T0:Type:=ByteArray→Int→Bool→List (Ty.d bG)→Int→Int→Bool→List (Ty.d bG)→List (Ty.d aY)→List (Ty.d bG)→List (Ty.d aY)→Bool→List (Ty.d bG)→List (Ty.d aY)→Bool→Rs
def b0 (k:Nat) (L0:T0):T0:=fun x0 x1 x2 x3 x4 x5 x6 x7 x8 x9 x10 x11 x12 x13 x14 =>
 (cond (decide (x5<x4)) (aw x5 (x3.length:Int) (cond (!(seq (x3.getD x5.toNat (Ty.z bG)).1 x0)) (L0 x0 x1 x2 x3 x4 (aG (x5+1)) x6 x7 x8 x9 x10 x11 x12 x13 x14) (cond ((x3.getD x5.toNat (Ty.z bG)).2.1 != x1) (some ((x14,(x12,(x13,()))),(7,()))) (L0 x0 x1 true x3 x4 (aG (x5+1)) x6 x7 x8 x9 x10 x11 x12 x13 x14)))) (cond x2 (some ((x14,(x12,(x13,()))),(0,()))) (cond (decide ((x7.length:Int)≥20)) (some ((x14,(x12,(x13,()))),(5,()))) (rm (Ty.bytes bG) (x12.length+1) (some ((x14,((x12++[(x0,(x1,()))]),(x13,()))),(0,())))))))
def l0:Nat→T0
 | 0=>fun _ _ _ _ _ _ _ _ _ _ _ _ _ _ _=>none
 | n+1=>b0 k (l0 n)
def t (L0:T0) (a0:Ty.d an) (a1:ByteArray) (a2:Int):Rs :=
 ((dt.f k a0).bind fun r1=>cond (!a0.1) (some (r1.1,(4,()))) ((dZ.f k a1).bind fun r2=>cond (!r2.1) (some (r1.1,(4,()))) (L0 a1 a2 false a0.2.1 (a0.2.1.length:Int) 0 a0.1 a0.2.1 a0.2.2.1 [] [] false r1.1.2.1 r1.1.2.2.1 r1.1.1)))
def f:=t k (l0 k k)
end fW
namespace nE
abbrev Rs:Type:=Option ((Ty.d an) × (Ty.d bz) × Unit)
def t (a0:Ty.d an) (a1:ByteArray) (a2:Ty.d aD) (a3:Int):Rs :=
 ((fW.f k a0 a1 a2.2.2.1).bind fun r1=>cond (r1.2.1 != 0) (some (r1.1,((r1.2.1,(ByteArray.empty,([],()))),()))) (some (r1.1,((a3,(a2.2.1,([],()))),()))))
def f:=t k
end nE
namespace gN
abbrev Rs:Type:=Option ((Ty.d aV) × (Ty.d bz) × Unit)
def t (a0:Ty.d aV) (a1:Ty.d az):Rs :=
 (aw a1.2.1 (a0.2.2.2.1.length:Int) ((dZ.f k a1.2.2.1).bind fun r1=>cond (!r1.1) (some (a0,((4,(ByteArray.empty,([],()))),()))) ((om.f k (a0.2.2.2.1.getD a1.2.1.toNat (Ty.z an)) a1.2.2.1).bind fun r2=>cond r2.2.1 (some (a0,(r2.1,()))) ((lx.f k a0.2.1 a0.2.2.1 a1.2.2.1).bind fun r3=>cond (r3.2.1==3) (some (a0,((r3.2.1,(ByteArray.empty,([],()))),()))) ((nE.f k (a0.2.2.2.1.getD a1.2.1.toNat (Ty.z an)) a1.2.2.1 r3.1 r3.2.1).bind fun r4=>let l5:=(a0.2.2.2.1.set a1.2.1.toNat r4.1);(some ((a0.1,(a0.2.1,(a0.2.2.1,(l5,())))),r4.2)))))))
def f:=t k
end gN
namespace fg
abbrev Rs:Type:=Option (Bool × Unit)
def t (a0:Ty.d aY):Rs :=
 ((dZ.f k a0.1).bind fun r1=>cond r1.1 (cond (decide ((a0.2.2.1.size:Int)≤24)) (cond (!a0.2.1) (some (true,())) (some ((seq a0.2.2.1 (⟨#[]⟩:ByteArray)),()))) (some (false,()))) (some (false,())))
def f:=t k
end fg
namespace g7
abbrev Rs:Type:=Option ((List (Ty.d aY)) × Unit)
abbrev T1:Type:=Int→List (Ty.d aY)→Int→Int→Int→Int→List (Ty.d aY)→ByteArray→Bool→ByteArray→Rs
abbrev T0:Type:=List (Ty.d aY)→Int→Int→List (Ty.d aY)→Rs
def b1 (k:Nat) (L0:T0) (L1:T1):T1:=fun x0 x1 x2 x3 x4 x5 x6 x7 x8 x9 =>
 (cond (decide (x5<x4)) (aw x5 (x6.length:Int) (cond (seq (x6.getD x5.toNat (Ty.z aY)).1 x7) (L1 x5 x1 x2 x3 x4 (aG (x5+1)) x6 x7 x8 x9) (L1 x0 x1 x2 x3 x4 (aG (x5+1)) x6 x7 x8 x9))) (cond (decide (x0≥0)) (aw x0 (x6.length:Int) (let l1:=(x6.set x0.toNat (x7,(x8,(x9,()))));(L0 x1 x2 (aG (x3+1)) l1))) (rm (Ty.bytes aY) (x6.length+1) (L0 x1 x2 (aG (x3+1)) (x6++[(x7,(x8,(x9,())))])))))
def l1 (L0:T0):Nat→T1
 | 0=>fun _ _ _ _ _ _ _ _ _ _=>none
 | n+1=>b1 k L0 (l1 L0 n)
def b0 (k:Nat) (L1:T1) (L0:T0):T0:=fun x0 x1 x2 x3 =>
 (cond (decide (x2<x1)) (aw x2 (x0.length:Int) (L1 (-1) x0 x1 x2 (x3.length:Int) 0 x3 (x0.getD x2.toNat (Ty.z aY)).1 (x0.getD x2.toNat (Ty.z aY)).2.1 (x0.getD x2.toNat (Ty.z aY)).2.2.1)) (some (x3,())))
def l0:Nat→T0
 | 0=>fun _ _ _ _=>none
 | n+1=>b0 k (l1 k (l0 n) k) (l0 n)
def t (k:Nat) (L0:T0) (a0:List (Ty.d aY)):Rs :=
 (L0 a0 (a0.length:Int) 0 [])
def f:=t k (l0 k k)
end g7
namespace fQ
abbrev Rs:Type:=Option ((List (Ty.d aY)) × Unit)
def t (a0:Ty.d an):Rs :=
 ((g7.f k a0.2.2.1).bind fun r1=>some r1)
def f:=t k
end fQ
namespace iZ
abbrev Rs:Type:=Option ((Ty.d an) × Bool × Unit)
def t (a0:Ty.d an) (a1:Ty.d aY):Rs :=
 ((dt.f k a0).bind fun r1=>rm (Ty.bytes aY) (r1.1.2.2.1.length+1) (cond (!a0.1) ((dt.f k a0).bind fun r2=>some (r2.1,(false,()))) ((fg.f k a1).bind fun r3=>cond (!r3.1) ((dt.f k a0).bind fun r4=>some (r4.1,(false,()))) ((fQ.f k (r1.1.1,(r1.1.2.1,((r1.1.2.2.1++[a1]),())))).bind fun r5=>cond (decide ((r5.1.length:Int) > 8)) ((dt.f k a0).bind fun r6=>some (r6.1,(false,()))) (cond (decide ((List.length (r1.1.2.2.1++[a1]):Int) > 50)) ((dt.f k a0).bind fun r7=>some (r7.1,(false,()))) (some ((r1.1.1,(r1.1.2.1,((r1.1.2.2.1++[a1]),()))),(true,()))))))))
def f:=t k
end iZ
namespace kN
abbrev Rs:Type:=Option ((Ty.d an) × (Ty.d bz) × Unit)
def t (a0:Ty.d an) (a1:Ty.d az):Rs :=
 ((iZ.f k a0 (a1.2.2.1,((a1.1==4),(a1.2.2.2.1,())))).bind fun r1=>(fg.f k (a1.2.2.1,((a1.1==4),(a1.2.2.2.1,())))).bind fun r2=>cond (!r2.1) (some (r1.1,((4,(ByteArray.empty,([],()))),()))) (cond (!r1.2.1) (some (r1.1,((5,(ByteArray.empty,([],()))),()))) (some (r1.1,((0,(ByteArray.empty,([],()))),())))))
def f:=t k
end kN
namespace gW
abbrev Rs:Type:=Option (Bool × Unit)
abbrev T0:Type:=List (Ty.d a_)→List (Ty.d bG)→Int→Int→Rs
def b0 (L0:T0):T0:=fun x0 x1 x2 x3 =>
 (cond (decide (x3<x2)) (aw x3 (x1.length:Int) ((fM.f k x0 (x1.getD x3.toNat (Ty.z bG)).1).bind fun r1=>cond (r1.1.2.2.2.2.1 != (x1.getD x3.toNat (Ty.z bG)).2.1) (some (false,())) (L0 x0 x1 x2 (aG (x3+1))))) (some (true,())))
def l0:Nat→T0
 | 0=>fun _ _ _ _=>none
 | n+1=>b0 k (l0 n)
def t (k:Nat) (L0:T0) (a0:Ty.d an) (a1:List (Ty.d a_)):Rs :=
 (L0 a1 a0.2.1 (a0.2.1.length:Int) 0)
def f:=t k (l0 k k)
end gW
namespace fH
abbrev Rs:Type:=Option (Bool × Unit)
abbrev T0:Type:=List (Ty.d aY)→List (Ty.d aY)→Int→Int→Rs
def b0 (L0:T0):T0:=fun x0 x1 x2 x3 =>
 (cond (decide (x3<x2)) (aw x3 (x1.length:Int) ((fg.f k (x1.getD x3.toNat (Ty.z aY))).bind fun r1=>cond (!r1.1) (some (false,())) (L0 x0 x1 x2 (aG (x3+1))))) (some ((decide ((x0.length:Int)≤8)),())))
def l0:Nat→T0
 | 0=>fun _ _ _ _=>none
 | n+1=>b0 k (l0 n)
def t (k:Nat) (L0:T0) (a0:List (Ty.d aY)):Rs :=
 (L0 a0 a0 (a0.length:Int) 0)
def f:=t k (l0 k k)
end fH
namespace mu
abbrev Rs:Type:=Option ((List (Ty.d a_)) × Unit)
abbrev T1:Type:=List (Ty.d a_)→List (Ty.d aY)→Int→Int→List (Ty.d a_)→Rs
abbrev T0:Type:=List (Ty.d a_)→List (Ty.d a_)→List (Ty.d aY)→Int→Int→Rs
def b1 (L1:T1):T1:=fun x0 x1 x2 x3 x4 =>
 (cond (decide (x3<x2)) (aw x3 (x1.length:Int) (cond (x1.getD x3.toNat (Ty.z aY)).2.1 ((gB.f k x4 (x1.getD x3.toNat (Ty.z aY)).1).bind fun r2=>L1 x0 x1 x2 (aG (x3+1)) r2.1) (aw x3 (x0.length:Int) ((ii.f k x4 (x0.getD x3.toNat (Ty.z a_))).bind fun r3=>L1 x0 x1 x2 (aG (x3+1)) r3.1)))) (some (x4,())))
def l1:Nat→T1
 | 0=>fun _ _ _ _ _=>none
 | n+1=>b1 k (l1 n)
def b0 (L1:T1):T0:=fun x0 x1 x2 x3 x4 =>
 (cond (decide (x4<x3)) (aw x4 (x2.length:Int) (cond (x2.getD x4.toNat (Ty.z aY)).2.1 ((gB.f k x0 (x2.getD x4.toNat (Ty.z aY)).1).bind fun r1=>L1 x1 x2 x3 (aG (x4+1)) r1.1) (aw x4 (x1.length:Int) ((ii.f k x0 (x1.getD x4.toNat (Ty.z a_))).bind fun r4=>L1 x1 x2 x3 (aG (x4+1)) r4.1)))) (some (x0,())))
def l0:Nat→T0
 | 0=>fun _ _ _ _ _=>none
 | n+1=>b0 k (l1 k n)
def t (k:Nat) (L0:T0) (a0:List (Ty.d a_)) (a1:List (Ty.d aY)) (a2:List (Ty.d a_)):Rs :=
 (L0 a0 a2 a1 (a1.length:Int) 0)
def f:=t k (l0 k k)
end mu
namespace lq
abbrev Rs:Type:=Option (Int × Unit)
abbrev T0:Type:=List (Ty.d a_)→List (Ty.d aY)→List (Ty.d aY)→Int→Int→List (Ty.d a_)→Rs
def b0 (L0:T0):T0:=fun x0 x1 x2 x3 x4 x5 =>
 (cond (decide (x4<x3)) (aw x4 (x2.length:Int) (rm (Ty.bytes a_) (x5.length+1) (L0 x0 x1 x2 x3 (aG (x4+1)) (x5++[((x2.getD x4.toNat (Ty.z aY)).1,(0,(0,(0,(0,())))))])))) ((mu.f k x0 x1 x5).bind fun r1=>some ((r1.1.length:Int),())))
def l0:Nat→T0
 | 0=>fun _ _ _ _ _ _=>none
 | n+1=>b0 k (l0 n)
def t (k:Nat) (L0:T0) (a0:List (Ty.d a_)) (a1:List (Ty.d aY)):Rs :=
 (L0 a0 a1 a1 (a1.length:Int) 0 [])
def f:=t k (l0 k k)
end lq
namespace lC
abbrev Rs:Type:=Option ((List (Ty.d bA)) × Unit)
abbrev T0:Type:=List (Ty.d aY)→Int→List (Ty.d aY)→Int→Int→List (Ty.d bA)→Rs
def b0 (L0:T0):T0:=fun x0 x1 x2 x3 x4 x5 =>
 (cond (decide (x4<x3)) (aw x4 (x2.length:Int) (cond (x2.getD x4.toNat (Ty.z aY)).2.1 (rm (Ty.bytes bA) (x5.length+1) (L0 x0 x1 x2 x3 (aG (x4+1)) (x5++[(2,(x1,((x2.getD x4.toNat (Ty.z aY)).1,(ByteArray.empty,(0,(0,()))))))]))) (rm (Ty.bytes bA) (x5.length+1) (L0 x0 x1 x2 x3 (aG (x4+1)) (x5++[(1,(x1,((x2.getD x4.toNat (Ty.z aY)).1,((x2.getD x4.toNat (Ty.z aY)).2.2.1,(0,(0,()))))))]))))) ((kS.f k x5).bind fun r1=>rm (Ty.bytes bA) (x5.length+1) (some ((x5++[(3,(x1,(ByteArray.empty,(ByteArray.empty,((x0.length:Int),r1)))))]),()))))
def l0:Nat→T0
 | 0=>fun _ _ _ _ _ _=>none
 | n+1=>b0 k (l0 n)
def t (k:Nat) (L0:T0) (a0:List (Ty.d aY)) (a1:Int):Rs :=
 (L0 a0 a1 a0 (a0.length:Int) 0 [])
def f:=t k (l0 k k)
end lC
namespace dD
abbrev Rs:Type:=Option ((Ty.d aF) × ByteArray × Unit)
def t (a0:Ty.d aF):Rs :=
 (aw (aG ((a0.1.2.1.length:Int)-1)) (a0.1.2.1.length:Int) ((ak.f k (a0.1.2.1.getD (aG ((a0.1.2.1.length:Int)-1)).toNat (Ty.z (.int .i64)))).bind fun r1=>some (a0,r1)))
def f:=t k
end dD
namespace j7
abbrev Rs:Type:=Option ((Ty.d aF) × (Ty.d aq) × Unit)
def t (a0:Ty.d aF) (a1:Ty.d aq):Rs :=
 (cond (decide ((a0.1.2.1.length:Int)≥60)) (some (a0,((a1.1,(5,())),()))) (cond (decide (a0.1.1≥100000)) (some (a0,((a1.1,(5,())),()))) ((dD.f k a0).bind fun r1=>(cJ.f k a1 r1.2.1).bind fun r2=>cond (r2.1.2.1 != 0) (some (r1.1,r2)) ((ak.f k r1.1.1.1).bind fun r3=>(dz.f k r2.1 r3.1).bind fun r4=>cond (r4.1.2.1 != 0) (some ((((aG (r1.1.1.1+1)),r1.1.1.2),r1.1.2),r4)) ((fv.f k ((aG (r1.1.1.1+1)),r1.1.1.2)).bind fun r5=>rm (Ty.bytes (.int .i64)) (r5.1.2.1.length+1) ((dV.f k r4.1 (r5.1.1,((r5.1.2.1++[r1.1.1.1]),()))).bind fun r6=>cond (r6.1.2.1 != 0) ((ak.f k r1.1.1.1).bind fun r7=>(fS.f k r6.1 [(⟨#[116,101,109,112]⟩:ByteArray),r7.1]).bind fun r8=>some ((((aG (r1.1.1.1+1)),r1.1.1.2),r1.1.2),r8)) (some (((r5.1.1,((r5.1.2.1++[r1.1.1.1]),())),(r1.1.2.1,(r1.1.2.2.1,(0,r1.1.2.2.2.2)))),r6))))))))
def f:=t k
end j7
namespace kY
abbrev Rs:Type:=Option ((Ty.d aF) × (Ty.d aq) × (Ty.d a_) × Unit)
def t (a0:Ty.d aF) (a1:Ty.d aq) (a2:Ty.d bA):Rs :=
 ((iX.f k a2).bind fun r1=>(gZ.f k r1.1).bind fun r2=>cond (decide (a0.2.2.2.1 > 0)) (cond (decide ((aG (a0.2.2.2.1+(r2.1.size:Int))) > 200)) ((j7.f k a0 a1).bind fun r3=>cond (r3.2.1.2.1 != 0) (some (r3.1,(r3.2.1,((ByteArray.empty,(0,(0,(0,(0,()))))),())))) (aw (aG ((r3.1.1.2.1.length:Int)-1)) (r3.1.1.2.1.length:Int) ((dD.f k r3.1).bind fun r4=>(dx.f k r3.2.1 r4.2.1 r2.1).bind fun r5=>cond (r5.1.2.1==0) (some ((r4.1.1,(r4.1.2.1,(r4.1.2.2.1,((aG (r4.1.2.2.2.1+(r2.1.size:Int))),r4.1.2.2.2.2)))),(r5.1,((a2.2.2.1,((r3.1.1.2.1.getD (aG ((r3.1.1.2.1.length:Int)-1)).toNat (Ty.z (.int .i64))),(r3.1.2.2.2.1,((r2.1.size:Int),(a2.2.1,()))))),())))) (some (r4.1,(r5.1,((a2.2.2.1,((r3.1.1.2.1.getD (aG ((r3.1.1.2.1.length:Int)-1)).toNat (Ty.z (.int .i64))),(r3.1.2.2.2.1,((r2.1.size:Int),(a2.2.1,()))))),()))))))) (cond (a1.2.1 != 0) (some (a0,(a1,((ByteArray.empty,(0,(0,(0,(0,()))))),())))) (aw (aG ((a0.1.2.1.length:Int)-1)) (a0.1.2.1.length:Int) ((dD.f k a0).bind fun r6=>(dx.f k a1 r6.2.1 r2.1).bind fun r7=>cond (r7.1.2.1==0) (some ((r6.1.1,(r6.1.2.1,(r6.1.2.2.1,((aG (r6.1.2.2.2.1+(r2.1.size:Int))),r6.1.2.2.2.2)))),(r7.1,((a2.2.2.1,((a0.1.2.1.getD (aG ((a0.1.2.1.length:Int)-1)).toNat (Ty.z (.int .i64))),(a0.2.2.2.1,((r2.1.size:Int),(a2.2.1,()))))),())))) (some (r6.1,(r7.1,((a2.2.2.1,((a0.1.2.1.getD (aG ((a0.1.2.1.length:Int)-1)).toNat (Ty.z (.int .i64))),(a0.2.2.2.1,((r2.1.size:Int),(a2.2.1,()))))),())))))))) (cond (a1.2.1 != 0) (some (a0,(a1,((ByteArray.empty,(0,(0,(0,(0,()))))),())))) (aw (aG ((a0.1.2.1.length:Int)-1)) (a0.1.2.1.length:Int) ((dD.f k a0).bind fun r8=>(dx.f k a1 r8.2.1 r2.1).bind fun r9=>cond (r9.1.2.1==0) (some ((r8.1.1,(r8.1.2.1,(r8.1.2.2.1,((aG (r8.1.2.2.2.1+(r2.1.size:Int))),r8.1.2.2.2.2)))),(r9.1,((a2.2.2.1,((a0.1.2.1.getD (aG ((a0.1.2.1.length:Int)-1)).toNat (Ty.z (.int .i64))),(a0.2.2.2.1,((r2.1.size:Int),(a2.2.1,()))))),())))) (some (r8.1,(r9.1,((a2.2.2.1,((a0.1.2.1.getD (aG ((a0.1.2.1.length:Int)-1)).toNat (Ty.z (.int .i64))),(a0.2.2.2.1,((r2.1.size:Int),(a2.2.1,()))))),()))))))))
def f:=t k
end kY
namespace lK
abbrev Rs:Type:=Option ((List (Ty.d a_)) × Unit)
abbrev T0:Type:=List (Ty.d a_)→List (Ty.d aY)→Int→Int→List (Ty.d a_)→Rs
def b0 (L0:T0):T0:=fun x0 x1 x2 x3 x4 =>
 (cond (decide (x3<x2)) (aw x3 (x1.length:Int) (cond (x1.getD x3.toNat (Ty.z aY)).2.1 ((gB.f k x4 (x1.getD x3.toNat (Ty.z aY)).1).bind fun r1=>L0 x0 x1 x2 (aG (x3+1)) r1.1) (aw x3 (x0.length:Int) ((ii.f k x4 (x0.getD x3.toNat (Ty.z a_))).bind fun r2=>L0 x0 x1 x2 (aG (x3+1)) r2.1)))) (some (x4,())))
def l0:Nat→T0
 | 0=>fun _ _ _ _ _=>none
 | n+1=>b0 k (l0 n)
def t (k:Nat) (L0:T0) (a0:List (Ty.d a_)) (a1:List (Ty.d aY)) (a2:List (Ty.d a_)):Rs :=
 (L0 a2 a1 (a1.length:Int) 0 a0)
def f:=t k (l0 k k)
end lK
namespace j4
abbrev Rs:Type:=Option ((Ty.d aF) × (Ty.d aq) × Unit)
abbrev T0:Type:=List (Ty.d aY)→Int→Int→List Int→List (Ty.d a_)→Int→Int→Int→Int→List (Ty.d aD)→Int→Int→Bool→Int→List (Ty.d a_)→List (Ty.d bA)→Rs
def b0 (L0:T0):T0:=fun x0 x1 x2 x3 x4 x5 x6 x7 x8 x9 x10 x11 x12 x13 x14 x15 =>
 (cond (decide (x2<x1)) (aw x2 (x15.length:Int) ((kY.f k ((x5,(x3,())),(x4,(x6,(x7,(x8,()))))) ((x9,(x10,(x11,(x12,())))),(x13,())) (x15.getD x2.toNat (Ty.z bA))).bind fun r2=>cond (r2.2.1.2.1 != 0) (some (r2.1,(r2.2.1,()))) (rm (Ty.bytes a_) (x14.length+1) (L0 x0 x1 (aG (x2+1)) r2.1.1.2.1 r2.1.2.1 r2.1.1.1 r2.1.2.2.1 r2.1.2.2.2.1 r2.1.2.2.2.2.1 r2.2.1.1.1 r2.2.1.1.2.1 r2.2.1.1.2.2.1 r2.2.1.1.2.2.2.1 r2.2.1.2.1 (x14++[r2.2.2.1]) x15)))) ((dD.f k ((x5,(x3,())),(x4,(x6,(x7,(x8,())))))).bind fun r3=>(cJ.f k ((x9,(x10,(x11,(x12,())))),(x13,())) r3.2.1).bind fun r4=>cond (r4.1.2.1==0) ((lK.f k r3.1.2.1 x0 x14).bind fun r5=>some ((r3.1.1,(r5.1,r3.1.2.2)),r4)) (some (r3.1,r4))))
def l0:Nat→T0
 | 0=>fun _ _ _ _ _ _ _ _ _ _ _ _ _ _ _ _=>none
 | n+1=>b0 k (l0 n)
def t (L0:T0) (a0:Ty.d aF) (a1:Ty.d aq) (a2:List (Ty.d aY)):Rs :=
 ((lC.f k a2 a0.2.2.1).bind fun r1=>L0 a2 (r1.1.length:Int) 0 a0.1.2.1 a0.2.1 a0.1.1 (aG (a0.2.2.1+1)) a0.2.2.2.1 a0.2.2.2.2.1 a1.1.1 a1.1.2.1 a1.1.2.2.1 a1.1.2.2.2.1 a1.2.1 [] r1.1)
def f:=t k (l0 k k)
end j4
namespace jS
abbrev Rs:Type:=Option ((Ty.d aF) × (Ty.d aB) × Int × Unit)
def t (a0:Ty.d aF) (a1:Ty.d aB) (a2:List (Ty.d aY)):Rs :=
 ((dA.f k a0).bind fun r1=>(bD.f k a1).bind fun r2=>(cQ.f k a0 a1).bind fun r3=>cond (!r3.1) (some (r1.1,(r2.1,(4,())))) ((fH.f k a2).bind fun r4=>cond (!r4.1) (some (r1.1,(r2.1,(4,())))) (cond ((a2.length:Int)==0) (some (r1.1,(r2.1,(0,())))) ((lq.f k a0.2.1 a2).bind fun r5=>cond (decide (r5.1 > 20)) (some (r1.1,(r2.1,(5,())))) (cond (decide (a0.2.2.1 > 1000000)) (some (r1.1,(r2.1,(5,())))) ((j4.f k r1.1 (r2.1,(0,())) a2).bind fun r6=>some (r6.1,r6.2.1)))))))
def f:=t k
end jS
namespace dW
abbrev Rs:Type:=Option ((Ty.d aV) × (Ty.d bz) × Unit)
def t (a0:Ty.d aV) (a1:Ty.d az):Rs :=
 ((kK.f k a0.2.2.2.1 a1).bind fun r1=>cond (!r1.1) (some (a0,((4,(ByteArray.empty,([],()))),()))) (aw a1.2.1 (a0.2.2.2.1.length:Int) (cond (a1.1==1) (let l2:=(a0.2.2.2.1.set a1.2.1.toNat (true,([],([],()))));(some ((a0.1,(a0.2.1,(a0.2.2.1,(l2,())))),((0,(ByteArray.empty,([],()))),())))) (cond (a1.1==6) (let l3:=(a0.2.2.2.1.set a1.2.1.toNat (false,([],([],()))));(some ((a0.1,(a0.2.1,(a0.2.2.1,(l3,())))),((0,(ByteArray.empty,([],()))),())))) (cond (a1.1==2) ((gN.f k a0 a1).bind fun r4=>some r4) (cond (a1.1==3) (cond (a1.1==3) ((kN.f k (a0.2.2.2.1.getD a1.2.1.toNat (Ty.z an)) a1).bind fun r5=>let l6:=(a0.2.2.2.1.set a1.2.1.toNat r5.1);(some ((a0.1,(a0.2.1,(a0.2.2.1,(l6,())))),r5.2))) (cond (a1.1==5) (let l7:=(a0.2.2.2.1.set a1.2.1.toNat (false,([],([],()))));((gW.f k (a0.2.2.2.1.getD a1.2.1.toNat (Ty.z an)) a0.2.1.2.1).bind fun r8=>cond (!r8.1) (some ((a0.1,(a0.2.1,(a0.2.2.1,(l7,())))),((7,(ByteArray.empty,([],()))),()))) ((fQ.f k (a0.2.2.2.1.getD a1.2.1.toNat (Ty.z an))).bind fun r9=>(jS.f k a0.2.1 a0.2.2.1 r9.1).bind fun r10=>some ((a0.1,(r10.1,(r10.2.1,(l7,())))),((r10.2.2.1,(ByteArray.empty,([],()))),()))))) (some (a0,((0,(ByteArray.empty,([],()))),()))))) (cond (a1.1==4) ((kN.f k (a0.2.2.2.1.getD a1.2.1.toNat (Ty.z an)) a1).bind fun r11=>let l12:=(a0.2.2.2.1.set a1.2.1.toNat r11.1);(some ((a0.1,(a0.2.1,(a0.2.2.1,(l12,())))),r11.2))) (cond (a1.1==5) (let l13:=(a0.2.2.2.1.set a1.2.1.toNat (false,([],([],()))));((gW.f k (a0.2.2.2.1.getD a1.2.1.toNat (Ty.z an)) a0.2.1.2.1).bind fun r14=>cond (!r14.1) (some ((a0.1,(a0.2.1,(a0.2.2.1,(l13,())))),((7,(ByteArray.empty,([],()))),()))) ((fQ.f k (a0.2.2.2.1.getD a1.2.1.toNat (Ty.z an))).bind fun r15=>(jS.f k a0.2.1 a0.2.2.1 r15.1).bind fun r16=>some ((a0.1,(r16.1,(r16.2.1,(l13,())))),((r16.2.2.1,(ByteArray.empty,([],()))),()))))) (some (a0,((0,(ByteArray.empty,([],()))),())))))))))))
def f:=t k
end dW
namespace gX
abbrev Rs:Type:=Option ((Ty.d aV) × (Ty.d bz) × Unit)
def t (a0:Ty.d aV) (a1:Ty.d az):Rs :=
 (cond (a1.1==10) (cond a0.1 (some (a0,((4,(ByteArray.empty,([],()))),()))) (cond (a1.1==10) ((jr.f k a0.2.2.1).bind fun r1=>some (r1.1,((r1.2.1,(ByteArray.empty,([],()))),()))) (cond (a1.1==11) ((mR.f k a0.2.2.1).bind fun r2=>(ay.f k a0.2.2.1).bind fun r3=>cond (!r3.1) (some (a0,((4,(ByteArray.empty,([],()))),()))) ((ap.f k a1.2.2.2.2.1 0 (aG (100000-r2.1))).bind fun r4=>cond (!r4.1) (some (a0,((4,(ByteArray.empty,([],()))),()))) (some ((a0.1,(a0.2.1,((a0.2.2.1.1,((aG (r2.1+a1.2.2.2.2.1)),a0.2.2.1.2.2)),a0.2.2.2))),((0,(ByteArray.empty,([],()))),()))))) (cond (!a0.1) (some (a0,((6,(ByteArray.empty,([],()))),()))) (cond (a1.1==7) ((nD.f k a0.2.1 a0.2.2.1).bind fun r5=>some ((a0.1,(r5.1,(r5.2.1,a0.2.2.2))),((r5.2.2.1,(ByteArray.empty,([],()))),()))) (cond (a1.1==8) ((dq.f k a0.2.1.2.1).bind fun r6=>some (a0,((0,(ByteArray.empty,r6)),()))) (cond (a1.1==9) (vJ (Ty.bytes an) 3 (some ((false,(((0,([],())),([],(0,(0,(0,()))))),(a0.2.2.1,((List.replicate (Int.toNat 3) (Ty.z an)),())))),((0,(ByteArray.empty,([],()))),())))) ((dW.f k a0 a1).bind fun r7=>some r7)))))))) (cond (a1.1==10) ((jr.f k a0.2.2.1).bind fun r8=>some (r8.1,((r8.2.1,(ByteArray.empty,([],()))),()))) (cond (a1.1==11) ((mR.f k a0.2.2.1).bind fun r9=>(ay.f k a0.2.2.1).bind fun r10=>cond (!r10.1) (some (a0,((4,(ByteArray.empty,([],()))),()))) ((ap.f k a1.2.2.2.2.1 0 (aG (100000-r9.1))).bind fun r11=>cond (!r11.1) (some (a0,((4,(ByteArray.empty,([],()))),()))) (some ((a0.1,(a0.2.1,((a0.2.2.1.1,((aG (r9.1+a1.2.2.2.2.1)),a0.2.2.1.2.2)),a0.2.2.2))),((0,(ByteArray.empty,([],()))),()))))) (cond (!a0.1) (some (a0,((6,(ByteArray.empty,([],()))),()))) (cond (a1.1==7) ((nD.f k a0.2.1 a0.2.2.1).bind fun r12=>some ((a0.1,(r12.1,(r12.2.1,a0.2.2.2))),((r12.2.2.1,(ByteArray.empty,([],()))),()))) (cond (a1.1==8) ((dq.f k a0.2.1.2.1).bind fun r13=>some (a0,((0,(ByteArray.empty,r13)),()))) (cond (a1.1==9) (vJ (Ty.bytes an) 3 (some ((false,(((0,([],())),([],(0,(0,(0,()))))),(a0.2.2.1,((List.replicate (Int.toNat 3) (Ty.z an)),())))),((0,(ByteArray.empty,([],()))),())))) ((dW.f k a0 a1).bind fun r14=>some r14))))))))
def f:=t k
end gX
namespace fU
abbrev Rs:Type:=Option ((Ty.d aV) × (Ty.d bz) × Unit)
def t (a0:Ty.d aV) (a1:Ty.d az):Rs :=
 ((gk.f k a0).bind fun r1=>(gX.f k r1.1 a1).bind fun r2=>some r2)
def f:=t k
end fU
namespace fY
abbrev Rs:Type:=Option (Bool × Unit)
abbrev T0:Type:=Int→Int→ByteArray→List ByteArray→Int→ByteArray→List ByteArray→Rs
def b0 (k:Nat) (L0:T0):T0:=fun x0 x1 x2 x3 x4 x5 x6 =>
 (cond (decide (x0<(x3.length:Int))) (aw x0 (x3.length:Int) (aw x0 (x6.length:Int) (cond (!(seq (x3.getD x0.toNat (Ty.z .str)) (x6.getD x0.toNat (Ty.z .str)))) (some (false,())) (L0 (aG (x0+1)) x1 x2 x3 x4 x5 x6)))) (some (true,())))
def l0:Nat→T0
 | 0=>fun _ _ _ _ _ _ _=>none
 | n+1=>b0 k (l0 n)
def t (k:Nat) (L0:T0) (a0:Ty.d bz) (a1:Ty.d bz):Rs :=
 (cond (a0.1 != a1.1) (some (false,())) (cond (!(seq a0.2.1 a1.2.1)) (some (false,())) (cond ((a0.2.2.1.length:Int) != (a1.2.2.1.length:Int)) (some (false,())) (L0 0 a0.1 a0.2.1 a0.2.2.1 a1.1 a1.2.1 a1.2.2.1))))
def f:=t k (l0 k k)
end fY
namespace cZ
abbrev Rs:Type:=Option (Bool × Unit)
abbrev T0:Type:=List (Ty.d bz)→List (Ty.d bz)→Int→Rs
def b0 (L0:T0):T0:=fun x0 x1 x2 =>
 (cond (decide (x2<(x0.length:Int))) (aw x2 (x0.length:Int) (aw x2 (x1.length:Int) ((fY.f k (x0.getD x2.toNat (Ty.z bz)) (x1.getD x2.toNat (Ty.z bz))).bind fun r1=>cond (!r1.1) (some (false,())) (L0 x0 x1 (aG (x2+1)))))) (some (true,())))
def l0:Nat→T0
 | 0=>fun _ _ _=>none
 | n+1=>b0 k (l0 n)
def t (k:Nat) (L0:T0) (a0:List (Ty.d bz)) (a1:List (Ty.d bz)):Rs :=
 (cond ((a0.length:Int) != (a1.length:Int)) (some (false,())) (L0 a0 a1 0))
def f:=t k (l0 k k)
end cZ
namespace df
abbrev Rs:Type:=Option (Bool × Unit)
abbrev T0:Type:=Int→List (Ty.d aD)→Int→Int→Bool→List (Ty.d aD)→Int→Int→Bool→Rs
def b0 (k:Nat) (L0:T0):T0:=fun x0 x1 x2 x3 x4 x5 x6 x7 x8 =>
 (cond (decide (x0<(x1.length:Int))) (aw x0 (x1.length:Int) (aw x0 (x5.length:Int) (cond (!((seq (x1.getD x0.toNat (Ty.z aD)).1 (x5.getD x0.toNat (Ty.z aD)).1)&&((seq (x1.getD x0.toNat (Ty.z aD)).2.1 (x5.getD x0.toNat (Ty.z aD)).2.1)&&((x1.getD x0.toNat (Ty.z aD)).2.2.1==(x5.getD x0.toNat (Ty.z aD)).2.2.1)))) (some (false,())) (L0 (aG (x0+1)) x1 x2 x3 x4 x5 x6 x7 x8)))) (some (true,())))
def l0:Nat→T0
 | 0=>fun _ _ _ _ _ _ _ _ _=>none
 | n+1=>b0 k (l0 n)
def t (k:Nat) (L0:T0) (a0:Ty.d aB) (a1:Ty.d aB):Rs :=
 (cond ((a0.1.length:Int) != (a1.1.length:Int)) (some (false,())) (cond (a0.2.1 != a1.2.1) (some (false,())) (cond (a0.2.2.1 != a1.2.2.1) (some (false,())) (cond (!(a0.2.2.2.1==a1.2.2.2.1)) (some (false,())) (L0 0 a0.1 a0.2.1 a0.2.2.1 a0.2.2.2.1 a1.1 a1.2.1 a1.2.2.1 a1.2.2.2.1)))))
def f:=t k (l0 k k)
end df
namespace dF
abbrev Rs:Type:=Option (Bool × Unit)
abbrev T0:Type:=Int→Int→List Int→List (Ty.d a_)→Int→Int→Int→Int→List Int→List (Ty.d a_)→Int→Int→Int→Rs
def b0 (L0:T0):T0:=fun x0 x1 x2 x3 x4 x5 x6 x7 x8 x9 x10 x11 x12 =>
 (cond (decide (x0<(x2.length:Int))) (aw x0 (x2.length:Int) (aw x0 (x8.length:Int) (cond ((x2.getD x0.toNat (Ty.z (.int .i64))) != (x8.getD x0.toNat (Ty.z (.int .i64)))) (some (false,())) (L0 (aG (x0+1)) x1 x2 x3 x4 x5 x6 x7 x8 x9 x10 x11 x12)))) ((eJ.f k x3 x9).bind fun r1=>some r1))
def l0:Nat→T0
 | 0=>fun _ _ _ _ _ _ _ _ _ _ _ _ _=>none
 | n+1=>b0 k (l0 n)
def t (k:Nat) (L0:T0) (a0:Ty.d aF) (a1:Ty.d aF):Rs :=
 (cond (a0.1.1 != a1.1.1) (some (false,())) (cond ((a0.1.2.1.length:Int) != (a1.1.2.1.length:Int)) (some (false,())) (cond (a0.2.2.1 != a1.2.2.1) (some (false,())) (cond (a0.2.2.2.1 != a1.2.2.2.1) (some (false,())) (cond (a0.2.2.2.2.1 != a1.2.2.2.2.1) (some (false,())) (L0 0 a0.1.1 a0.1.2.1 a0.2.1 a0.2.2.1 a0.2.2.2.1 a0.2.2.2.2.1 a1.1.1 a1.1.2.1 a1.2.1 a1.2.2.1 a1.2.2.2.1 a1.2.2.2.2.1))))))
def f:=t k (l0 k k)
end dF
namespace dc
abbrev Rs:Type:=Option (Bool × Unit)
def t (a0:List Int):Rs :=
 ((po.f k a0).bind fun r1=>cond r1.1 (some (true,())) ((eZ.f k a0).bind fun r2=>(pM.f k a0 0).bind fun r3=>aw (Int.tmod r3.1 7) 7 (cond ((List.getD [6,1,2,8,3,4,5] (Int.tmod r3.1 7).toNat (Ty.z (.int .i64)))==5) (cond (decide (r2.2.1.2.1<0)) (some (true,())) (cond (decide (r2.2.1.2.1≥(r2.1.2.2.2.1.length:Int))) (some (true,())) (aw r2.2.1.2.1 (r2.1.2.2.2.1.length:Int) (cond (decide ((List.length (r2.1.2.2.2.1.getD r2.2.1.2.1.toNat (Ty.z an)).2.2.1:Int) > 0)) (some (true,())) ((fU.f k r2.1 ((List.getD [6,1,2,8,3,4,5] (Int.tmod r3.1 7).toNat (Ty.z (.int .i64))),r2.2.1.2)).bind fun r4=>(bn.f k r2.1 ((List.getD [6,1,2,8,3,4,5] (Int.tmod r3.1 7).toNat (Ty.z (.int .i64))),r2.2.1.2)).bind fun r5=>(cZ.f k [r4.2.1] [r5.2.1]).bind fun r6=>cond r6.1 ((df.f k r4.1.2.2.1 r2.1.2.2.1).bind fun r7=>cond r7.1 ((dF.f k r4.1.2.1 r2.1.2.1).bind fun r8=>cond r8.1 (some ((r4.1.1==r2.1.1),())) (some (false,()))) (some (false,()))) (some (false,()))))))) ((fU.f k r2.1 ((List.getD [6,1,2,8,3,4,5] (Int.tmod r3.1 7).toNat (Ty.z (.int .i64))),r2.2.1.2)).bind fun r9=>(bn.f k r2.1 ((List.getD [6,1,2,8,3,4,5] (Int.tmod r3.1 7).toNat (Ty.z (.int .i64))),r2.2.1.2)).bind fun r10=>(cZ.f k [r9.2.1] [r10.2.1]).bind fun r11=>cond r11.1 ((df.f k r9.1.2.2.1 r2.1.2.2.1).bind fun r12=>cond r12.1 ((dF.f k r9.1.2.1 r2.1.2.1).bind fun r13=>cond r13.1 (some ((r9.1.1==r2.1.1),())) (some (false,()))) (some (false,()))) (some (false,()))))))
def f:=t k
end dc
end Go.Proofs.YthjppgafienaoaaGreatDoor.G
