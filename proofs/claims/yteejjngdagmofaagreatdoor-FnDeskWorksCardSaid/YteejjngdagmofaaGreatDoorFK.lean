/- Functions, as V runs them. -/
import Derived.Test.YteejjngdagmofaaGreatDoorVWords
import Derived.Test.YteejjngdagmofaaGreatDoorXLib
set_option linter.unusedVariables false
namespace Go.Proofs.YteejjngdagmofaaGreatDoor.G
open Go.V
abbrev f9:Ty := .pair (.int .i64) (.pair .str (.pair (.slice .str) .unit))
abbrev aF:Ty := .pair .str (.pair .str (.pair (.int .i64) .unit))
abbrev aA:Ty := .pair (.slice aF) (.pair (.int .i64) (.pair (.int .i64) (.pair .bool .unit)))
abbrev cC:Ty := .pair (.int .i64) (.pair (.slice (.int .i64)) .unit)
abbrev aB:Ty := .pair .str (.pair (.int .i64) (.pair (.int .i64) (.pair (.int .i64) (.pair (.int .i64) .unit))))
abbrev aC:Ty := .pair cC (.pair (.slice aB) (.pair (.int .i64) (.pair (.int .i64) (.pair (.int .i64) .unit))))
abbrev dt:Ty := .pair .str (.pair (.int .i64) .unit)
abbrev bF:Ty := .pair .str (.pair .bool (.pair .str .unit))
abbrev bO:Ty := .pair .bool (.pair (.slice dt) (.pair (.slice bF) .unit))
abbrev aP:Ty := .pair .bool (.pair aC (.pair aA (.pair (.slice bO) .unit)))
abbrev jY:Ty := .pair (.slice aB) (.pair (.int .i64) (.pair (.int .i64) .unit))
abbrev ic:Ty := .pair (.int .i64) (.pair (.int .i64) (.pair (.slice aB) .unit))
abbrev bQ:Ty := .pair (.int .i64) (.pair (.int .i64) (.pair .str (.pair .str (.pair (.int .i64) (.pair (.int .i64) .unit)))))
abbrev aI:Ty := .pair (.int .i64) (.pair (.int .i64) (.pair (.int .i64) (.pair bQ .unit)))
abbrev cX:Ty := .pair (.int .i64) (.pair (.int .i64) (.pair bQ .unit))
abbrev d5:Ty := .pair (.int .i64) (.pair (.int .i64) (.pair .str (.pair .str (.pair (.int .i64) .unit))))
abbrev mR:Ty := .pair .str (.pair .bool .unit)
abbrev aj:Ty := .pair aA (.pair (.int .i64) .unit)
abbrev ml:Ty:=aF
variable (k:Nat)
namespace og
abbrev Rs:Type:=Option (Bool × Unit)
def t (k:Nat) (a0:List Int):Rs :=
 (some ((decide ((a0.length:Int) > 1048576)),()))
def f:=t k
end og
namespace mQ
abbrev Rs:Type:=Option (Int × Unit)
def t (k:Nat) (a0:List Int) (a1:Int):Rs :=
 (cond (decide (a1<(a0.length:Int))) (fW a1 (a0.length:Int) (some ((aU (a0.getD a1.toNat (Ty.z (.int .u8)))),()))) (some ((Int.tmod (aU ((aU (a1*37))+(aU ((a0.length:Int)*11)))) 256),())))
def f:=t k
end mQ
namespace iM
abbrev Rs:Type:=Option (ByteArray × Unit)
abbrev T0:Type:=Int→ByteArray→Bool→Rs
def b0 (k:Nat) (L0:T0):T0:=fun x0 x1 x2 =>
 (cond (x0 != 0) (cond (decide ((Int.tmod x0 10)<0)) (jm (bytesOf [(IntKind.wrap .u8 (aU (48+(aU (0-(Int.tmod x0 10))))))]) x1 (L0 (aU (Int.tdiv x0 10)) ((bytesOf [(IntKind.wrap .u8 (aU (48+(aU (0-(Int.tmod x0 10))))))])++x1) x2)) (jm (bytesOf [(IntKind.wrap .u8 (aU (48+(Int.tmod x0 10))))]) x1 (L0 (aU (Int.tdiv x0 10)) ((bytesOf [(IntKind.wrap .u8 (aU (48+(Int.tmod x0 10))))])++x1) x2))) (cond x2 (jm (⟨#[45]⟩:ByteArray) x1 (some (((⟨#[45]⟩:ByteArray)++x1),()))) (some (x1,()))))
def l0:Nat→T0
 | 0=>fun _ _ _=>none
 | n+1=>b0 k (l0 n)
def t (k:Nat) (L0:T0) (a0:Int):Rs :=
 (cond (a0==0) (some ((⟨#[48]⟩:ByteArray),())) (L0 a0 (⟨#[]⟩:ByteArray) (decide (a0<0))))
def f:=t k (l0 k k)
end iM
namespace jU
abbrev Rs:Type:=Option ((List ByteArray) × Unit)
def t (a0:ByteArray):Rs :=
 ((iD.f k a0 (⟨#[10]⟩:ByteArray)).bind fun r1=>fW (aU ((r1.1.length:Int)-1)) (r1.1.length:Int) (cond (seq (r1.1.getD (aU ((r1.1.length:Int)-1)).toNat (Ty.z .str)) (⟨#[]⟩:ByteArray)) (qn (aU ((r1.1.length:Int)-1)) (r1.1.length:Int) (some ((r1.1.take (aU ((r1.1.length:Int)-1)).toNat),()))) (some r1)))
def f:=t k
end jU
namespace aa
abbrev Rs:Type:=Option (Bool × Unit)
def t (k:Nat) (a0:Int) (a1:Int) (a2:Int):Rs :=
 (cond (decide (a0≥a1)) (some ((decide (a0≤a2)),())) (some (false,())))
def f:=t k
end aa
namespace jP
abbrev Rs:Type:=Option ((Ty.d aA) × Unit)
def t (a0:Int):Rs :=
 ((aa.f k a0 0 100000).bind fun r1=>cond (!r1.1) (some (([],(0,(0,(false,())))),())) (some (([],(a0,((-1),(false,())))),())))
def f:=t k
end jP
namespace az
abbrev Rs:Type:=Option ((Ty.d aA) × Unit)
def t (k:Nat) (a0:Ty.d aA):Rs :=
 (rm (Ty.bytes aF) (a0.1.length) (some (a0,())))
def f:=t k
end az
namespace dr
abbrev Rs:Type:=Option (Bool × Unit)
abbrev T0:Type:=ByteArray→Int→Rs
def b0 (L0:T0):T0:=fun x0 x1 =>
 (cond (decide (x1<(x0.size:Int))) (fW x1 (x0.size:Int) (cond (decide ((jJ x0 x1)≥97)) (fW x1 (x0.size:Int) (cond (!(decide ((jJ x0 x1)≤122))) (fW x1 (x0.size:Int) (cond (decide ((jJ x0 x1)≥48)) (fW x1 (x0.size:Int) (cond (!(decide ((jJ x0 x1)≤57))) (some (false,())) (L0 x0 (aU (x1+1))))) (some (false,())))) (L0 x0 (aU (x1+1))))) (fW x1 (x0.size:Int) (cond (decide ((jJ x0 x1)≥48)) (fW x1 (x0.size:Int) (cond (!(decide ((jJ x0 x1)≤57))) (some (false,())) (L0 x0 (aU (x1+1))))) (some (false,())))))) ((aa.f k (x0.size:Int) 1 12).bind fun r1=>some r1))
def l0:Nat→T0
 | 0=>fun _ _=>none
 | n+1=>b0 k (l0 n)
def t (k:Nat) (L0:T0) (a0:ByteArray):Rs :=
 (L0 a0 0)
def f:=t k (l0 k k)
end dr
namespace am
abbrev Rs:Type:=Option (Bool × Unit)
abbrev T0:Type:=Int→List (Ty.d aF)→Int→Int→List (Ty.d aF)→Int→Int→Bool→Rs
def b0 (L0:T0):T0:=fun x0 x1 x2 x3 x4 x5 x6 x7 =>
 (cond (decide (x3<x2)) (fW x3 (x1.length:Int) ((dr.f k (x1.getD x3.toNat (Ty.z aF)).1).bind fun r3=>cond (!r3.1) (some (false,())) ((aa.f k (x1.getD x3.toNat (Ty.z aF)).2.2.1 0 (ByteArray.size (x1.getD x3.toNat (Ty.z aF)).2.1:Int)).bind fun r4=>cond (!r4.1) (some (false,())) (cond (decide (x3 > 0)) (fW (aU (x3-1)) (x4.length:Int) (cond (!(nS (x4.getD (aU (x3-1)).toNat (Ty.z aF)).1 (x1.getD x3.toNat (Ty.z aF)).1)) (some (false,())) (L0 (aU (x0+(ByteArray.size (x1.getD x3.toNat (Ty.z aF)).2.1:Int))) x1 x2 (aU (x3+1)) x4 x5 x6 x7))) (L0 (aU (x0+(ByteArray.size (x1.getD x3.toNat (Ty.z aF)).2.1:Int))) x1 x2 (aU (x3+1)) x4 x5 x6 x7))))) (some ((decide (x0≤x5)),())))
def l0:Nat→T0
 | 0=>fun _ _ _ _ _ _ _ _=>none
 | n+1=>b0 k (l0 n)
def t (L0:T0) (a0:Ty.d aA):Rs :=
 (cond (decide ((a0.1.length:Int) > 130)) (some (false,())) ((aa.f k a0.2.1 0 100000).bind fun r1=>cond (!r1.1) (some (false,())) ((aa.f k a0.2.2.1 (-1) 100000).bind fun r2=>cond (!r2.1) (some (false,())) (L0 0 a0.1 (a0.1.length:Int) 0 a0.1 a0.2.1 a0.2.2.1 a0.2.2.2.1))))
def f:=t k (l0 k k)
end am
namespace bV
abbrev Rs:Type:=Option (Int × Unit)
abbrev T0:Type:=ByteArray→List (Ty.d aF)→Int→Int→Rs
def b0 (k:Nat) (L0:T0):T0:=fun x0 x1 x2 x3 =>
 (cond (decide (x3<x2)) (fW x3 (x1.length:Int) (cond (seq (x1.getD x3.toNat (Ty.z aF)).1 x0) (some (x3,())) (L0 x0 x1 x2 (aU (x3+1))))) (some ((-1),())))
def l0:Nat→T0
 | 0=>fun _ _ _ _=>none
 | n+1=>b0 k (l0 n)
def t (k:Nat) (L0:T0) (a0:Ty.d aA) (a1:ByteArray):Rs :=
 (L0 a1 a0.1 (a0.1.length:Int) 0)
def f:=t k (l0 k k)
end bV
namespace bh
abbrev Rs:Type:=Option (ByteArray × Bool × Unit)
def t (a0:Ty.d aA) (a1:ByteArray):Rs :=
 ((bV.f k a0 a1).bind fun r1=>cond (decide (r1.1<0)) (some ((⟨#[]⟩:ByteArray),(false,()))) ((am.f k a0).bind fun r2=>cond (!r2.1) (some ((⟨#[]⟩:ByteArray),(false,()))) (fW r1.1 (a0.1.length:Int) (some ((a0.1.getD r1.1.toNat (Ty.z aF)).2.1,(true,()))))))
def f:=t k
end bh
namespace co
abbrev Rs:Type:=Option (Int × Int × Unit)
abbrev T0:Type:=ByteArray→Int→Int→Rs
def b0 (k:Nat) (L0:T0):T0:=fun x0 x1 x2 =>
 (cond (decide (x2<7)) (cond (decide (x2<(x0.size:Int))) (fW x2 (x0.size:Int) (bif (decide ((aU (7*x2))<0)) then none else (cond (decide ((aU (jJ x0 x2))≥128)) (L0 x0 (aU (x1+(aU ((Int.tmod (aU (jJ x0 x2)) 128)*2 ^ (min (aU (7*x2)).toNat (IntKind.bits .i64)))))) (aU (x2+1))) (cond ((aU (jJ x0 x2))==0) (cond (decide (x2 > 0)) (some (0,(0,()))) (some ((aU (x1+(aU ((Int.tmod (aU (jJ x0 x2)) 128)*2 ^ (min (aU (7*x2)).toNat (IntKind.bits .i64)))))),((aU (x2+1)),())))) (some ((aU (x1+(aU ((Int.tmod (aU (jJ x0 x2)) 128)*2 ^ (min (aU (7*x2)).toNat (IntKind.bits .i64)))))),((aU (x2+1)),()))))))) (some (0,(0,())))) (some (0,(0,()))))
def l0:Nat→T0
 | 0=>fun _ _ _=>none
 | n+1=>b0 k (l0 n)
def t (k:Nat) (L0:T0) (a0:ByteArray):Rs :=
 (L0 a0 0 0)
def f:=t k (l0 k k)
end co
namespace fS
abbrev Rs:Type:=Option (ByteArray × Unit)
abbrev T0:Type:=Int→List Int→Rs
def b0 (k:Nat) (L0:T0):T0:=fun x0 x1 =>
 (cond (decide (x0 > 127)) (rm (Ty.bytes (.int .u8)) (x1.length+1) (L0 (aU (Int.tdiv x0 128)) (x1++[(IntKind.wrap .u8 (aU ((Int.tmod x0 128)+128)))]))) (rm (Ty.bytes (.int .u8)) (x1.length+1) (some ((bytesOf (x1++[(IntKind.wrap .u8 x0)])),()))))
def l0:Nat→T0
 | 0=>fun _ _=>none
 | n+1=>b0 k (l0 n)
def t (L0:T0) (a0:Int):Rs :=
 ((aa.f k a0 0 562949953421311).bind fun r1=>cond (!r1.1) (some ((⟨#[]⟩:ByteArray),())) (L0 a0 []))
def f:=t k (l0 k k)
end fS
namespace du
abbrev Rs:Type:=Option (ByteArray × Unit)
def t (a0:ByteArray):Rs :=
 ((fS.f k (a0.size:Int)).bind fun r1=>jm r1.1 a0 (some ((r1.1++a0),())))
def f:=t k
end du
namespace gN
abbrev Rs:Type:=Option (Int × Unit)
abbrev T1:Type:=ByteArray→Int→Int→Int→Rs
abbrev T0:Type:=ByteArray→Int→Int→Rs
def b1 (k:Nat) (L0:T0) (L1:T1):T1:=fun x0 x1 x2 x3 =>
 (cond (decide (x3<8)) (cond ((IntKind.wrap .u32 (((BitVec.ofInt (IntKind.bits .u32) x1 &&& BitVec.ofInt (IntKind.bits .u32) 1).toNat:Int)))==1) (L1 x0 (IntKind.wrap .u32 (((BitVec.ofInt (IntKind.bits .u32) (Int.fdiv x1 (2 ^ (Int.toNat 1))) ^^^ BitVec.ofInt (IntKind.bits .u32) 2197175160).toNat:Int))) x2 (aU (x3+1))) (L1 x0 (Int.fdiv x1 (2 ^ (Int.toNat 1))) x2 (aU (x3+1)))) (L0 x0 x1 (aU (x2+1))))
def l1 (L0:T0):Nat→T1
 | 0=>fun _ _ _ _=>none
 | n+1=>b1 k L0 (l1 L0 n)
def b0 (k:Nat) (L1:T1) (L0:T0):T0:=fun x0 x1 x2 =>
 (cond (decide (x2<(x0.size:Int))) (fW x2 (x0.size:Int) (L1 x0 (IntKind.wrap .u32 (((BitVec.ofInt (IntKind.bits .u32) x1 ^^^ BitVec.ofInt (IntKind.bits .u32) (IntKind.wrap .u32 (jJ x0 x2))).toNat:Int))) x2 0)) (some ((aU (IX .u32 x1)),())))
def l0:Nat→T0
 | 0=>fun _ _ _=>none
 | n+1=>b0 k (l1 k (l0 n) k) (l0 n)
def t (k:Nat) (L0:T0) (a0:ByteArray):Rs :=
 (L0 a0 4294967295 0)
def f:=t k (l0 k k)
end gN
namespace dV
abbrev Rs:Type:=Option (ByteArray × Unit)
abbrev T0:Type:=Int→Int→List Int→Rs
def b0 (k:Nat) (L0:T0):T0:=fun x0 x1 x2 =>
 (cond (decide (x1≥0)) (bif (decide ((aU (8*x1))<0)) then none else (rm (Ty.bytes (.int .u8)) (x2.length+1) (L0 x0 (aU (x1-1)) (x2++[(IntKind.wrap .u8 (Int.fdiv x0 (2 ^ (min (aU (8*x1)).toNat (IntKind.bits .i64)))))])))) (some ((bytesOf x2),())))
def l0:Nat→T0
 | 0=>fun _ _ _=>none
 | n+1=>b0 k (l0 n)
def t (L0:T0) (a0:Int) (a1:Int):Rs :=
 ((aa.f k a1 1 7).bind fun r1=>cond (!r1.1) (some ((⟨#[]⟩:ByteArray),())) (bif (decide ((aU (8*a1))<0)) then none else ((aa.f k a0 0 (aU ((aU (1*2 ^ (min (aU (8*a1)).toNat (IntKind.bits .i64))))-1))).bind fun r2=>cond (!r2.1) (some ((⟨#[]⟩:ByteArray),())) (L0 a0 (aU (a1-1)) []))))
def f:=t k (l0 k k)
end dV
namespace gf
abbrev Rs:Type:=Option (ByteArray × Unit)
def t (a0:ByteArray):Rs :=
 (cond (decide ((a0.size:Int) > 200)) (some ((⟨#[]⟩:ByteArray),())) ((du.f k a0).bind fun r1=>(gN.f k r1.1).bind fun r2=>(dV.f k r2.1 4).bind fun r3=>jm r3.1 r1.1 (some ((r3.1++r1.1),()))))
def f:=t k
end gf
namespace dZ
abbrev Rs:Type:=Option (ByteArray × Int × Unit)
def t (a0:ByteArray):Rs :=
 (cond (decide ((a0.size:Int)<4)) (some ((⟨#[]⟩:ByteArray),(0,()))) (qn 4 (a0.size:Int) ((co.f k (a0.extract 4 (a0.size))).bind fun r1=>cond (r1.2.1==0) (some ((⟨#[]⟩:ByteArray),(0,()))) (cond (decide (r1.1 > 200)) (some ((⟨#[]⟩:ByteArray),(0,()))) (cond (decide (r1.1 > (aU ((aU ((a0.size:Int)-4))-r1.2.1)))) (some ((⟨#[]⟩:ByteArray),(0,()))) (M0 (aU (4+r1.2.1)) (aU ((aU (4+r1.2.1))+r1.1)) (a0.size:Int) ((gf.f k (a0.extract (aU (4+r1.2.1)).toNat (aU ((aU (4+r1.2.1))+r1.1)).toNat)).bind fun r2=>qn (aU ((aU (4+r1.2.1))+r1.1)) (a0.size:Int) (cond (!(seq r2.1 (a0.extract 0 (aU ((aU (4+r1.2.1))+r1.1)).toNat))) (some ((⟨#[]⟩:ByteArray),(0,()))) (some ((a0.extract (aU (4+r1.2.1)).toNat (aU ((aU (4+r1.2.1))+r1.1)).toNat),((aU ((aU (4+r1.2.1))+r1.1)),())))))))))))
def f:=t k
end dZ
namespace aJ
abbrev Rs:Type:=Option ((Ty.d mR) × Int × Unit)
def t (a0:Ty.d mR):Rs :=
 ((co.f k a0.1).bind fun r1=>cond a0.2.1 (some ((a0.1,(true,())),(0,()))) (cond (r1.2.1==0) (some ((a0.1,(true,())),(0,()))) (qn r1.2.1 (a0.1.size:Int) (some (((a0.1.extract r1.2.1.toNat (a0.1.size)),a0.2),(r1.1,()))))))
def f:=t k
end aJ
namespace cw
abbrev Rs:Type:=Option (Bool × Unit)
abbrev T0:Type:=List Int→Int→Int→Int→List Int→Rs
def b0 (L0:T0):T0:=fun x0 x1 x2 x3 x4 =>
 (cond (decide (x2<x1)) (fW x2 (x0.length:Int) ((aa.f k (x0.getD x2.toNat (Ty.z (.int .i64))) 1 (aU (x3-1))).bind fun r1=>cond (!r1.1) (some (false,())) (cond (decide (x2 > 0)) (fW (aU (x2-1)) (x4.length:Int) (cond (decide ((x4.getD (aU (x2-1)).toNat (Ty.z (.int .i64)))≥(x0.getD x2.toNat (Ty.z (.int .i64))))) (some (false,())) (L0 x0 x1 (aU (x2+1)) x3 x4))) (L0 x0 x1 (aU (x2+1)) x3 x4)))) ((aa.f k x3 1 100000).bind fun r2=>cond r2.1 ((aa.f k (x4.length:Int) 1 60).bind fun r3=>some r3) (some (false,()))))
def l0:Nat→T0
 | 0=>fun _ _ _ _ _=>none
 | n+1=>b0 k (l0 n)
def t (k:Nat) (L0:T0) (a0:Ty.d cC):Rs :=
 (L0 a0.2.1 (a0.2.1.length:Int) 0 a0.1 a0.2.1)
def f:=t k (l0 k k)
end cw
namespace ax
abbrev Rs:Type:=Option ((Ty.d cC) × Bool × Unit)
abbrev T0:Type:=ByteArray→Int→Int→Int→List Int→Int→ByteArray→Bool→List Int→Int→Rs
def b0 (L0:T0):T0:=fun x0 x1 x2 x3 x4 x5 x6 x7 x8 x9 =>
 (cond (decide (x3<x2)) (cond (!x7) ((aJ.f k (x6,(x7,()))).bind fun r4=>rm (Ty.bytes (.int .i64)) (x8.length+1) (L0 x0 x1 x2 (aU (x3+1)) x4 x5 r4.1.1 r4.1.2.1 (x8++[r4.2.1]) x9)) (cond (x1==0) (some ((0,([],())),(false,()))) (cond (x1 != (x0.size:Int)) (some ((0,([],())),(false,()))) (cond x7 (some ((0,([],())),(false,()))) (cond (!(seq x6 (⟨#[]⟩:ByteArray))) (some ((0,([],())),(false,()))) ((cw.f k (x9,(x8,()))).bind fun r5=>cond (!r5.1) (some ((0,([],())),(false,()))) (some ((x9,(x8,())),(true,()))))))))) (cond (x1==0) (some ((0,([],())),(false,()))) (cond (x1 != (x0.size:Int)) (some ((0,([],())),(false,()))) (cond x7 (some ((0,([],())),(false,()))) (cond (!(seq x6 (⟨#[]⟩:ByteArray))) (some ((0,([],())),(false,()))) ((cw.f k (x9,(x8,()))).bind fun r6=>cond (!r6.1) (some ((0,([],())),(false,()))) (some ((x9,(x8,())),(true,())))))))))
def l0:Nat→T0
 | 0=>fun _ _ _ _ _ _ _ _ _ _=>none
 | n+1=>b0 k (l0 n)
def t (L0:T0) (a0:ByteArray):Rs :=
 ((dZ.f k a0).bind fun r1=>(aJ.f k (r1.1,(false,()))).bind fun r2=>(aJ.f k r2.1).bind fun r3=>L0 a0 r1.2.1 r3.2.1 0 [] 0 r3.1.1 r3.1.2.1 [] r2.2.1)
def f:=t k (l0 k k)
end ax
namespace lf
abbrev Rs:Type:=Option (ByteArray × Unit)
def t (a0:Int):Rs :=
 ((nN.f k a0).bind fun r1=>some r1)
def f:=t k
end lf
namespace jg
abbrev Rs:Type:=Option (ByteArray × Unit)
def t (a0:ByteArray) (a1:Int):Rs :=
 ((aa.f k a1 1 100000).bind fun r1=>cond (!r1.1) (some ((⟨#[]⟩:ByteArray),())) ((lf.f k a1).bind fun r2=>jm a0 r2.1 (some ((a0++r2.1),()))))
def f:=t k
end jg
namespace ai
abbrev Rs:Type:=Option (ByteArray × Unit)
def t (a0:Int):Rs :=
 ((jg.f k (⟨#[115,101,103]⟩:ByteArray) a0).bind fun r1=>some r1)
def f:=t k
end ai
namespace ar
abbrev Rs:Type:=Option ((Ty.d mR) × ByteArray × Unit)
def t (k:Nat) (a0:Ty.d mR) (a1:Int):Rs :=
 (cond a0.2.1 (some ((a0.1,(true,())),((⟨#[]⟩:ByteArray),()))) (cond (decide (a1 > (a0.1.size:Int))) (some ((a0.1,(true,())),((⟨#[]⟩:ByteArray),()))) (qn a1 (a0.1.size:Int) (qn a1 (a0.1.size:Int) (some (((a0.1.extract a1.toNat (a0.1.size)),a0.2),((a0.1.extract 0 a1.toNat),())))))))
def f:=t k
end ar
namespace ah
abbrev Rs:Type:=Option ((Ty.d mR) × ByteArray × Unit)
def t (a0:Ty.d mR):Rs :=
 ((aJ.f k a0).bind fun r1=>(ar.f k r1.1 r1.2.1).bind fun r2=>some r2)
def f:=t k
end ah
namespace dU
abbrev Rs:Type:=Option (Bool × Unit)
def t (a0:ByteArray):Rs :=
 ((aa.f k (a0.size:Int) 1 8).bind fun r1=>some r1)
def f:=t k
end dU
namespace gM
abbrev Rs:Type:=Option (Bool × Unit)
def t (a0:Ty.d bQ):Rs :=
 (cond (a0.1==1) (cond (a0.1==1) ((dU.f k a0.2.2.1).bind fun r1=>cond r1.1 (cond (decide ((a0.2.2.2.1.size:Int)≤24)) ((aa.f k a0.2.1 1 1000000).bind fun r2=>cond r2.1 (some (((a0.1==a0.1)&&((a0.2.1==a0.2.1)&&((seq a0.2.2.1 a0.2.2.1)&&((seq a0.2.2.2.1 a0.2.2.2.1)&&((a0.2.2.2.2.1==0)&&(a0.2.2.2.2.2.1==0)))))),())) (some (false,()))) (some (false,()))) (some (false,()))) (cond (a0.1==2) ((dU.f k a0.2.2.1).bind fun r3=>cond r3.1 ((aa.f k a0.2.1 1 1000000).bind fun r4=>cond r4.1 (some (((a0.1==a0.1)&&((a0.2.1==a0.2.1)&&((seq a0.2.2.1 a0.2.2.1)&&((seq a0.2.2.2.1 ByteArray.empty)&&((a0.2.2.2.2.1==0)&&(a0.2.2.2.2.2.1==0)))))),())) (some (false,()))) (some (false,()))) (cond (a0.1==3) ((aa.f k a0.2.2.2.2.1 0 8).bind fun r5=>cond r5.1 ((aa.f k a0.2.2.2.2.2.1 0 4294967295).bind fun r6=>cond r6.1 ((aa.f k a0.2.1 1 1000000).bind fun r7=>cond r7.1 (some (((a0.1==a0.1)&&((a0.2.1==a0.2.1)&&((seq a0.2.2.1 ByteArray.empty)&&((seq a0.2.2.2.1 ByteArray.empty)&&((a0.2.2.2.2.1==a0.2.2.2.2.1)&&(a0.2.2.2.2.2.1==a0.2.2.2.2.2.1)))))),())) (some (false,()))) (some (false,()))) (some (false,()))) (cond (a0.1==5) ((aa.f k a0.2.2.2.2.1 0 20).bind fun r8=>cond r8.1 ((aa.f k a0.2.2.2.2.2.1 0 4294967295).bind fun r9=>cond r9.1 ((aa.f k a0.2.1 0 1000000).bind fun pQ=>cond pQ.1 (some (((a0.1==a0.1)&&((a0.2.1==a0.2.1)&&((seq a0.2.2.1 ByteArray.empty)&&((seq a0.2.2.2.1 ByteArray.empty)&&((a0.2.2.2.2.1==a0.2.2.2.2.1)&&(a0.2.2.2.2.2.1==a0.2.2.2.2.2.1)))))),())) (some (false,()))) (some (false,()))) (some (false,()))) (some (false,())))))) (cond (a0.1==4) ((dU.f k a0.2.2.1).bind fun s7=>cond s7.1 (cond (decide ((a0.2.2.2.1.size:Int)≤24)) ((aa.f k a0.2.1 1 1000000).bind fun r12=>cond r12.1 (some (((a0.1==a0.1)&&((a0.2.1==a0.2.1)&&((seq a0.2.2.1 a0.2.2.1)&&((seq a0.2.2.2.1 a0.2.2.2.1)&&((a0.2.2.2.2.1==0)&&(a0.2.2.2.2.2.1==0)))))),())) (some (false,()))) (some (false,()))) (some (false,()))) (cond (a0.1==2) ((dU.f k a0.2.2.1).bind fun r13=>cond r13.1 ((aa.f k a0.2.1 1 1000000).bind fun r14=>cond r14.1 (some (((a0.1==a0.1)&&((a0.2.1==a0.2.1)&&((seq a0.2.2.1 a0.2.2.1)&&((seq a0.2.2.2.1 ByteArray.empty)&&((a0.2.2.2.2.1==0)&&(a0.2.2.2.2.2.1==0)))))),())) (some (false,()))) (some (false,()))) (cond (a0.1==3) ((aa.f k a0.2.2.2.2.1 0 8).bind fun r15=>cond r15.1 ((aa.f k a0.2.2.2.2.2.1 0 4294967295).bind fun r16=>cond r16.1 ((aa.f k a0.2.1 1 1000000).bind fun r17=>cond r17.1 (some (((a0.1==a0.1)&&((a0.2.1==a0.2.1)&&((seq a0.2.2.1 ByteArray.empty)&&((seq a0.2.2.2.1 ByteArray.empty)&&((a0.2.2.2.2.1==a0.2.2.2.2.1)&&(a0.2.2.2.2.2.1==a0.2.2.2.2.2.1)))))),())) (some (false,()))) (some (false,()))) (some (false,()))) (cond (a0.1==5) ((aa.f k a0.2.2.2.2.1 0 20).bind fun r18=>cond r18.1 ((aa.f k a0.2.2.2.2.2.1 0 4294967295).bind fun r19=>cond r19.1 ((aa.f k a0.2.1 0 1000000).bind fun r20=>cond r20.1 (some (((a0.1==a0.1)&&((a0.2.1==a0.2.1)&&((seq a0.2.2.1 ByteArray.empty)&&((seq a0.2.2.2.1 ByteArray.empty)&&((a0.2.2.2.2.1==a0.2.2.2.2.1)&&(a0.2.2.2.2.2.1==a0.2.2.2.2.2.1)))))),())) (some (false,()))) (some (false,()))) (some (false,()))) (some (false,())))))))
def f:=t k
end gM
namespace bu
abbrev Rs:Type:=Option (Int × Bool × Unit)
abbrev T0:Type:=ByteArray→Int→Int→Int→Rs
def b0 (k:Nat) (L0:T0):T0:=fun x0 x1 x2 x3 =>
 (cond (decide (x3<x2)) (fW x3 (x0.size:Int) (L0 x0 (aU (((BitVec.ofInt (IntKind.bits .i64) (aU (x1*2 ^ (min (Int.toNat 8) (IntKind.bits .i64)))) ||| BitVec.ofInt (IntKind.bits .i64) (aU (jJ x0 x3))).toNat:Int))) x2 (aU (x3+1)))) (some (x1,(true,()))))
def l0:Nat→T0
 | 0=>fun _ _ _ _=>none
 | n+1=>b0 k (l0 n)
def t (L0:T0) (a0:ByteArray) (a1:Int):Rs :=
 ((aa.f k a1 1 7).bind fun r1=>cond (!r1.1) (some (0,(false,()))) (cond (decide ((a0.size:Int)<a1)) (some (0,(false,()))) (L0 a0 0 a1 0)))
def f:=t k (l0 k k)
end bu
namespace cm
abbrev Rs:Type:=Option ((Ty.d bQ) × Bool × Unit)
def t (a0:ByteArray):Rs :=
 ((aJ.f k (a0,(false,()))).bind fun r1=>(aJ.f k r1.1).bind fun r2=>cond (r1.2.1==1) (cond (r1.2.1==1) ((ah.f k r2.1).bind fun r3=>(ah.f k r3.1).bind fun r4=>cond r4.1.2.1 (some ((0,(0,(ByteArray.empty,(ByteArray.empty,(0,(0,())))))),(false,()))) (cond (!(seq r4.1.1 (⟨#[]⟩:ByteArray))) (some ((0,(0,(ByteArray.empty,(ByteArray.empty,(0,(0,())))))),(false,()))) ((gM.f k (r1.2.1,(r2.2.1,(r3.2.1,(r4.2.1,(0,(0,()))))))).bind fun r5=>cond (!r5.1) (some ((0,(0,(ByteArray.empty,(ByteArray.empty,(0,(0,())))))),(false,()))) (some ((r1.2.1,(r2.2.1,(r3.2.1,(r4.2.1,(0,(0,())))))),(true,())))))) (cond (r1.2.1==2) ((ah.f k r2.1).bind fun r6=>cond r6.1.2.1 (some ((0,(0,(ByteArray.empty,(ByteArray.empty,(0,(0,())))))),(false,()))) (cond (!(seq r6.1.1 (⟨#[]⟩:ByteArray))) (some ((0,(0,(ByteArray.empty,(ByteArray.empty,(0,(0,())))))),(false,()))) ((gM.f k (r1.2.1,(r2.2.1,(r6.2.1,(ByteArray.empty,(0,(0,()))))))).bind fun r7=>cond (!r7.1) (some ((0,(0,(ByteArray.empty,(ByteArray.empty,(0,(0,())))))),(false,()))) (some ((r1.2.1,(r2.2.1,(r6.2.1,(ByteArray.empty,(0,(0,())))))),(true,())))))) ((aJ.f k r2.1).bind fun r8=>(ar.f k r8.1 4).bind fun r9=>(bu.f k r9.2.1 4).bind fun pQ=>cond r9.1.2.1 (some ((0,(0,(ByteArray.empty,(ByteArray.empty,(0,(0,())))))),(false,()))) (cond (!(seq r9.1.1 (⟨#[]⟩:ByteArray))) (some ((0,(0,(ByteArray.empty,(ByteArray.empty,(0,(0,())))))),(false,()))) ((gM.f k (r1.2.1,(r2.2.1,(ByteArray.empty,(ByteArray.empty,(r8.2.1,(pQ.1,()))))))).bind fun s7=>cond (!s7.1) (some ((0,(0,(ByteArray.empty,(ByteArray.empty,(0,(0,())))))),(false,()))) (some ((r1.2.1,(r2.2.1,(ByteArray.empty,(ByteArray.empty,(r8.2.1,(pQ.1,())))))),(true,())))))))) (cond (r1.2.1==4) ((ah.f k r2.1).bind fun r12=>(ah.f k r12.1).bind fun r13=>cond r13.1.2.1 (some ((0,(0,(ByteArray.empty,(ByteArray.empty,(0,(0,())))))),(false,()))) (cond (!(seq r13.1.1 (⟨#[]⟩:ByteArray))) (some ((0,(0,(ByteArray.empty,(ByteArray.empty,(0,(0,())))))),(false,()))) ((gM.f k (r1.2.1,(r2.2.1,(r12.2.1,(r13.2.1,(0,(0,()))))))).bind fun r14=>cond (!r14.1) (some ((0,(0,(ByteArray.empty,(ByteArray.empty,(0,(0,())))))),(false,()))) (some ((r1.2.1,(r2.2.1,(r12.2.1,(r13.2.1,(0,(0,())))))),(true,())))))) (cond (r1.2.1==2) ((ah.f k r2.1).bind fun r15=>cond r15.1.2.1 (some ((0,(0,(ByteArray.empty,(ByteArray.empty,(0,(0,())))))),(false,()))) (cond (!(seq r15.1.1 (⟨#[]⟩:ByteArray))) (some ((0,(0,(ByteArray.empty,(ByteArray.empty,(0,(0,())))))),(false,()))) ((gM.f k (r1.2.1,(r2.2.1,(r15.2.1,(ByteArray.empty,(0,(0,()))))))).bind fun r16=>cond (!r16.1) (some ((0,(0,(ByteArray.empty,(ByteArray.empty,(0,(0,())))))),(false,()))) (some ((r1.2.1,(r2.2.1,(r15.2.1,(ByteArray.empty,(0,(0,())))))),(true,())))))) ((aJ.f k r2.1).bind fun r17=>(ar.f k r17.1 4).bind fun r18=>(bu.f k r18.2.1 4).bind fun r19=>cond r18.1.2.1 (some ((0,(0,(ByteArray.empty,(ByteArray.empty,(0,(0,())))))),(false,()))) (cond (!(seq r18.1.1 (⟨#[]⟩:ByteArray))) (some ((0,(0,(ByteArray.empty,(ByteArray.empty,(0,(0,())))))),(false,()))) ((gM.f k (r1.2.1,(r2.2.1,(ByteArray.empty,(ByteArray.empty,(r17.2.1,(r19.1,()))))))).bind fun r20=>cond (!r20.1) (some ((0,(0,(ByteArray.empty,(ByteArray.empty,(0,(0,())))))),(false,()))) (some ((r1.2.1,(r2.2.1,(ByteArray.empty,(ByteArray.empty,(r17.2.1,(r19.1,())))))),(true,())))))))))
def f:=t k
end cm
namespace cu
abbrev Rs:Type:=Option ((List (Ty.d cX)) × Int × Unit)
abbrev T0:Type:=ByteArray→Int→List (Ty.d cX)→Rs
def b0 (L0:T0):T0:=fun x0 x1 x2 =>
 (qn x1 (x0.size:Int) ((dZ.f k (x0.extract x1.toNat (x0.size))).bind fun r1=>(cm.f k r1.1).bind fun r2=>cond (r1.2.1==0) (some (x2,(x1,()))) (cond (!r2.2.1) (some (x2,(x1,()))) (rm (Ty.bytes cX) (x2.length+1) (L0 x0 (aU (x1+r1.2.1)) (x2++[(x1,(r1.2.1,(r2.1,())))]))))))
def l0:Nat→T0
 | 0=>fun _ _ _=>none
 | n+1=>b0 k (l0 n)
def t (k:Nat) (L0:T0) (a0:ByteArray):Rs :=
 (L0 a0 0 [])
def f:=t k (l0 k k)
end cu
namespace eO
abbrev Rs:Type:=Option ((List (Ty.d aI)) × Unit)
abbrev T0:Type:=Int→List (Ty.d cX)→Int→Int→List (Ty.d aI)→Rs
def b0 (k:Nat) (L0:T0):T0:=fun x0 x1 x2 x3 x4 =>
 (cond (decide (x3<x2)) (fW x3 (x1.length:Int) (rm (Ty.bytes aI) (x4.length+1) (L0 x0 x1 x2 (aU (x3+1)) (x4++[(x0,(x1.getD x3.toNat (Ty.z cX)))])))) (some (x4,())))
def l0:Nat→T0
 | 0=>fun _ _ _ _ _=>none
 | n+1=>b0 k (l0 n)
def t (k:Nat) (L0:T0) (a0:Int) (a1:List (Ty.d cX)):Rs :=
 (L0 a0 a1 (a1.length:Int) 0 [])
def f:=t k (l0 k k)
end eO
namespace bJ
abbrev Rs:Type:=Option ((Ty.d aj) × (List (List (Ty.d aI))) × Int × Bool × Unit)
abbrev T0:Type:=Int→List Int→Int→Int→List (Ty.d aF)→Int→Int→Bool→Int→Int→List Int→List (List (Ty.d aI))→Rs
def b0 (L0:T0):T0:=fun x0 x1 x2 x3 x4 x5 x6 x7 x8 x9 x10 x11 =>
 (cond (decide (x3<x2)) (fW x3 (x1.length:Int) ((ai.f k (x1.getD x3.toNat (Ty.z (.int .i64)))).bind fun r1=>(bh.f k (x4,(x5,(x6,(x7,())))) r1.1).bind fun r2=>(cu.f k r2.1).bind fun r3=>cond (!r2.2.1) (some (((x4,(x5,(x6,(x7,())))),(x8,())),([],(0,(false,()))))) (cond (decide (x3<(aU ((x10.length:Int)-1)))) (cond (r3.2.1 != (r2.1.size:Int)) (some (((x4,(x5,(x6,(x7,())))),(x8,())),([],(0,(false,()))))) ((eO.f k (x1.getD x3.toNat (Ty.z (.int .i64))) r3.1).bind fun r4=>rm (Ty.bytes (.slice aI)) (x11.length+1) (L0 r3.2.1 x1 x2 (aU (x3+1)) x4 x5 x6 x7 x8 x9 x10 (x11++[r4.1])))) ((eO.f k (x1.getD x3.toNat (Ty.z (.int .i64))) r3.1).bind fun r5=>rm (Ty.bytes (.slice aI)) (x11.length+1) (L0 r3.2.1 x1 x2 (aU (x3+1)) x4 x5 x6 x7 x8 x9 x10 (x11++[r5.1])))))) (some (((x4,(x5,(x6,(x7,())))),(x8,())),(x11,(x0,(true,()))))))
def l0:Nat→T0
 | 0=>fun _ _ _ _ _ _ _ _ _ _ _ _=>none
 | n+1=>b0 k (l0 n)
def t (k:Nat) (L0:T0) (a0:Ty.d aj) (a1:Ty.d cC):Rs :=
 (L0 0 a1.2.1 (a1.2.1.length:Int) 0 a0.1.1 a0.1.2.1 a0.1.2.2.1 a0.1.2.2.2.1 a0.2.1 a1.1 a1.2.1 [])
def f:=t k (l0 k k)
end bJ
namespace eF
abbrev Rs:Type:=Option ((Ty.d aA) × ByteArray × Int × Int × Unit)
def t (a0:Ty.d aA) (a1:ByteArray) (a2:Int):Rs :=
 ((bV.f k a0 a1).bind fun r1=>cond (decide (r1.1<0)) (some (a0,(a1,(a2,(3,()))))) (fW r1.1 (a0.1.length:Int) ((aa.f k a2 0 (ByteArray.size (a0.1.getD r1.1.toNat (Ty.z aF)).2.1:Int)).bind fun r2=>cond (!r2.1) (some (a0,(a1,(a2,(5,()))))) (qn a2 (ByteArray.size (a0.1.getD r1.1.toNat (Ty.z aF)).2.1:Int) (let l3:=(a0.1.set r1.1.toNat ((a0.1.getD r1.1.toNat (Ty.z aF)).1,((ByteArray.extract (a0.1.getD r1.1.toNat (Ty.z aF)).2.1 0 a2.toNat),(a0.1.getD r1.1.toNat (Ty.z aF)).2.2)));(let l4:=(l3.set r1.1.toNat ((l3.getD r1.1.toNat (Ty.z aF)).1,((l3.getD r1.1.toNat (Ty.z aF)).2.1,((if a2<(a0.1.getD r1.1.toNat (Ty.z aF)).2.2.1 then a2 else (a0.1.getD r1.1.toNat (Ty.z aF)).2.2.1),(l3.getD r1.1.toNat (Ty.z aF)).2.2.2))));(some ((l4,a0.2),(a1,(a2,(0,())))))))))))
def f:=t k
end eF
namespace f_
abbrev Rs:Type:=Option (ByteArray × Int × (Ty.d aA) × Int × Unit)
def t (a0:Ty.d aA) (a1:ByteArray) (a2:Int):Rs :=
 ((az.f k a0).bind fun r1=>(am.f k a0).bind fun r2=>cond (!r2.1) (some (a1,(a2,(r1.1,(5,()))))) (cond a0.2.2.2.1 (some (a1,(a2,((r1.1.1,(r1.1.2.1,(r1.1.2.2.1,(true,())))),(1,()))))) (cond (a0.2.2.1==0) (some (a1,(a2,((r1.1.1,(r1.1.2.1,(r1.1.2.2.1,(true,())))),(1,()))))) (cond (decide (a0.2.2.1 > 0)) ((eF.f k (r1.1.1,(r1.1.2.1,((aU (r1.1.2.2.1-1)),r1.1.2.2.2))) a1 a2).bind fun r3=>some (r3.2.1,(r3.2.2.1,(r3.1,r3.2.2.2)))) ((eF.f k r1.1 a1 a2).bind fun r4=>some (r4.2.1,(r4.2.2.1,(r4.1,r4.2.2.2))))))))
def f:=t k
end f_
namespace ir
abbrev Rs:Type:=Option ((Ty.d aA) × Int × Unit)
def t (a0:Ty.d aA) (a1:ByteArray) (a2:Int):Rs :=
 ((f_.f k a0 a1 a2).bind fun r1=>some r1.2.2)
def f:=t k
end ir
namespace mK
abbrev Rs:Type:=Option (Int × Unit)
def t (k:Nat) (a0:Int):Rs :=
 (cond (a0==0) (some (0,())) (cond (a0==1) (some (1,())) (cond (a0==2) (some (2,())) (some (3,())))))
def f:=t k
end mK
namespace aw
abbrev Rs:Type:=Option ((Ty.d aj) × Unit)
def t (a0:Ty.d aj) (a1:Ty.d aA) (a2:Int):Rs :=
 ((mK.f k a2).bind fun r1=>some ((a1,r1),()))
def f:=t k
end aw
namespace iO
abbrev Rs:Type:=Option ((Ty.d aA) × ByteArray × Int × Unit)
def t (a0:Ty.d aA) (a1:ByteArray):Rs :=
 ((bV.f k a0 a1).bind fun r1=>cond (decide (r1.1<0)) (some (a0,(a1,(3,())))) (fW r1.1 (a0.1.length:Int) (fW r1.1 (a0.1.length:Int) (let l2:=(a0.1.set r1.1.toNat ((a0.1.getD r1.1.toNat (Ty.z aF)).1,((a0.1.getD r1.1.toNat (Ty.z aF)).2.1,((ByteArray.size (a0.1.getD r1.1.toNat (Ty.z aF)).2.1:Int),(a0.1.getD r1.1.toNat (Ty.z aF)).2.2.2))));(some ((l2,a0.2),(a1,(0,()))))))))
def f:=t k
end iO
namespace iC
abbrev Rs:Type:=Option (ByteArray × (Ty.d aA) × Int × Unit)
def t (a0:Ty.d aA) (a1:ByteArray):Rs :=
 ((az.f k a0).bind fun r1=>(am.f k a0).bind fun r2=>cond (!r2.1) (some (a1,(r1.1,(5,())))) (cond a0.2.2.2.1 (some (a1,((r1.1.1,(r1.1.2.1,(r1.1.2.2.1,(true,())))),(1,())))) (cond (a0.2.2.1==0) (some (a1,((r1.1.1,(r1.1.2.1,(r1.1.2.2.1,(true,())))),(1,())))) (cond (decide (a0.2.2.1 > 0)) ((iO.f k (r1.1.1,(r1.1.2.1,((aU (r1.1.2.2.1-1)),r1.1.2.2.2))) a1).bind fun r3=>some (r3.2.1,(r3.1,r3.2.2))) ((iO.f k r1.1 a1).bind fun r4=>some (r4.2.1,(r4.1,r4.2.2)))))))
def f:=t k
end iC
namespace mD
abbrev Rs:Type:=Option ((Ty.d aA) × Int × Unit)
def t (a0:Ty.d aA) (a1:ByteArray):Rs :=
 ((iC.f k a0 a1).bind fun r1=>some r1.2)
def f:=t k
end mD
namespace bM
abbrev Rs:Type:=Option ((Ty.d aj) × Unit)
def t (a0:Ty.d aj) (a1:ByteArray):Rs :=
 (cond (a0.2.1==0) ((mD.f k a0.1 a1).bind fun r1=>(aw.f k a0 r1.1 r1.2.1).bind fun r2=>some r2) (some (a0,())))
def f:=t k
end bM
namespace dF
abbrev Rs:Type:=Option (ByteArray × Unit)
def t (a0:Int):Rs :=
 ((jg.f k (⟨#[104,105,110,116]⟩:ByteArray) a0).bind fun r1=>some r1)
def f:=t k
end dF
namespace dy
abbrev Rs:Type:=Option (Bool × Unit)
abbrev T0:Type:=List (Ty.d aB)→List (Ty.d aB)→Int→Int→Rs
def b0 (L0:T0):T0:=fun x0 x1 x2 x3 =>
 (cond (decide (x3<x2)) (fW x3 (x1.length:Int) ((dU.f k (x1.getD x3.toNat (Ty.z aB)).1).bind fun r1=>cond (!r1.1) (some (false,())) ((aa.f k (x1.getD x3.toNat (Ty.z aB)).2.1 1 100000).bind fun r2=>cond (!r2.1) (some (false,())) (cond (decide ((x1.getD x3.toNat (Ty.z aB)).2.2.1<0)) (some (false,())) ((aa.f k (x1.getD x3.toNat (Ty.z aB)).2.2.2.1 1 210).bind fun r3=>cond (!r3.1) (some (false,())) ((aa.f k (x1.getD x3.toNat (Ty.z aB)).2.2.2.2.1 1 1000000).bind fun r4=>cond (!r4.1) (some (false,())) (cond (decide (x3 > 0)) (fW (aU (x3-1)) (x0.length:Int) (cond (!(nS (x0.getD (aU (x3-1)).toNat (Ty.z aB)).1 (x1.getD x3.toNat (Ty.z aB)).1)) (some (false,())) (L0 x0 x1 x2 (aU (x3+1))))) (L0 x0 x1 x2 (aU (x3+1)))))))))) (some ((decide ((x0.length:Int)≤20)),())))
def l0:Nat→T0
 | 0=>fun _ _ _ _=>none
 | n+1=>b0 k (l0 n)
def t (k:Nat) (L0:T0) (a0:List (Ty.d aB)):Rs :=
 (L0 a0 a0 (a0.length:Int) 0)
def f:=t k (l0 k k)
end dy
namespace dw
abbrev Rs:Type:=Option (Bool × Unit)
abbrev T0:Type:=List (Ty.d aB)→Int→Int→Int→Int→List (Ty.d aB)→Rs
def b0 (L0:T0):T0:=fun x0 x1 x2 x3 x4 x5 =>
 (cond (decide (x2<x1)) (fW x2 (x0.length:Int) (fW 0 (x5.length:Int) (cond ((x0.getD x2.toNat (Ty.z aB)).2.1 != (x5.getD 0 (Ty.z aB)).2.1) (some (false,())) (cond (decide ((x0.getD x2.toNat (Ty.z aB)).2.2.1 > 100000)) (some (false,())) (L0 x0 x1 (aU (x2+1)) x3 x4 x5))))) ((aa.f k x3 0 100000).bind fun r1=>cond r1.1 ((aa.f k x4 0 1000000).bind fun r2=>cond r2.1 ((dy.f k x5).bind fun r3=>some r3) (some (false,()))) (some (false,()))))
def l0:Nat→T0
 | 0=>fun _ _ _ _ _ _=>none
 | n+1=>b0 k (l0 n)
def t (k:Nat) (L0:T0) (a0:Ty.d ic):Rs :=
 (L0 a0.2.2.1 (a0.2.2.1.length:Int) 0 a0.1 a0.2.1 a0.2.2.1)
def f:=t k (l0 k k)
end dw
namespace dM
abbrev Rs:Type:=Option (ByteArray × Unit)
abbrev T0:Type:=ByteArray→List Int→Int→Int→Rs
def b0 (L0:T0):T0:=fun x0 x1 x2 x3 =>
 (cond (decide (x3<x2)) (fW x3 (x1.length:Int) ((fS.f k (x1.getD x3.toNat (Ty.z (.int .i64)))).bind fun r1=>jm x0 r1.1 (L0 (x0++r1.1) x1 x2 (aU (x3+1))))) (some (x0,())))
def l0:Nat→T0
 | 0=>fun _ _ _ _=>none
 | n+1=>b0 k (l0 n)
def t (k:Nat) (L0:T0) (a0:List Int):Rs :=
 (L0 (⟨#[]⟩:ByteArray) a0 (a0.length:Int) 0)
def f:=t k (l0 k k)
end dM
namespace cv
abbrev Rs:Type:=Option (ByteArray × Unit)
abbrev T0:Type:=ByteArray→List (Ty.d aB)→Int→Int→Rs
def b0 (L0:T0):T0:=fun x0 x1 x2 x3 =>
 (cond (decide (x3<x2)) (fW x3 (x1.length:Int) ((du.f k (x1.getD x3.toNat (Ty.z aB)).1).bind fun r3=>(dM.f k [(x1.getD x3.toNat (Ty.z aB)).2.1,(x1.getD x3.toNat (Ty.z aB)).2.2.1,(x1.getD x3.toNat (Ty.z aB)).2.2.2.1,(x1.getD x3.toNat (Ty.z aB)).2.2.2.2.1]).bind fun r4=>jm r3.1 r4.1 (jm x0 (r3.1++r4.1) (L0 (x0++(r3.1++r4.1)) x1 x2 (aU (x3+1)))))) ((gN.f k x0).bind fun r5=>(dV.f k r5.1 4).bind fun r6=>jm r6.1 x0 (some ((r6.1++x0),()))))
def l0:Nat→T0
 | 0=>fun _ _ _ _=>none
 | n+1=>b0 k (l0 n)
def t (L0:T0) (a0:Ty.d ic):Rs :=
 ((dw.f k a0).bind fun r1=>cond (!r1.1) (some ((⟨#[]⟩:ByteArray),())) ((dM.f k [a0.1,a0.2.1,(a0.2.2.1.length:Int)]).bind fun r2=>L0 r2.1 a0.2.2.1 (a0.2.2.1.length:Int) 0))
def f:=t k (l0 k k)
end cv
namespace ay
abbrev Rs:Type:=Option ((Ty.d ic) × Bool × Unit)
abbrev T0:Type:=ByteArray→Int→Int→List (Ty.d aB)→Int→Int→ByteArray→Bool→List (Ty.d aB)→Int→Int→Rs
def b0 (L0:T0):T0:=fun x0 x1 x2 x3 x4 x5 x6 x7 x8 x9 x10 =>
 (cond (decide (x2<x1)) (cond (!x7) ((ah.f k (x6,(x7,()))).bind fun r5=>(aJ.f k r5.1).bind fun r6=>(aJ.f k r6.1).bind fun r7=>(aJ.f k r7.1).bind fun r8=>(aJ.f k r8.1).bind fun r9=>rm (Ty.bytes aB) (x8.length+1) (L0 x0 x1 (aU (x2+1)) x3 x4 x5 r9.1.1 r9.1.2.1 (x8++[(r5.2.1,(r6.2.1,(r7.2.1,(r8.2.1,r9.2))))]) x9 x10)) (cond x7 (some ((0,(0,([],()))),(false,()))) ((dw.f k (x9,(x10,(x8,())))).bind fun pQ=>cond (!pQ.1) (some ((0,(0,([],()))),(false,()))) ((cv.f k (x9,(x10,(x8,())))).bind fun s7=>cond (!(seq s7.1 x0)) (some ((0,(0,([],()))),(false,()))) (some ((x9,(x10,(x8,()))),(true,()))))))) (cond x7 (some ((0,(0,([],()))),(false,()))) ((dw.f k (x9,(x10,(x8,())))).bind fun r12=>cond (!r12.1) (some ((0,(0,([],()))),(false,()))) ((cv.f k (x9,(x10,(x8,())))).bind fun r13=>cond (!(seq r13.1 x0)) (some ((0,(0,([],()))),(false,()))) (some ((x9,(x10,(x8,()))),(true,())))))))
def l0:Nat→T0
 | 0=>fun _ _ _ _ _ _ _ _ _ _ _=>none
 | n+1=>b0 k (l0 n)
def t (L0:T0) (a0:ByteArray):Rs :=
 ((ar.f k (a0,(false,())) 4).bind fun r1=>(aJ.f k r1.1).bind fun r2=>(aJ.f k r2.1).bind fun r3=>(aJ.f k r3.1).bind fun r4=>L0 a0 r4.2.1 0 [] 0 0 r4.1.1 r4.1.2.1 [] r2.2.1 r3.2.1)
def f:=t k (l0 k k)
end ay
namespace g6
abbrev Rs:Type:=Option (ByteArray × Unit)
def t (a0:Ty.d bQ):Rs :=
 ((gM.f k a0).bind fun r1=>cond (!r1.1) (some ((⟨#[]⟩:ByteArray),())) ((dM.f k [a0.1,a0.2.1]).bind fun r2=>cond (a0.1==1) (cond (a0.1==1) ((du.f k a0.2.2.1).bind fun r3=>jm r2.1 r3.1 ((du.f k a0.2.2.2.1).bind fun r4=>jm (r2.1++r3.1) r4.1 (some (((r2.1++r3.1)++r4.1),())))) (cond (a0.1==2) ((du.f k a0.2.2.1).bind fun r5=>jm r2.1 r5.1 (some ((r2.1++r5.1),()))) ((fS.f k a0.2.2.2.2.1).bind fun r6=>jm r2.1 r6.1 ((dV.f k a0.2.2.2.2.2.1 4).bind fun r7=>jm (r2.1++r6.1) r7.1 (some (((r2.1++r6.1)++r7.1),())))))) (cond (a0.1==4) ((du.f k a0.2.2.1).bind fun r8=>jm r2.1 r8.1 ((du.f k a0.2.2.2.1).bind fun r9=>jm (r2.1++r8.1) r9.1 (some (((r2.1++r8.1)++r9.1),())))) (cond (a0.1==2) ((du.f k a0.2.2.1).bind fun pQ=>jm r2.1 pQ.1 (some ((r2.1++pQ.1),()))) ((fS.f k a0.2.2.2.2.1).bind fun s7=>jm r2.1 s7.1 ((dV.f k a0.2.2.2.2.2.1 4).bind fun r12=>jm (r2.1++s7.1) r12.1 (some (((r2.1++s7.1)++r12.1),()))))))))
def f:=t k
end g6
namespace gC
abbrev Rs:Type:=Option (Int × Unit)
abbrev T0:Type:=ByteArray→List (Ty.d bQ)→Int→Int→Rs
def b0 (L0:T0):T0:=fun x0 x1 x2 x3 =>
 (cond (decide (x3<x2)) (fW x3 (x1.length:Int) ((g6.f k (x1.getD x3.toNat (Ty.z bQ))).bind fun r1=>jm x0 r1.1 (L0 (x0++r1.1) x1 x2 (aU (x3+1))))) ((gN.f k x0).bind fun r2=>some r2))
def l0:Nat→T0
 | 0=>fun _ _ _ _=>none
 | n+1=>b0 k (l0 n)
def t (k:Nat) (L0:T0) (a0:List (Ty.d bQ)):Rs :=
 (L0 (⟨#[]⟩:ByteArray) a0 (a0.length:Int) 0)
def f:=t k (l0 k k)
end gC
namespace gw
abbrev Rs:Type:=Option (Bool × Unit)
abbrev T0:Type:=List (Ty.d aI)→Int→Int→Int→Int→ByteArray→ByteArray→Int→Int→List (Ty.d bQ)→Rs
def b0 (L0:T0):T0:=fun x0 x1 x2 x3 x4 x5 x6 x7 x8 x9 =>
 (cond (decide (x2<x1)) (fW x2 (x0.length:Int) (rm (Ty.bytes bQ) (x9.length+1) (L0 x0 x1 (aU (x2+1)) x3 x4 x5 x6 x7 x8 (x9++[(x0.getD x2.toNat (Ty.z aI)).2.2.2.1])))) (cond (x7==(x9.length:Int)) ((gC.f k x9).bind fun r1=>some ((x8==r1.1),())) (some (false,()))))
def l0:Nat→T0
 | 0=>fun _ _ _ _ _ _ _ _ _ _=>none
 | n+1=>b0 k (l0 n)
def t (k:Nat) (L0:T0) (a0:Ty.d bQ) (a1:List (Ty.d aI)):Rs :=
 (L0 a1 (a1.length:Int) 0 a0.1 a0.2.1 a0.2.2.1 a0.2.2.2.1 a0.2.2.2.2.1 a0.2.2.2.2.2.1 [])
def f:=t k (l0 k k)
end gw
namespace dq
abbrev Rs:Type:=Option ((Ty.d ic) × Bool × Unit)
abbrev T0:Type:=Int→List (Ty.d cX)→List (Ty.d cX)→Int→Int→List (Ty.d aB)→Int→Int→List (Ty.d aB)→Int→Int→Rs
def b0 (k:Nat) (L0:T0):T0:=fun x0 x1 x2 x3 x4 x5 x6 x7 x8 x9 x10 =>
 (cond (decide (x4<x3)) (fW x4 (x2.length:Int) (cond ((x2.getD x4.toNat (Ty.z cX)).2.2.1.1 != 4) (some ((0,(0,([],()))),(false,()))) (cond (decide ((x2.getD x4.toNat (Ty.z cX)).2.2.1.2.1 > x10)) (some ((0,(0,([],()))),(false,()))) (cond (decide (x4 > 0)) (fW (aU (x4-1)) (x1.length:Int) (cond (!(nS (x1.getD (aU (x4-1)).toNat (Ty.z cX)).2.2.1.2.2.1 (x2.getD x4.toNat (Ty.z cX)).2.2.1.2.2.1)) (some ((0,(0,([],()))),(false,()))) (rm (Ty.bytes aB) (x8.length+1) (L0 x0 x1 x2 x3 (aU (x4+1)) x5 x6 x7 (x8++[((x2.getD x4.toNat (Ty.z cX)).2.2.1.2.2.1,(x0,((x2.getD x4.toNat (Ty.z cX)).1,((x2.getD x4.toNat (Ty.z cX)).2.1,((x2.getD x4.toNat (Ty.z cX)).2.2.1.2.1,())))))]) x9 x10)))) (rm (Ty.bytes aB) (x8.length+1) (L0 x0 x1 x2 x3 (aU (x4+1)) x5 x6 x7 (x8++[((x2.getD x4.toNat (Ty.z cX)).2.2.1.2.2.1,(x0,((x2.getD x4.toNat (Ty.z cX)).1,((x2.getD x4.toNat (Ty.z cX)).2.1,((x2.getD x4.toNat (Ty.z cX)).2.2.1.2.1,())))))]) x9 x10)))))) (some ((x9,(x10,(x8,()))),(true,()))))
def l0:Nat→T0
 | 0=>fun _ _ _ _ _ _ _ _ _ _ _=>none
 | n+1=>b0 k (l0 n)
def t (L0:T0) (a0:Int) (a1:ByteArray):Rs :=
 ((cu.f k a1).bind fun r1=>cond (decide ((aU ((r1.1.length:Int)-1))<0)) (some ((0,(0,([],()))),(false,()))) (cond (r1.2.1 != (a1.size:Int)) (some ((0,(0,([],()))),(false,()))) ((aa.f k a0 1 100000).bind fun r2=>cond (!r2.1) (some ((0,(0,([],()))),(false,()))) (fW (aU ((r1.1.length:Int)-1)) (r1.1.length:Int) (cond ((r1.1.getD (aU ((r1.1.length:Int)-1)).toNat (Ty.z cX)).2.2.1.1 != 5) (some ((0,(0,([],()))),(false,()))) (fW (aU ((r1.1.length:Int)-1)) (r1.1.length:Int) (qn (aU ((r1.1.length:Int)-1)) (r1.1.length:Int) ((eO.f k a0 (r1.1.take (aU ((r1.1.length:Int)-1)).toNat)).bind fun r3=>(gw.f k (r1.1.getD (aU ((r1.1.length:Int)-1)).toNat (Ty.z cX)).2.2.1 r3.1).bind fun r4=>cond (!r4.1) (some ((0,(0,([],()))),(false,()))) (fW (aU ((r1.1.length:Int)-1)) (r1.1.length:Int) (qn (aU ((r1.1.length:Int)-1)) (r1.1.length:Int) (L0 a0 r1.1 (r1.1.take (aU ((r1.1.length:Int)-1)).toNat) ((r1.1.take (aU ((r1.1.length:Int)-1)).toNat).length:Int) 0 [] 0 0 [] r1.2.1 (r1.1.getD (aU ((r1.1.length:Int)-1)).toNat (Ty.z cX)).2.2.1.2.1)))))))))))
def f:=t k (l0 k k)
end dq
namespace fR
abbrev Rs:Type:=Option (Bool × Unit)
abbrev T0:Type:=List (Ty.d aB)→List (Ty.d aB)→Int→Int→Rs
def b0 (k:Nat) (L0:T0):T0:=fun x0 x1 x2 x3 =>
 (cond (decide (x3<x2)) (fW x3 (x0.length:Int) (fW x3 (x1.length:Int) (cond (!((seq (x0.getD x3.toNat (Ty.z aB)).1 (x1.getD x3.toNat (Ty.z aB)).1)&&(((x0.getD x3.toNat (Ty.z aB)).2.1==(x1.getD x3.toNat (Ty.z aB)).2.1)&&(((x0.getD x3.toNat (Ty.z aB)).2.2.1==(x1.getD x3.toNat (Ty.z aB)).2.2.1)&&(((x0.getD x3.toNat (Ty.z aB)).2.2.2.1==(x1.getD x3.toNat (Ty.z aB)).2.2.2.1)&&((x0.getD x3.toNat (Ty.z aB)).2.2.2.2.1==(x1.getD x3.toNat (Ty.z aB)).2.2.2.2.1)))))) (some (false,())) (L0 x0 x1 x2 (aU (x3+1)))))) (some (true,())))
def l0:Nat→T0
 | 0=>fun _ _ _ _=>none
 | n+1=>b0 k (l0 n)
def t (k:Nat) (L0:T0) (a0:List (Ty.d aB)) (a1:List (Ty.d aB)):Rs :=
 (cond ((a0.length:Int) != (a1.length:Int)) (some (false,())) (L0 a0 a1 (a0.length:Int) 0))
def f:=t k (l0 k k)
end fR
namespace iv
abbrev Rs:Type:=Option (Bool × Unit)
def t (a0:Int) (a1:ByteArray) (a2:Ty.d ic):Rs :=
 ((dq.f k a0 a1).bind fun r1=>cond r1.2.1 (cond (r1.1.1==a2.1) (cond (r1.1.2.1==a2.2.1) ((fR.f k r1.1.2.2.1 a2.2.2.1).bind fun r2=>some r2) (some (false,()))) (some (false,()))) (some (false,())))
def f:=t k
end iv
namespace ch
abbrev Rs:Type:=Option ((Ty.d aj) × (Ty.d jY) × Bool × Unit)
def t (a0:Ty.d aj) (a1:Int):Rs :=
 ((dF.f k a1).bind fun r1=>(bh.f k a0.1 r1.1).bind fun r2=>(ay.f k r2.1).bind fun r3=>(ai.f k a1).bind fun r4=>(bh.f k a0.1 r4.1).bind fun r5=>cond (!r2.2.1) (some (a0,(([],(0,(0,()))),(false,())))) (cond (!r3.2.1) (some (a0,(([],(0,(0,()))),(false,())))) ((iv.f k a1 r5.1 r3.1).bind fun r6=>cond (!r6.1) (some (a0,(([],(0,(0,()))),(false,())))) (some (a0,((r3.1.2.2.1,(r3.1.2.1,(0,()))),(true,())))))))
def f:=t k
end ch
namespace cS
abbrev Rs:Type:=Option ((List (Ty.d aB)) × Unit)
def t (k:Nat) (a0:List (Ty.d aB)):Rs :=
 (rm (Ty.bytes aB) (a0.length) (some (a0,())))
def f:=t k
end cS
namespace dC
abbrev Rs:Type:=Option ((List (Ty.d aI)) × Unit)
abbrev T0:Type:=List (Ty.d aI)→Int→Int→Int→Int→ByteArray→ByteArray→Int→Int→List (Ty.d aI)→Rs
def b0 (k:Nat) (L0:T0):T0:=fun x0 x1 x2 x3 x4 x5 x6 x7 x8 x9 =>
 (cond (decide (x2<x1)) (fW x2 (x0.length:Int) (cond (x3==3) (cond ((x0.getD x2.toNat (Ty.z aI)).2.2.2.1.2.1 != x4) (L0 x0 x1 (aU (x2+1)) x3 x4 x5 x6 x7 x8 x9) (cond ((x0.getD x2.toNat (Ty.z aI)).2.2.2.1.1==x3) (L0 x0 x1 (aU (x2+1)) x3 x4 x5 x6 x7 x8 []) (cond (x3==3) (cond ((x0.getD x2.toNat (Ty.z aI)).2.2.2.1.1==1) (rm (Ty.bytes aI) (x9.length+1) (L0 x0 x1 (aU (x2+1)) x3 x4 x5 x6 x7 x8 (x9++[(x0.getD x2.toNat (Ty.z aI))]))) (cond ((x0.getD x2.toNat (Ty.z aI)).2.2.2.1.1==2) (cond ((x0.getD x2.toNat (Ty.z aI)).2.2.2.1.1==2) (rm (Ty.bytes aI) (x9.length+1) (L0 x0 x1 (aU (x2+1)) x3 x4 x5 x6 x7 x8 (x9++[(x0.getD x2.toNat (Ty.z aI))]))) (L0 x0 x1 (aU (x2+1)) x3 x4 x5 x6 x7 x8 x9)) (cond (x3==5) (cond ((x0.getD x2.toNat (Ty.z aI)).2.2.2.1.1==4) (rm (Ty.bytes aI) (x9.length+1) (L0 x0 x1 (aU (x2+1)) x3 x4 x5 x6 x7 x8 (x9++[(x0.getD x2.toNat (Ty.z aI))]))) (L0 x0 x1 (aU (x2+1)) x3 x4 x5 x6 x7 x8 x9)) (L0 x0 x1 (aU (x2+1)) x3 x4 x5 x6 x7 x8 x9)))) (cond (x3==5) (cond ((x0.getD x2.toNat (Ty.z aI)).2.2.2.1.1==4) (rm (Ty.bytes aI) (x9.length+1) (L0 x0 x1 (aU (x2+1)) x3 x4 x5 x6 x7 x8 (x9++[(x0.getD x2.toNat (Ty.z aI))]))) (L0 x0 x1 (aU (x2+1)) x3 x4 x5 x6 x7 x8 x9)) (L0 x0 x1 (aU (x2+1)) x3 x4 x5 x6 x7 x8 x9))))) (cond ((x0.getD x2.toNat (Ty.z aI)).2.2.2.1.1==x3) (L0 x0 x1 (aU (x2+1)) x3 x4 x5 x6 x7 x8 []) (cond (x3==3) (cond ((x0.getD x2.toNat (Ty.z aI)).2.2.2.1.1==1) (rm (Ty.bytes aI) (x9.length+1) (L0 x0 x1 (aU (x2+1)) x3 x4 x5 x6 x7 x8 (x9++[(x0.getD x2.toNat (Ty.z aI))]))) (cond ((x0.getD x2.toNat (Ty.z aI)).2.2.2.1.1==2) (cond ((x0.getD x2.toNat (Ty.z aI)).2.2.2.1.1==2) (rm (Ty.bytes aI) (x9.length+1) (L0 x0 x1 (aU (x2+1)) x3 x4 x5 x6 x7 x8 (x9++[(x0.getD x2.toNat (Ty.z aI))]))) (L0 x0 x1 (aU (x2+1)) x3 x4 x5 x6 x7 x8 x9)) (cond (x3==5) (cond ((x0.getD x2.toNat (Ty.z aI)).2.2.2.1.1==4) (rm (Ty.bytes aI) (x9.length+1) (L0 x0 x1 (aU (x2+1)) x3 x4 x5 x6 x7 x8 (x9++[(x0.getD x2.toNat (Ty.z aI))]))) (L0 x0 x1 (aU (x2+1)) x3 x4 x5 x6 x7 x8 x9)) (L0 x0 x1 (aU (x2+1)) x3 x4 x5 x6 x7 x8 x9)))) (cond (x3==5) (cond ((x0.getD x2.toNat (Ty.z aI)).2.2.2.1.1==4) (rm (Ty.bytes aI) (x9.length+1) (L0 x0 x1 (aU (x2+1)) x3 x4 x5 x6 x7 x8 (x9++[(x0.getD x2.toNat (Ty.z aI))]))) (L0 x0 x1 (aU (x2+1)) x3 x4 x5 x6 x7 x8 x9)) (L0 x0 x1 (aU (x2+1)) x3 x4 x5 x6 x7 x8 x9)))))) (some (x9,())))
def l0:Nat→T0
 | 0=>fun _ _ _ _ _ _ _ _ _ _=>none
 | n+1=>b0 k (l0 n)
def t (k:Nat) (L0:T0) (a0:List (Ty.d aI)) (a1:Ty.d bQ):Rs :=
 (L0 a0 (a0.length:Int) 0 a1.1 a1.2.1 a1.2.2.1 a1.2.2.2.1 a1.2.2.2.2.1 a1.2.2.2.2.2.1 [])
def f:=t k (l0 k k)
end dC
namespace br
abbrev Rs:Type:=Option ((List (Ty.d aB)) × Unit)
abbrev T0:Type:=ByteArray→List (Ty.d aB)→Int→Int→List (Ty.d aB)→Rs
def b0 (k:Nat) (L0:T0):T0:=fun x0 x1 x2 x3 x4 =>
 (cond (decide (x3<x2)) (fW x3 (x1.length:Int) (cond (!(seq (x1.getD x3.toNat (Ty.z aB)).1 x0)) (rm (Ty.bytes aB) (x4.length+1) (L0 x0 x1 x2 (aU (x3+1)) (x4++[(x1.getD x3.toNat (Ty.z aB))]))) (L0 x0 x1 x2 (aU (x3+1)) x4))) (some (x4,())))
def l0:Nat→T0
 | 0=>fun _ _ _ _ _=>none
 | n+1=>b0 k (l0 n)
def t (k:Nat) (L0:T0) (a0:List (Ty.d aB)) (a1:ByteArray):Rs :=
 (L0 a1 a0 (a0.length:Int) 0 [])
def f:=t k (l0 k k)
end br
namespace cr
abbrev Rs:Type:=Option ((List (Ty.d aB)) × Unit)
abbrev T0:Type:=Int→ByteArray→Int→Int→Int→Int→List (Ty.d aB)→Rs
def b0 (L0:T0):T0:=fun x0 x1 x2 x3 x4 x5 x6 =>
 (cond (decide (x0<(x6.length:Int))) (fW x0 (x6.length:Int) (cond ((nS (x6.getD x0.toNat (Ty.z aB)).1 x1)||(seq (x6.getD x0.toNat (Ty.z aB)).1 x1)) (L0 (aU (x0+1)) x1 x2 x3 x4 x5 x6) (qn x0 (x6.length:Int) ((cS.f k (x6.take x0.toNat)).bind fun r2=>rm (Ty.bytes aB) (r2.1.length+1) (qn x0 (x6.length:Int) (rm (Ty.bytes aB) (List.length (r2.1++[(x1,(x2,(x3,(x4,(x5,())))))])+List.length (x6.drop x0.toNat)) (some (((r2.1++[(x1,(x2,(x3,(x4,(x5,())))))])++(x6.drop x0.toNat)),())))))))) (qn x0 (x6.length:Int) ((cS.f k (x6.take x0.toNat)).bind fun r3=>rm (Ty.bytes aB) (r3.1.length+1) (qn x0 (x6.length:Int) (rm (Ty.bytes aB) (List.length (r3.1++[(x1,(x2,(x3,(x4,(x5,())))))])+List.length (x6.drop x0.toNat)) (some (((r3.1++[(x1,(x2,(x3,(x4,(x5,())))))])++(x6.drop x0.toNat)),())))))))
def l0:Nat→T0
 | 0=>fun _ _ _ _ _ _ _=>none
 | n+1=>b0 k (l0 n)
def t (L0:T0) (a0:List (Ty.d aB)) (a1:Ty.d aB):Rs :=
 ((br.f k a0 a1.1).bind fun r1=>L0 0 a1.1 a1.2.1 a1.2.2.1 a1.2.2.2.1 a1.2.2.2.2.1 r1.1)
def f:=t k (l0 k k)
end cr
namespace cG
abbrev Rs:Type:=Option ((Ty.d jY) × Unit)
abbrev T0:Type:=List (Ty.d aI)→Int→Int→List (Ty.d aB)→Int→Int→Rs
def b0 (L0:T0):T0:=fun x0 x1 x2 x3 x4 x5 =>
 (cond (decide (x2<x1)) (fW x2 (x0.length:Int) (cond ((x0.getD x2.toNat (Ty.z aI)).2.2.2.1.1==2) ((br.f k x3 (x0.getD x2.toNat (Ty.z aI)).2.2.2.1.2.2.1).bind fun r1=>L0 x0 x1 (aU (x2+1)) r1.1 x4 x5) ((cr.f k x3 ((x0.getD x2.toNat (Ty.z aI)).2.2.2.1.2.2.1,((x0.getD x2.toNat (Ty.z aI)).1,((x0.getD x2.toNat (Ty.z aI)).2.1,((x0.getD x2.toNat (Ty.z aI)).2.2.1,((x0.getD x2.toNat (Ty.z aI)).2.2.2.1.2.1,())))))).bind fun r2=>L0 x0 x1 (aU (x2+1)) r2.1 x4 x5))) (cond (decide ((x3.length:Int) > 20)) (some ((x3,(x4,(2,()))),())) (some ((x3,(x4,(x5,()))),()))))
def l0:Nat→T0
 | 0=>fun _ _ _ _ _ _=>none
 | n+1=>b0 k (l0 n)
def t (k:Nat) (L0:T0) (a0:Ty.d jY) (a1:List (Ty.d aI)):Rs :=
 (L0 a1 (a1.length:Int) 0 a0.1 a0.2.1 a0.2.2.1)
def f:=t k (l0 k k)
end cG
namespace dO
abbrev Rs:Type:=Option ((Ty.d jY) × Unit)
abbrev T0:Type:=List (Ty.d aI)→List (Ty.d aI)→Int→Int→List (Ty.d aB)→Int→Int→List (Ty.d aB)→Int→Int→Rs
def b0 (L0:T0):T0:=fun x0 x1 x2 x3 x4 x5 x6 x7 x8 x9 =>
 (cond (decide (x3<x2)) (fW x3 (x1.length:Int) (cond (x9 != 0) (some ((x7,(x8,(x9,()))),())) (cond ((x1.getD x3.toNat (Ty.z aI)).2.2.2.1.1 != 3) (cond ((x1.getD x3.toNat (Ty.z aI)).2.2.2.1.1 != 5) (L0 x0 x1 x2 (aU (x3+1)) x4 x5 x6 x7 (if (x1.getD x3.toNat (Ty.z aI)).2.2.2.1.2.1 > x8 then (x1.getD x3.toNat (Ty.z aI)).2.2.2.1.2.1 else x8) x9) (qn x3 (x0.length:Int) ((dC.f k (x0.take x3.toNat) (x1.getD x3.toNat (Ty.z aI)).2.2.2.1).bind fun r2=>(gw.f k (x1.getD x3.toNat (Ty.z aI)).2.2.2.1 r2.1).bind fun r3=>cond r3.1 ((cG.f k (x7,((if (x1.getD x3.toNat (Ty.z aI)).2.2.2.1.2.1 > x8 then (x1.getD x3.toNat (Ty.z aI)).2.2.2.1.2.1 else x8),(x9,()))) r2.1).bind fun r4=>L0 x0 x1 x2 (aU (x3+1)) x4 x5 x6 r4.1.1 r4.1.2.1 r4.1.2.2.1) (cond ((x1.getD x3.toNat (Ty.z aI)).2.2.2.1.1==5) (L0 x0 x1 x2 (aU (x3+1)) x4 x5 x6 x7 (if (x1.getD x3.toNat (Ty.z aI)).2.2.2.1.2.1 > x8 then (x1.getD x3.toNat (Ty.z aI)).2.2.2.1.2.1 else x8) 1) (L0 x0 x1 x2 (aU (x3+1)) x4 x5 x6 x7 (if (x1.getD x3.toNat (Ty.z aI)).2.2.2.1.2.1 > x8 then (x1.getD x3.toNat (Ty.z aI)).2.2.2.1.2.1 else x8) x9))))) (qn x3 (x0.length:Int) ((dC.f k (x0.take x3.toNat) (x1.getD x3.toNat (Ty.z aI)).2.2.2.1).bind fun r5=>(gw.f k (x1.getD x3.toNat (Ty.z aI)).2.2.2.1 r5.1).bind fun r6=>cond r6.1 ((cG.f k (x7,((if (x1.getD x3.toNat (Ty.z aI)).2.2.2.1.2.1 > x8 then (x1.getD x3.toNat (Ty.z aI)).2.2.2.1.2.1 else x8),(x9,()))) r5.1).bind fun r7=>L0 x0 x1 x2 (aU (x3+1)) x4 x5 x6 r7.1.1 r7.1.2.1 r7.1.2.2.1) (cond ((x1.getD x3.toNat (Ty.z aI)).2.2.2.1.1==5) (L0 x0 x1 x2 (aU (x3+1)) x4 x5 x6 x7 (if (x1.getD x3.toNat (Ty.z aI)).2.2.2.1.2.1 > x8 then (x1.getD x3.toNat (Ty.z aI)).2.2.2.1.2.1 else x8) 1) (L0 x0 x1 x2 (aU (x3+1)) x4 x5 x6 x7 (if (x1.getD x3.toNat (Ty.z aI)).2.2.2.1.2.1 > x8 then (x1.getD x3.toNat (Ty.z aI)).2.2.2.1.2.1 else x8) x9))))))) (cond (x9==0) ((dC.f k x0 (5,(0,(ByteArray.empty,(ByteArray.empty,(0,(0,()))))))).bind fun r8=>cond (decide ((r8.1.length:Int) > 0)) (some ((x7,(x8,(1,()))),())) (some ((x7,(x8,(x9,()))),()))) (some ((x7,(x8,(x9,()))),()))))
def l0:Nat→T0
 | 0=>fun _ _ _ _ _ _ _ _ _ _=>none
 | n+1=>b0 k (l0 n)
def t (L0:T0) (a0:Ty.d jY) (a1:List (Ty.d aI)):Rs :=
 ((cS.f k a0.1).bind fun r1=>L0 a1 a1 (a1.length:Int) 0 [] 0 0 r1.1 a0.2.1 a0.2.2.1)
def f:=t k (l0 k k)
end dO
namespace lT
abbrev Rs:Type:=Option (Int × Bool × Unit)
def t (a0:ByteArray):Rs :=
 ((iK.f k a0 (⟨#[115,101,103]⟩:ByteArray)).bind fun r1=>cond (!r1.2.1) ((iK.f k a0 (⟨#[104,105,110,116]⟩:ByteArray)).bind fun r2=>(bj.f k r2.1).bind fun r3=>cond (!r2.2.1) (some (0,(false,()))) (cond (!r3.2.1) (some (0,(false,()))) ((aa.f k r3.1 1 100000).bind fun r4=>cond (!r4.1) (some (0,(false,()))) (some (r3.1,(true,())))))) ((bj.f k r1.1).bind fun r5=>cond (!r1.2.1) (some (0,(false,()))) (cond (!r5.2.1) (some (0,(false,()))) ((aa.f k r5.1 1 100000).bind fun r6=>cond (!r6.1) (some (0,(false,()))) (some (r5.1,(true,())))))))
def f:=t k
end lT
namespace gQ
abbrev Rs:Type:=Option (Bool × Unit)
abbrev T0:Type:=Int→List Int→Int→Int→Rs
def b0 (k:Nat) (L0:T0):T0:=fun x0 x1 x2 x3 =>
 (cond (decide (x3<x2)) (fW x3 (x1.length:Int) (cond ((x1.getD x3.toNat (Ty.z (.int .i64)))==x0) (some (true,())) (L0 x0 x1 x2 (aU (x3+1))))) (some (false,())))
def l0:Nat→T0
 | 0=>fun _ _ _ _=>none
 | n+1=>b0 k (l0 n)
def t (k:Nat) (L0:T0) (a0:List Int) (a1:Int):Rs :=
 (L0 a1 a0 (a0.length:Int) 0)
def f:=t k (l0 k k)
end gQ
namespace fM
abbrev Rs:Type:=Option ((List ByteArray) × Unit)
abbrev T0:Type:=List (Ty.d aF)→Int→Int→Int→List Int→List ByteArray→Rs
def b0 (L0:T0):T0:=fun x0 x1 x2 x3 x4 x5 =>
 (cond (decide (x2<x1)) (fW x2 (x0.length:Int) ((lT.f k (x0.getD x2.toNat (Ty.z aF)).1).bind fun r2=>cond (seq (x0.getD x2.toNat (Ty.z aF)).1 (⟨#[116,101,109,112]⟩:ByteArray)) (rm (Ty.bytes .str) (x5.length+1) (L0 x0 x1 (aU (x2+1)) x3 x4 (x5++[(x0.getD x2.toNat (Ty.z aF)).1]))) (cond r2.2.1 ((gQ.f k x4 r2.1).bind fun r3=>cond (!r3.1) (rm (Ty.bytes .str) (x5.length+1) (L0 x0 x1 (aU (x2+1)) x3 x4 (x5++[(x0.getD x2.toNat (Ty.z aF)).1]))) (L0 x0 x1 (aU (x2+1)) x3 x4 x5)) (L0 x0 x1 (aU (x2+1)) x3 x4 x5)))) (some (x5,())))
def l0:Nat→T0
 | 0=>fun _ _ _ _ _ _=>none
 | n+1=>b0 k (l0 n)
def t (L0:T0) (a0:Ty.d aA) (a1:Ty.d cC):Rs :=
 ((am.f k a0).bind fun r1=>cond (!r1.1) (some ([],())) (L0 a0.1 (a0.1.length:Int) 0 a1.1 a1.2.1 []))
def f:=t k (l0 k k)
end fM
namespace e_
abbrev Rs:Type:=Option ((Ty.d aA) × Unit)
def t (a0:Ty.d aA) (a1:ByteArray):Rs :=
 ((bV.f k a0 a1).bind fun r1=>cond (decide (r1.1≥0)) (qn r1.1 (a0.1.length:Int) (rm (Ty.bytes aF) ((a0.1.take r1.1.toNat).length) (qn (aU (r1.1+1)) (a0.1.length:Int) (rm (Ty.bytes aF) ((a0.1.take r1.1.toNat).length+List.length (a0.1.drop (aU (r1.1+1)).toNat)) (some ((((a0.1.take r1.1.toNat)++(a0.1.drop (aU (r1.1+1)).toNat)),a0.2),())))))) (some (a0,())))
def f:=t k
end e_
namespace fm
abbrev Rs:Type:=Option ((Ty.d aA) × ByteArray × Int × Unit)
def t (a0:Ty.d aA) (a1:ByteArray):Rs :=
 ((bV.f k a0 a1).bind fun r1=>cond (decide (r1.1<0)) (some (a0,(a1,(3,())))) ((e_.f k a0 a1).bind fun r2=>some (r2.1,(a1,(0,())))))
def f:=t k
end fm
namespace gE
abbrev Rs:Type:=Option (ByteArray × (Ty.d aA) × Int × Unit)
def t (a0:Ty.d aA) (a1:ByteArray):Rs :=
 ((az.f k a0).bind fun r1=>(am.f k a0).bind fun r2=>cond (!r2.1) (some (a1,(r1.1,(5,())))) (cond a0.2.2.2.1 (some (a1,((r1.1.1,(r1.1.2.1,(r1.1.2.2.1,(true,())))),(1,())))) (cond (a0.2.2.1==0) (some (a1,((r1.1.1,(r1.1.2.1,(r1.1.2.2.1,(true,())))),(1,())))) (cond (decide (a0.2.2.1 > 0)) ((fm.f k (r1.1.1,(r1.1.2.1,((aU (r1.1.2.2.1-1)),r1.1.2.2.2))) a1).bind fun r3=>some (r3.2.1,(r3.1,r3.2.2))) ((fm.f k r1.1 a1).bind fun r4=>some (r4.2.1,(r4.1,r4.2.2)))))))
def f:=t k
end gE
namespace kI
abbrev Rs:Type:=Option ((Ty.d aA) × Int × Unit)
def t (a0:Ty.d aA) (a1:ByteArray):Rs :=
 ((gE.f k a0 a1).bind fun r1=>some r1.2)
def f:=t k
end kI
namespace bA
abbrev Rs:Type:=Option ((Ty.d aj) × Unit)
def t (a0:Ty.d aj) (a1:ByteArray):Rs :=
 (cond (a0.2.1==0) ((bV.f k a0.1 a1).bind fun r1=>cond (decide (r1.1≥0)) ((kI.f k a0.1 a1).bind fun r2=>(aw.f k a0 r2.1 r2.2.1).bind fun r3=>some r3) (some (a0,()))) (some (a0,())))
def f:=t k
end bA
namespace ag
abbrev Rs:Type:=Option ((Ty.d aj) × Unit)
abbrev T0:Type:=Int→Int→List (Ty.d aF)→Int→Int→Bool→Int→List ByteArray→Rs
def b0 (L0:T0):T0:=fun x0 x1 x2 x3 x4 x5 x6 x7 =>
 (cond (decide (x1<x0)) (fW x1 (x7.length:Int) ((bA.f k ((x2,(x3,(x4,(x5,())))),(x6,())) (x7.getD x1.toNat (Ty.z .str))).bind fun r2=>L0 x0 (aU (x1+1)) r2.1.1.1 r2.1.1.2.1 r2.1.1.2.2.1 r2.1.1.2.2.2.1 r2.1.2.1 x7)) (some (((x2,(x3,(x4,(x5,())))),(x6,())),())))
def l0:Nat→T0
 | 0=>fun _ _ _ _ _ _ _ _=>none
 | n+1=>b0 k (l0 n)
def t (L0:T0) (a0:Ty.d aj) (a1:Ty.d cC):Rs :=
 ((fM.f k a0.1 a1).bind fun r1=>L0 (r1.1.length:Int) 0 a0.1.1 a0.1.2.1 a0.1.2.2.1 a0.1.2.2.2.1 a0.2.1 r1.1)
def f:=t k (l0 k k)
end ag
namespace aN
abbrev Rs:Type:=Option ((Ty.d aj) × (Ty.d aC) × Unit)
abbrev T0:Type:=List (List (Ty.d aI))→Int→Int→List (Ty.d aF)→Int→Int→Bool→Int→List Int→List (Ty.d aB)→Int→Int→Int→Int→List Int→Int→List (Ty.d aB)→Int→Int→Int→Int→List (Ty.d aB)→Int→Int→List (Ty.d aI)→Rs
abbrev T1:Type:=Int→Int→List (Ty.d aF)→Int→Int→Bool→Int→List Int→List (Ty.d aB)→Int→Int→Int→Int→List Int→Int→List (Ty.d aB)→Int→Int→Int→Int→List (Ty.d aB)→Int→Int→List (Ty.d aI)→List (List (Ty.d aI))→Rs
abbrev T2:Type:=List (List (Ty.d aI))→Int→Int→List (Ty.d aF)→Int→Int→Bool→Int→List Int→List (Ty.d aB)→Int→Int→Int→Int→List Int→Int→List (Ty.d aB)→Int→Int→Int→Int→List (Ty.d aB)→Int→Int→List (Ty.d aI)→Rs
abbrev T3:Type:=Int→Int→List (Ty.d aF)→Int→Int→Bool→Int→List Int→List (Ty.d aB)→Int→Int→Int→Int→List Int→Int→List (Ty.d aB)→Int→Int→Int→Int→List (Ty.d aB)→Int→Int→List (Ty.d aI)→List (List (Ty.d aI))→Rs
def b0 (L0:T0):T0:=fun x0 x1 x2 x3 x4 x5 x6 x7 x8 x9 x10 x11 x12 x13 x14 x15 x16 x17 x18 x19 x20 x21 x22 x23 x24 =>
 (cond (decide (x2<x1)) (fW x2 (x0.length:Int) (rm (Ty.bytes aI) (x24.length+List.length (x0.getD x2.toNat (Ty.z (.slice aI)))) (L0 x0 x1 (aU (x2+1)) x3 x4 x5 x6 x7 x8 x9 x10 x11 x12 x13 x14 x15 x16 x17 x18 x19 x20 x21 x22 x23 (x24++(x0.getD x2.toNat (Ty.z (.slice aI))))))) ((dO.f k (x21,(x22,(x23,()))) x24).bind fun r9=>cond (r9.1.2.2.1 != 0) (some (((x3,(x4,(x5,(x6,())))),(3,())),(((0,([],())),([],(0,(0,(0,()))))),()))) ((ag.f k ((x3,(x4,(x5,(x6,())))),(x7,())) (x15,(x14,()))).bind fun pQ=>some (pQ.1,(((x17,(x14,())),(r9.1.1,((aU (r9.1.2.1+1)),(x19,(x20,()))))),())))))
def l0:Nat→T0
 | 0=>fun _ _ _ _ _ _ _ _ _ _ _ _ _ _ _ _ _ _ _ _ _ _ _ _ _=>none
 | n+1=>b0 k (l0 n)
def b1 (L1:T1):T1:=fun x0 x1 x2 x3 x4 x5 x6 x7 x8 x9 x10 x11 x12 x13 x14 x15 x16 x17 x18 x19 x20 x21 x22 x23 x24 =>
 (cond (decide (x1<x0)) (fW x1 (x24.length:Int) (rm (Ty.bytes aI) (x23.length+List.length (x24.getD x1.toNat (Ty.z (.slice aI)))) (L1 x0 (aU (x1+1)) x2 x3 x4 x5 x6 x7 x8 x9 x10 x11 x12 x13 x14 x15 x16 x17 x18 x19 x20 x21 x22 (x23++(x24.getD x1.toNat (Ty.z (.slice aI)))) x24))) ((dO.f k (x20,(x21,(x22,()))) x23).bind fun s7=>cond (s7.1.2.2.1 != 0) (some (((x2,(x3,(x4,(x5,())))),(3,())),(((0,([],())),([],(0,(0,(0,()))))),()))) ((ag.f k ((x2,(x3,(x4,(x5,())))),(x6,())) (x14,(x13,()))).bind fun r12=>some (r12.1,(((x16,(x13,())),(s7.1.1,((aU (s7.1.2.1+1)),(x18,(x19,()))))),())))))
def l1:Nat→T1
 | 0=>fun _ _ _ _ _ _ _ _ _ _ _ _ _ _ _ _ _ _ _ _ _ _ _ _ _=>none
 | n+1=>b1 k (l1 n)
def b2 (L2:T2):T2:=fun x0 x1 x2 x3 x4 x5 x6 x7 x8 x9 x10 x11 x12 x13 x14 x15 x16 x17 x18 x19 x20 x21 x22 x23 x24 =>
 (cond (decide (x2<x1)) (fW x2 (x0.length:Int) (rm (Ty.bytes aI) (x24.length+List.length (x0.getD x2.toNat (Ty.z (.slice aI)))) (L2 x0 x1 (aU (x2+1)) x3 x4 x5 x6 x7 x8 x9 x10 x11 x12 x13 x14 x15 x16 x17 x18 x19 x20 x21 x22 x23 (x24++(x0.getD x2.toNat (Ty.z (.slice aI))))))) ((dO.f k (x21,(x22,(x23,()))) x24).bind fun r15=>cond (r15.1.2.2.1 != 0) (some (((x3,(x4,(x5,(x6,())))),(3,())),(((0,([],())),([],(0,(0,(0,()))))),()))) ((ag.f k ((x3,(x4,(x5,(x6,())))),(x7,())) (x15,(x14,()))).bind fun r16=>some (r16.1,(((x17,(x14,())),(r15.1.1,((aU (r15.1.2.1+1)),(x19,(x20,()))))),())))))
def l2:Nat→T2
 | 0=>fun _ _ _ _ _ _ _ _ _ _ _ _ _ _ _ _ _ _ _ _ _ _ _ _ _=>none
 | n+1=>b2 k (l2 n)
def b3 (L3:T3):T3:=fun x0 x1 x2 x3 x4 x5 x6 x7 x8 x9 x10 x11 x12 x13 x14 x15 x16 x17 x18 x19 x20 x21 x22 x23 x24 =>
 (cond (decide (x1<x0)) (fW x1 (x24.length:Int) (rm (Ty.bytes aI) (x23.length+List.length (x24.getD x1.toNat (Ty.z (.slice aI)))) (L3 x0 (aU (x1+1)) x2 x3 x4 x5 x6 x7 x8 x9 x10 x11 x12 x13 x14 x15 x16 x17 x18 x19 x20 x21 x22 (x23++(x24.getD x1.toNat (Ty.z (.slice aI)))) x24))) ((dO.f k (x20,(x21,(x22,()))) x23).bind fun r17=>cond (r17.1.2.2.1 != 0) (some (((x2,(x3,(x4,(x5,())))),(3,())),(((0,([],())),([],(0,(0,(0,()))))),()))) ((ag.f k ((x2,(x3,(x4,(x5,())))),(x6,())) (x14,(x13,()))).bind fun r18=>some (r18.1,(((x16,(x13,())),(r17.1.1,((aU (r17.1.2.1+1)),(x18,(x19,()))))),())))))
def l3:Nat→T3
 | 0=>fun _ _ _ _ _ _ _ _ _ _ _ _ _ _ _ _ _ _ _ _ _ _ _ _ _=>none
 | n+1=>b3 k (l3 n)
def t (L0:T0) (L1:T1) (L2:T2) (L3:T3) (a0:Ty.d aj) (a1:ByteArray):Rs :=
 ((ax.f k a1).bind fun r1=>(bJ.f k a0 r1.1).bind fun r2=>cond (!r1.2.1) (some ((r2.1.1,(3,())),(((0,([],())),([],(0,(0,(0,()))))),()))) (cond (!r2.2.2.2.1) (some ((r2.1.1,(3,())),(((0,([],())),([],(0,(0,(0,()))))),()))) (fW (aU ((r1.1.2.1.length:Int)-1)) (r1.1.2.1.length:Int) ((ai.f k (r1.1.2.1.getD (aU ((r1.1.2.1.length:Int)-1)).toNat (Ty.z (.int .i64)))).bind fun r3=>(bh.f k r2.1.1 r3.1).bind fun r4=>cond ((r4.1.size:Int) != r2.2.2.1) ((ir.f k r2.1.1 r3.1 r2.2.2.1).bind fun r5=>(aw.f k r2.1 r5.1 r5.2.1).bind fun r6=>(bM.f k r6.1 r3.1).bind fun r7=>cond (r7.1.2.1 != 0) (some (r7.1,(((0,([],())),([],(0,(0,(0,()))))),()))) (fW 0 (r1.1.2.1.length:Int) ((ch.f k r7.1 (r1.1.2.1.getD 0 (Ty.z (.int .i64)))).bind fun r8=>cond r8.2.2.1 (fW 0 (r1.1.2.1.length:Int) (qn 1 (r2.2.1.length:Int) (L0 (r2.2.1.drop 1) ((r2.2.1.drop 1).length:Int) 0 r8.1.1.1 r8.1.1.2.1 r8.1.1.2.2.1 r8.1.1.2.2.2.1 r8.1.2.1 [] [] 0 0 0 0 r1.1.2.1 r1.1.1 [] r1.1.1 0 r2.2.2.1 (r1.1.2.1.getD 0 (Ty.z (.int .i64))) r8.2.1.1 r8.2.1.2.1 r8.2.1.2.2.1 []))) (L1 (r2.2.1.length:Int) 0 r8.1.1.1 r8.1.1.2.1 r8.1.1.2.2.1 r8.1.1.2.2.2.1 r8.1.2.1 [] [] 0 0 0 0 r1.1.2.1 r1.1.1 [] r1.1.1 0 r2.2.2.1 0 r8.2.1.1 r8.2.1.2.1 r8.2.1.2.2.1 [] r2.2.1)))) ((bM.f k r2.1 r3.1).bind fun r13=>cond (r13.1.2.1 != 0) (some (r13.1,(((0,([],())),([],(0,(0,(0,()))))),()))) (fW 0 (r1.1.2.1.length:Int) ((ch.f k r13.1 (r1.1.2.1.getD 0 (Ty.z (.int .i64)))).bind fun r14=>cond r14.2.2.1 (fW 0 (r1.1.2.1.length:Int) (qn 1 (r2.2.1.length:Int) (L2 (r2.2.1.drop 1) ((r2.2.1.drop 1).length:Int) 0 r14.1.1.1 r14.1.1.2.1 r14.1.1.2.2.1 r14.1.1.2.2.2.1 r14.1.2.1 [] [] 0 0 0 0 r1.1.2.1 r1.1.1 [] r1.1.1 0 r2.2.2.1 (r1.1.2.1.getD 0 (Ty.z (.int .i64))) r14.2.1.1 r14.2.1.2.1 r14.2.1.2.2.1 []))) (L3 (r2.2.1.length:Int) 0 r14.1.1.1 r14.1.1.2.1 r14.1.1.2.2.1 r14.1.1.2.2.2.1 r14.1.2.1 [] [] 0 0 0 0 r1.1.2.1 r1.1.1 [] r1.1.1 0 r2.2.2.1 0 r14.2.1.1 r14.2.1.2.1 r14.2.1.2.2.1 [] r2.2.1))))))))
def f:=t k (l0 k k) (l1 k k) (l2 k k) (l3 k k)
end aN
namespace d_
abbrev Rs:Type:=Option ((Ty.d aA) × Unit)
abbrev T0:Type:=Int→List (Ty.d aF)→Int→Int→Bool→ByteArray→ByteArray→Int→Rs
def b0 (k:Nat) (L0:T0):T0:=fun x0 x1 x2 x3 x4 x5 x6 x7 =>
 (cond (decide (x0<(x1.length:Int))) (fW x0 (x1.length:Int) (cond (nS (x1.getD x0.toNat (Ty.z aF)).1 x5) (L0 (aU (x0+1)) x1 x2 x3 x4 x5 x6 x7) (qn x0 (x1.length:Int) (rm (Ty.bytes aF) ((x1.take x0.toNat).length) (rm (Ty.bytes aF) ((x1.take x0.toNat).length+1) (qn x0 (x1.length:Int) (rm (Ty.bytes aF) (List.length ((x1.take x0.toNat)++[(x5,(x6,(x7,())))])+List.length (x1.drop x0.toNat)) (some (((((x1.take x0.toNat)++[(x5,(x6,(x7,())))])++(x1.drop x0.toNat)),(x2,(x3,(x4,())))),()))))))))) (qn x0 (x1.length:Int) (rm (Ty.bytes aF) ((x1.take x0.toNat).length) (rm (Ty.bytes aF) ((x1.take x0.toNat).length+1) (qn x0 (x1.length:Int) (rm (Ty.bytes aF) (List.length ((x1.take x0.toNat)++[(x5,(x6,(x7,())))])+List.length (x1.drop x0.toNat)) (some (((((x1.take x0.toNat)++[(x5,(x6,(x7,())))])++(x1.drop x0.toNat)),(x2,(x3,(x4,())))),()))))))))
def l0:Nat→T0
 | 0=>fun _ _ _ _ _ _ _ _=>none
 | n+1=>b0 k (l0 n)
def t (k:Nat) (L0:T0) (a0:Ty.d aA) (a1:Ty.d aF):Rs :=
 (L0 0 a0.1 a0.2.1 a0.2.2.1 a0.2.2.2.1 a1.1 a1.2.1 a1.2.2.1)
def f:=t k (l0 k k)
end d_
namespace fp
abbrev Rs:Type:=Option ((Ty.d aA) × ByteArray × Int × Unit)
def t (a0:Ty.d aA) (a1:ByteArray):Rs :=
 ((dr.f k a1).bind fun r1=>cond (!r1.1) (some (a0,(a1,(5,())))) ((bV.f k a0 a1).bind fun r2=>cond (decide (r2.1≥0)) (some (a0,(a1,(4,())))) (cond (decide ((a0.1.length:Int)≥130)) (some (a0,(a1,(2,())))) ((d_.f k a0 (a1,(ByteArray.empty,(0,())))).bind fun r3=>some (r3.1,(a1,(0,())))))))
def f:=t k
end fp
namespace gH
abbrev Rs:Type:=Option (ByteArray × (Ty.d aA) × Int × Unit)
def t (a0:Ty.d aA) (a1:ByteArray):Rs :=
 ((az.f k a0).bind fun r1=>(am.f k a0).bind fun r2=>cond (!r2.1) (some (a1,(r1.1,(5,())))) (cond a0.2.2.2.1 (some (a1,((r1.1.1,(r1.1.2.1,(r1.1.2.2.1,(true,())))),(1,())))) (cond (a0.2.2.1==0) (some (a1,((r1.1.1,(r1.1.2.1,(r1.1.2.2.1,(true,())))),(1,())))) (cond (decide (a0.2.2.1 > 0)) ((fp.f k (r1.1.1,(r1.1.2.1,((aU (r1.1.2.2.1-1)),r1.1.2.2.2))) a1).bind fun r3=>some (r3.2.1,(r3.1,r3.2.2))) ((fp.f k r1.1 a1).bind fun r4=>some (r4.2.1,(r4.1,r4.2.2)))))))
def f:=t k
end gH
namespace kH
abbrev Rs:Type:=Option ((Ty.d aA) × Int × Unit)
def t (a0:Ty.d aA) (a1:ByteArray):Rs :=
 ((gH.f k a0 a1).bind fun r1=>some r1.2)
def f:=t k
end kH
namespace dG
abbrev Rs:Type:=Option ((Ty.d aj) × Unit)
def t (a0:Ty.d aj) (a1:ByteArray):Rs :=
 (cond (a0.2.1==0) ((kH.f k a0.1 a1).bind fun r1=>(aw.f k a0 r1.1 r1.2.1).bind fun r2=>some r2) (some (a0,())))
def f:=t k
end dG
namespace ip
abbrev Rs:Type:=Option (ByteArray × Unit)
def t (a0:Ty.d cC):Rs :=
 ((cw.f k a0).bind fun r1=>cond (!r1.1) (some ((⟨#[]⟩:ByteArray),())) ((dM.f k [a0.1,(a0.2.1.length:Int)]).bind fun r2=>(dM.f k a0.2.1).bind fun r3=>jm r2.1 r3.1 ((gf.f k (r2.1++r3.1)).bind fun r4=>some r4)))
def f:=t k
end ip
namespace cV
abbrev Rs:Type:=Option ((Ty.d aj) × Unit)
def t (a0:Ty.d aj) (a1:ByteArray):Rs :=
 ((bA.f k a0 a1).bind fun r1=>(dG.f k r1.1 a1).bind fun r2=>some r2)
def f:=t k
end cV
namespace fe
abbrev Rs:Type:=Option (Int × Unit)
abbrev T0:Type:=Int→List (Ty.d aF)→Int→Int→Rs
def b0 (k:Nat) (L0:T0):T0:=fun x0 x1 x2 x3 =>
 (cond (decide (x3<x2)) (fW x3 (x1.length:Int) (L0 (aU (x0+(ByteArray.size (x1.getD x3.toNat (Ty.z aF)).2.1:Int))) x1 x2 (aU (x3+1)))) (some (x0,())))
def l0:Nat→T0
 | 0=>fun _ _ _ _=>none
 | n+1=>b0 k (l0 n)
def t (k:Nat) (L0:T0) (a0:Ty.d aA):Rs :=
 (L0 0 a0.1 (a0.1.length:Int) 0)
def f:=t k (l0 k k)
end fe
namespace fo
abbrev Rs:Type:=Option ((Ty.d aA) × ByteArray × ByteArray × Int × Unit)
def t (a0:Ty.d aA) (a1:ByteArray) (a2:ByteArray):Rs :=
 ((bV.f k a0 a1).bind fun r1=>cond (decide (r1.1<0)) (some (a0,(a1,(a2,(3,()))))) ((fe.f k a0).bind fun r2=>cond (decide ((a2.size:Int) > (aU (a0.2.1-r2.1)))) (some (a0,(a1,(a2,(2,()))))) (fW r1.1 (a0.1.length:Int) (jm (a0.1.getD r1.1.toNat (Ty.z aF)).2.1 a2 (fW r1.1 (a0.1.length:Int) (let l3:=(a0.1.set r1.1.toNat ((a0.1.getD r1.1.toNat (Ty.z aF)).1,(((a0.1.getD r1.1.toNat (Ty.z aF)).2.1++a2),(a0.1.getD r1.1.toNat (Ty.z aF)).2.2)));(some ((l3,a0.2),(a1,(a2,(0,())))))))))))
def f:=t k
end fo
namespace gK
abbrev Rs:Type:=Option (ByteArray × ByteArray × (Ty.d aA) × Int × Unit)
def t (a0:Ty.d aA) (a1:ByteArray) (a2:ByteArray):Rs :=
 ((az.f k a0).bind fun r1=>(am.f k a0).bind fun r2=>cond (!r2.1) (some (a1,(a2,(r1.1,(5,()))))) (cond a0.2.2.2.1 (some (a1,(a2,((r1.1.1,(r1.1.2.1,(r1.1.2.2.1,(true,())))),(1,()))))) (cond (a0.2.2.1==0) (some (a1,(a2,((r1.1.1,(r1.1.2.1,(r1.1.2.2.1,(true,())))),(1,()))))) (cond (decide (a0.2.2.1 > 0)) ((fo.f k (r1.1.1,(r1.1.2.1,((aU (r1.1.2.2.1-1)),r1.1.2.2.2))) a1 a2).bind fun r3=>some (r3.2.1,(r3.2.2.1,(r3.1,r3.2.2.2)))) ((fo.f k r1.1 a1 a2).bind fun r4=>some (r4.2.1,(r4.2.2.1,(r4.1,r4.2.2.2))))))))
def f:=t k
end gK
namespace kE
abbrev Rs:Type:=Option ((Ty.d aA) × Int × Unit)
def t (a0:Ty.d aA) (a1:ByteArray) (a2:ByteArray):Rs :=
 ((gK.f k a0 a1 a2).bind fun r1=>some r1.2.2)
def f:=t k
end kE
namespace cJ
abbrev Rs:Type:=Option ((Ty.d aj) × Unit)
def t (a0:Ty.d aj) (a1:ByteArray) (a2:ByteArray):Rs :=
 (cond (a0.2.1==0) ((kE.f k a0.1 a1 a2).bind fun r1=>(aw.f k a0 r1.1 r1.2.1).bind fun r2=>some r2) (some (a0,())))
def f:=t k
end cJ
namespace dE
abbrev Rs:Type:=Option ((Ty.d aj) × Unit)
def t (a0:Ty.d aj) (a1:ByteArray) (a2:ByteArray):Rs :=
 ((cV.f k a0 a1).bind fun r1=>(cJ.f k r1.1 a1 a2).bind fun r2=>(bM.f k r2.1 a1).bind fun r3=>some r3)
def f:=t k
end dE
namespace ff
abbrev Rs:Type:=Option ((Ty.d aA) × ByteArray × ByteArray × Int × Unit)
def t (a0:Ty.d aA) (a1:ByteArray) (a2:ByteArray):Rs :=
 ((bV.f k a0 a1).bind fun r1=>(dr.f k a2).bind fun r2=>cond (!r2.1) (some (a0,(a1,(a2,(5,()))))) (cond (decide (r1.1<0)) (some (a0,(a1,(a2,(3,()))))) (fW r1.1 (a0.1.length:Int) ((e_.f k a0 a1).bind fun r3=>(e_.f k r3.1 a2).bind fun r4=>(d_.f k r4.1 (a2,(a0.1.getD r1.1.toNat (Ty.z aF)).2)).bind fun r5=>some (r5.1,(a1,(a2,(0,()))))))))
def f:=t k
end ff
namespace gI
abbrev Rs:Type:=Option (ByteArray × ByteArray × (Ty.d aA) × Int × Unit)
def t (a0:Ty.d aA) (a1:ByteArray) (a2:ByteArray):Rs :=
 ((az.f k a0).bind fun r1=>(am.f k a0).bind fun r2=>cond (!r2.1) (some (a1,(a2,(r1.1,(5,()))))) (cond a0.2.2.2.1 (some (a1,(a2,((r1.1.1,(r1.1.2.1,(r1.1.2.2.1,(true,())))),(1,()))))) (cond (a0.2.2.1==0) (some (a1,(a2,((r1.1.1,(r1.1.2.1,(r1.1.2.2.1,(true,())))),(1,()))))) (cond (decide (a0.2.2.1 > 0)) ((ff.f k (r1.1.1,(r1.1.2.1,((aU (r1.1.2.2.1-1)),r1.1.2.2.2))) a1 a2).bind fun r3=>some (r3.2.1,(r3.2.2.1,(r3.1,r3.2.2.2)))) ((ff.f k r1.1 a1 a2).bind fun r4=>some (r4.2.1,(r4.2.2.1,(r4.1,r4.2.2.2))))))))
def f:=t k
end gI
namespace kK
abbrev Rs:Type:=Option ((Ty.d aA) × Int × Unit)
def t (a0:Ty.d aA) (a1:ByteArray) (a2:ByteArray):Rs :=
 ((gI.f k a0 a1 a2).bind fun r1=>some r1.2.2)
def f:=t k
end kK
namespace eQ
abbrev Rs:Type:=Option ((Ty.d aj) × Unit)
def t (a0:Ty.d aj) (a1:ByteArray) (a2:ByteArray):Rs :=
 (cond (a0.2.1==0) ((kK.f k a0.1 a1 a2).bind fun r1=>(aw.f k a0 r1.1 r1.2.1).bind fun r2=>some r2) (some (a0,())))
def f:=t k
end eQ
namespace bx
abbrev Rs:Type:=Option ((Ty.d aj) × Unit)
def t (a0:Ty.d aj) (a1:Ty.d cC):Rs :=
 ((ip.f k a1).bind fun r1=>(dE.f k a0 (⟨#[116,101,109,112]⟩:ByteArray) r1.1).bind fun r2=>(eQ.f k r2.1 (⟨#[116,101,109,112]⟩:ByteArray) (⟨#[108,105,118,101]⟩:ByteArray)).bind fun r3=>some r3)
def f:=t k
end bx
namespace fC
abbrev Rs:Type:=Option ((Ty.d aj) × (Ty.d aC) × Unit)
def t (a0:Ty.d aj):Rs :=
 ((ag.f k a0 (0,([],()))).bind fun r1=>(ai.f k 1).bind fun r2=>(dG.f k r1.1 r2.1).bind fun r3=>(bx.f k r3.1 (2,([1],()))).bind fun r4=>some (r4.1,(((2,([1],())),([],(1,(0,(0,()))))),())))
def f:=t k
end fC
namespace mF
abbrev Rs:Type:=Option ((Ty.d aC) × (Ty.d aA) × Int × Unit)
def t (a0:Ty.d aA):Rs :=
 ((az.f k a0).bind fun r1=>(am.f k a0).bind fun r2=>cond (!r2.1) (some (((0,([],())),([],(0,(0,(0,()))))),(r1.1,(4,())))) (cond a0.2.2.2.1 (some (((0,([],())),([],(0,(0,(0,()))))),(r1.1,(1,())))) ((bh.f k a0 (⟨#[108,105,118,101]⟩:ByteArray)).bind fun r3=>cond r3.2.1 ((aN.f k (r1.1,(0,())) r3.1).bind fun r4=>cond (r4.1.2.1 != 0) (some (((0,([],())),([],(0,(0,(0,()))))),r4.1)) (some (r4.2.1,(r4.1.1,(0,()))))) ((fC.f k (r1.1,(0,()))).bind fun r5=>cond (r5.1.2.1 != 0) (some (((0,([],())),([],(0,(0,(0,()))))),r5.1)) (some (r5.2.1,(r5.1.1,(0,()))))))))
def f:=t k
end mF
namespace dh
abbrev Rs:Type:=Option ((Ty.d aP) × Int × Unit)
def t (a0:Ty.d aA):Rs :=
 ((mF.f k a0).bind fun r1=>Qs (Ty.bytes bO) 3 (some (((r1.2.2.1==0),(r1.1,(r1.2.1,((List.replicate (Int.toNat 3) (Ty.z bO)),())))),r1.2.2)))
def f:=t k
end dh
namespace j4
abbrev Rs:Type:=Option (Int × Unit)
def t (k:Nat) (a0:ByteArray):Rs :=
 (cond (seq a0 (⟨#[109,101,114,103,101]⟩:ByteArray)) (some (7,())) (cond (seq a0 (⟨#[108,105,115,116]⟩:ByteArray)) (some (8,())) (cond (seq a0 (⟨#[99,108,111,115,101]⟩:ByteArray)) (some (9,())) (cond (seq a0 (⟨#[111,112,101,110]⟩:ByteArray)) (some (10,())) (some (0,()))))))
def f:=t k
end j4
namespace kF
abbrev Rs:Type:=Option ((Ty.d d5) × Bool × Unit)
def t (a0:List ByteArray):Rs :=
 (cond ((a0.length:Int)==1) (fW 0 (a0.length:Int) ((j4.f k (a0.getD 0 (Ty.z .str))).bind fun r1=>some ((r1.1,(0,(ByteArray.empty,(ByteArray.empty,(0,()))))),((decide (r1.1 > 0)),())))) (fW 1 (a0.length:Int) ((bj.f k (a0.getD 1 (Ty.z .str))).bind fun r2=>fW 0 (a0.length:Int) (cond (seq (a0.getD 0 (Ty.z .str)) (⟨#[98,101,103,105,110]⟩:ByteArray)) (cond (!r2.2.1) (some ((0,(0,(ByteArray.empty,(ByteArray.empty,(0,()))))),(false,()))) (cond ((a0.length:Int) != 2) (some ((0,(0,(ByteArray.empty,(ByteArray.empty,(0,()))))),(false,()))) (some ((1,(r2.1,(ByteArray.empty,(ByteArray.empty,(0,()))))),(true,()))))) (cond (seq (a0.getD 0 (Ty.z .str)) (⟨#[99,111,109,109,105,116]⟩:ByteArray)) (cond (!r2.2.1) (some ((0,(0,(ByteArray.empty,(ByteArray.empty,(0,()))))),(false,()))) (cond ((a0.length:Int) != 2) (some ((0,(0,(ByteArray.empty,(ByteArray.empty,(0,()))))),(false,()))) (some ((5,(r2.1,(ByteArray.empty,(ByteArray.empty,(0,()))))),(true,()))))) (cond (seq (a0.getD 0 (Ty.z .str)) (⟨#[97,98,111,114,116]⟩:ByteArray)) (cond (!r2.2.1) (some ((0,(0,(ByteArray.empty,(ByteArray.empty,(0,()))))),(false,()))) (cond ((a0.length:Int) != 2) (some ((0,(0,(ByteArray.empty,(ByteArray.empty,(0,()))))),(false,()))) (some ((6,(r2.1,(ByteArray.empty,(ByteArray.empty,(0,()))))),(true,()))))) (cond (seq (a0.getD 0 (Ty.z .str)) (⟨#[114,111,111,109]⟩:ByteArray)) (cond (!r2.2.1) (some ((0,(0,(ByteArray.empty,(ByteArray.empty,(0,()))))),(false,()))) (cond ((a0.length:Int) != 2) (some ((0,(0,(ByteArray.empty,(ByteArray.empty,(0,()))))),(false,()))) (some ((11,(0,(ByteArray.empty,(ByteArray.empty,(r2.1,()))))),(true,()))))) (cond (seq (a0.getD 0 (Ty.z .str)) (⟨#[103,101,116]⟩:ByteArray)) (cond (!r2.2.1) (some ((0,(0,(ByteArray.empty,(ByteArray.empty,(0,()))))),(false,()))) (cond ((a0.length:Int) != 3) (some ((0,(0,(ByteArray.empty,(ByteArray.empty,(0,()))))),(false,()))) (fW 2 (a0.length:Int) (some ((2,(r2.1,((a0.getD 2 (Ty.z .str)),(ByteArray.empty,(0,()))))),(true,())))))) (cond (seq (a0.getD 0 (Ty.z .str)) (⟨#[100,101,108]⟩:ByteArray)) (cond (!r2.2.1) (some ((0,(0,(ByteArray.empty,(ByteArray.empty,(0,()))))),(false,()))) (cond ((a0.length:Int) != 3) (some ((0,(0,(ByteArray.empty,(ByteArray.empty,(0,()))))),(false,()))) (fW 2 (a0.length:Int) (some ((4,(r2.1,((a0.getD 2 (Ty.z .str)),(ByteArray.empty,(0,()))))),(true,())))))) (cond (seq (a0.getD 0 (Ty.z .str)) (⟨#[112,117,116]⟩:ByteArray)) (cond (!r2.2.1) (some ((0,(0,(ByteArray.empty,(ByteArray.empty,(0,()))))),(false,()))) (cond ((a0.length:Int) != 4) (some ((0,(0,(ByteArray.empty,(ByteArray.empty,(0,()))))),(false,()))) (fW 2 (a0.length:Int) (fW 3 (a0.length:Int) (some ((3,(r2.1,((a0.getD 2 (Ty.z .str)),((a0.getD 3 (Ty.z .str)),(0,()))))),(true,()))))))) (some ((0,(0,(ByteArray.empty,(ByteArray.empty,(0,()))))),(false,())))))))))))))
def f:=t k
end kF
namespace dm
abbrev Rs:Type:=Option ((Ty.d cC) × Unit)
def t (k:Nat) (a0:Ty.d cC):Rs :=
 (rm (Ty.bytes (.int .i64)) (a0.2.1.length) (some (a0,())))
def f:=t k
end dm
namespace df
abbrev Rs:Type:=Option ((Ty.d aC) × Unit)
def t (a0:Ty.d aC):Rs :=
 ((dm.f k a0.1).bind fun r1=>(cS.f k a0.2.1).bind fun r2=>some ((r1.1,(r2.1,a0.2.2)),()))
def f:=t k
end df
namespace dc
abbrev Rs:Type:=Option ((List ByteArray) × Unit)
abbrev T0:Type:=List (Ty.d aB)→Int→Int→List ByteArray→Rs
def b0 (k:Nat) (L0:T0):T0:=fun x0 x1 x2 x3 =>
 (cond (decide (x2<x1)) (fW x2 (x0.length:Int) (rm (Ty.bytes .str) (x3.length+1) (L0 x0 x1 (aU (x2+1)) (x3++[(x0.getD x2.toNat (Ty.z aB)).1])))) (some (x3,())))
def l0:Nat→T0
 | 0=>fun _ _ _ _=>none
 | n+1=>b0 k (l0 n)
def t (k:Nat) (L0:T0) (a0:List (Ty.d aB)):Rs :=
 (L0 a0 (a0.length:Int) 0 [])
def f:=t k (l0 k k)
end dc
namespace fH
abbrev Rs:Type:=Option ((Ty.d aB) × Bool × Unit)
abbrev T0:Type:=ByteArray→List (Ty.d aB)→Int→Int→ByteArray→Int→Int→Int→Int→Rs
def b0 (k:Nat) (L0:T0):T0:=fun x0 x1 x2 x3 x4 x5 x6 x7 x8 =>
 (cond (decide (x3<x2)) (fW x3 (x1.length:Int) (cond (seq (x1.getD x3.toNat (Ty.z aB)).1 x0) (some ((x1.getD x3.toNat (Ty.z aB)),(true,()))) (L0 x0 x1 x2 (aU (x3+1)) x4 x5 x6 x7 x8))) (some ((ByteArray.empty,(0,(0,(0,(0,()))))),(false,()))))
def l0:Nat→T0
 | 0=>fun _ _ _ _ _ _ _ _ _=>none
 | n+1=>b0 k (l0 n)
def t (k:Nat) (L0:T0) (a0:List (Ty.d aB)) (a1:ByteArray):Rs :=
 (L0 a1 a0 (a0.length:Int) 0 ByteArray.empty 0 0 0 0)
def f:=t k (l0 k k)
end fH
namespace jX
abbrev Rs:Type:=Option ((Ty.d bQ) × Bool × Unit)
def t (a0:ByteArray) (a1:Int) (a2:Int):Rs :=
 ((aa.f k a1 0 (a0.size:Int)).bind fun r1=>cond (!r1.1) (some ((0,(0,(ByteArray.empty,(ByteArray.empty,(0,(0,())))))),(false,()))) ((aa.f k a2 0 (aU ((a0.size:Int)-a1))).bind fun r2=>cond (!r2.1) (some ((0,(0,(ByteArray.empty,(ByteArray.empty,(0,(0,())))))),(false,()))) (M0 a1 (aU (a1+a2)) (a0.size:Int) ((dZ.f k (a0.extract a1.toNat (aU (a1+a2)).toNat)).bind fun r3=>cond (r3.2.1==0) (some ((0,(0,(ByteArray.empty,(ByteArray.empty,(0,(0,())))))),(false,()))) (cond (r3.2.1 != a2) (some ((0,(0,(ByteArray.empty,(ByteArray.empty,(0,(0,())))))),(false,()))) ((cm.f k r3.1).bind fun r4=>some r4))))))
def f:=t k
end jX
namespace lg
abbrev Rs:Type:=Option ((Ty.d aF) × Int × Unit)
def t (a0:Ty.d aC) (a1:Ty.d aA) (a2:ByteArray):Rs :=
 ((fH.f k a0.2.1 a2).bind fun r1=>cond (!r1.2.1) (some ((ByteArray.empty,(ByteArray.empty,(0,()))),(8,()))) ((ai.f k r1.1.2.1).bind fun r2=>(bh.f k a1 r2.1).bind fun r3=>(jX.f k r3.1 r1.1.2.2.1 r1.1.2.2.2.1).bind fun r4=>cond (!r4.2.1) (some ((ByteArray.empty,(ByteArray.empty,(0,()))),(3,()))) (cond (r4.1.1 != 1) (cond (r4.1.1 != 4) (some ((ByteArray.empty,(ByteArray.empty,(0,()))),(3,()))) (cond (!(seq r4.1.2.2.1 a2)) (some ((ByteArray.empty,(ByteArray.empty,(0,()))),(3,()))) (some ((r4.1.2.2.1,(r4.1.2.2.2.1,(r4.1.2.1,()))),(0,()))))) (cond (!(seq r4.1.2.2.1 a2)) (some ((ByteArray.empty,(ByteArray.empty,(0,()))),(3,()))) (some ((r4.1.2.2.1,(r4.1.2.2.2.1,(r4.1.2.1,()))),(0,())))))))
def f:=t k
end lg
namespace iy
abbrev Rs:Type:=Option ((List (Ty.d aF)) × Int × Unit)
abbrev T0:Type:=Int→Int→Int→List Int→List (Ty.d aB)→Int→Int→Int→List (Ty.d aF)→Int→Int→Bool→List (Ty.d aF)→List ByteArray→Rs
def b0 (L0:T0):T0:=fun x0 x1 x2 x3 x4 x5 x6 x7 x8 x9 x10 x11 x12 x13 =>
 (cond (decide (x1<x0)) (fW x1 (x13.length:Int) ((lg.f k ((x2,(x3,())),(x4,(x5,(x6,(x7,()))))) (x8,(x9,(x10,(x11,())))) (x13.getD x1.toNat (Ty.z .str))).bind fun r2=>cond (r2.2.1 != 0) (some ([],r2.2)) (rm (Ty.bytes aF) (x12.length+1) (L0 x0 (aU (x1+1)) x2 x3 x4 x5 x6 x7 x8 x9 x10 x11 (x12++[r2.1]) x13)))) (some (x12,(0,()))))
def l0:Nat→T0
 | 0=>fun _ _ _ _ _ _ _ _ _ _ _ _ _ _=>none
 | n+1=>b0 k (l0 n)
def t (L0:T0) (a0:Ty.d aC) (a1:Ty.d aA):Rs :=
 ((dc.f k a0.2.1).bind fun r1=>L0 (r1.1.length:Int) 0 a0.1.1 a0.1.2.1 a0.2.1 a0.2.2.1 a0.2.2.2.1 a0.2.2.2.2.1 a1.1 a1.2.1 a1.2.2.1 a1.2.2.2.1 [] r1.1)
def f:=t k (l0 k k)
end iy
namespace cN
abbrev Rs:Type:=Option (Bool × Unit)
abbrev T1:Type:=List (Ty.d aB)→Int→Int→Int→List Int→List (Ty.d aB)→Int→Int→Int→List (Ty.d aF)→Int→Int→Bool→Rs
abbrev T0:Type:=List Int→Int→Int→Int→List Int→List (Ty.d aB)→Int→Int→Int→List (Ty.d aF)→Int→Int→Bool→Rs
def b1 (L1:T1):T1:=fun x0 x1 x2 x3 x4 x5 x6 x7 x8 x9 x10 x11 x12 =>
 (cond (decide (x2<x1)) (fW x2 (x0.length:Int) ((ai.f k (x0.getD x2.toNat (Ty.z aB)).2.1).bind fun r8=>(bh.f k (x9,(x10,(x11,(x12,())))) r8.1).bind fun r9=>(jX.f k r9.1 (x0.getD x2.toNat (Ty.z aB)).2.2.1 (x0.getD x2.toNat (Ty.z aB)).2.2.2.1).bind fun pQ=>cond (!pQ.2.1) (some (false,())) (cond (pQ.1.1 != 1) (cond (pQ.1.1 != 4) (some (false,())) (cond (!(seq pQ.1.2.2.1 (x0.getD x2.toNat (Ty.z aB)).1)) (some (false,())) (cond (pQ.1.2.1 != (x0.getD x2.toNat (Ty.z aB)).2.2.2.2.1) (some (false,())) (cond (decide ((x0.getD x2.toNat (Ty.z aB)).2.2.2.2.1≥x6)) (some (false,())) (L1 x0 x1 (aU (x2+1)) x3 x4 x5 x6 x7 x8 x9 x10 x11 x12))))) (cond (!(seq pQ.1.2.2.1 (x0.getD x2.toNat (Ty.z aB)).1)) (some (false,())) (cond (pQ.1.2.1 != (x0.getD x2.toNat (Ty.z aB)).2.2.2.2.1) (some (false,())) (cond (decide ((x0.getD x2.toNat (Ty.z aB)).2.2.2.2.1≥x6)) (some (false,())) (L1 x0 x1 (aU (x2+1)) x3 x4 x5 x6 x7 x8 x9 x10 x11 x12))))))) (some (true,())))
def l1:Nat→T1
 | 0=>fun _ _ _ _ _ _ _ _ _ _ _ _ _=>none
 | n+1=>b1 k (l1 n)
def b0 (L1:T1) (L0:T0):T0:=fun x0 x1 x2 x3 x4 x5 x6 x7 x8 x9 x10 x11 x12 =>
 (cond (decide (x2<x1)) (fW x2 (x0.length:Int) ((ai.f k (x0.getD x2.toNat (Ty.z (.int .i64)))).bind fun r5=>(bh.f k (x9,(x10,(x11,(x12,())))) r5.1).bind fun r6=>(cu.f k r6.1).bind fun r7=>cond (!r6.2.1) (some (false,())) (cond (r7.2.1 != (r6.1.size:Int)) (some (false,())) (cond (x2==(aU ((x4.length:Int)-1))) (cond (x7 != r7.2.1) (some (false,())) (L0 x0 x1 (aU (x2+1)) x3 x4 x5 x6 x7 x8 x9 x10 x11 x12)) (L0 x0 x1 (aU (x2+1)) x3 x4 x5 x6 x7 x8 x9 x10 x11 x12))))) (L1 x5 (x5.length:Int) 0 x3 x4 x5 x6 x7 x8 x9 x10 x11 x12))
def l0:Nat→T0
 | 0=>fun _ _ _ _ _ _ _ _ _ _ _ _ _=>none
 | n+1=>b0 k (l1 k k) (l0 n)
def t (L0:T0) (a0:Ty.d aC) (a1:Ty.d aA):Rs :=
 ((am.f k a1).bind fun r1=>cond (!r1.1) (some (false,())) ((cw.f k a0.1).bind fun r2=>cond (!r2.1) (some (false,())) ((dy.f k a0.2.1).bind fun r3=>cond (!r3.1) (some (false,())) ((aa.f k a0.2.2.1 1 1000001).bind fun r4=>cond (!r4.1) (some (false,())) (L0 a0.1.2.1 (a0.1.2.1.length:Int) 0 a0.1.1 a0.1.2.1 a0.2.1 a0.2.2.1 a0.2.2.2.1 a0.2.2.2.2.1 a1.1 a1.2.1 a1.2.2.1 a1.2.2.2.1)))))
def f:=t k (l0 k k)
end cN
namespace iB
abbrev Rs:Type:=Option ((List (Ty.d bQ)) × Unit)
abbrev T0:Type:=List (Ty.d aF)→Int→List (Ty.d aF)→Int→Int→List (Ty.d bQ)→Rs
def b0 (L0:T0):T0:=fun x0 x1 x2 x3 x4 x5 =>
 (cond (decide (x4<x3)) (fW x4 (x2.length:Int) (rm (Ty.bytes bQ) (x5.length+1) (L0 x0 x1 x2 x3 (aU (x4+1)) (x5++[(4,((x2.getD x4.toNat (Ty.z aF)).2.2.1,((x2.getD x4.toNat (Ty.z aF)).1,((x2.getD x4.toNat (Ty.z aF)).2.1,(0,(0,()))))))])))) ((gC.f k x5).bind fun r1=>rm (Ty.bytes bQ) (x5.length+1) (some ((x5++[(5,(x1,(ByteArray.empty,(ByteArray.empty,((x0.length:Int),r1)))))]),()))))
def l0:Nat→T0
 | 0=>fun _ _ _ _ _ _=>none
 | n+1=>b0 k (l0 n)
def t (k:Nat) (L0:T0) (a0:List (Ty.d aF)) (a1:Int):Rs :=
 (L0 a0 a1 a0 (a0.length:Int) 0 [])
def f:=t k (l0 k k)
end iB
namespace b7
abbrev Rs:Type:=Option ((Ty.d aj) × (List (Ty.d aB)) × Unit)
abbrev T0:Type:=Int→Int→List (Ty.d bQ)→Int→Int→List (Ty.d aF)→Int→Int→Bool→Int→List (Ty.d aB)→Rs
def b0 (L0:T0):T0:=fun x0 x1 x2 x3 x4 x5 x6 x7 x8 x9 x10 =>
 (cond (decide (x4<x3)) (fW x4 (x2.length:Int) ((g6.f k (x2.getD x4.toNat (Ty.z bQ))).bind fun r3=>(gf.f k r3.1).bind fun r4=>(ai.f k x0).bind fun r5=>(cJ.f k ((x5,(x6,(x7,(x8,())))),(x9,())) r5.1 r4.1).bind fun r6=>cond ((x2.getD x4.toNat (Ty.z bQ)).1==4) (rm (Ty.bytes aB) (x10.length+1) (L0 x0 (aU (x1+(r4.1.size:Int))) x2 x3 (aU (x4+1)) r6.1.1.1 r6.1.1.2.1 r6.1.1.2.2.1 r6.1.1.2.2.2.1 r6.1.2.1 (x10++[((x2.getD x4.toNat (Ty.z bQ)).2.2.1,(x0,(x1,((r4.1.size:Int),((x2.getD x4.toNat (Ty.z bQ)).2.1,())))))]))) (L0 x0 (aU (x1+(r4.1.size:Int))) x2 x3 (aU (x4+1)) r6.1.1.1 r6.1.1.2.1 r6.1.1.2.2.1 r6.1.1.2.2.2.1 r6.1.2.1 x10))) ((ai.f k x0).bind fun r7=>(bM.f k ((x5,(x6,(x7,(x8,())))),(x9,())) r7.1).bind fun r8=>(ai.f k (aU (x0+1))).bind fun r9=>(cV.f k r8.1 r9.1).bind fun pQ=>some (pQ.1,(x10,()))))
def l0:Nat→T0
 | 0=>fun _ _ _ _ _ _ _ _ _ _ _=>none
 | n+1=>b0 k (l0 n)
def t (L0:T0) (a0:Ty.d aj) (a1:Int) (a2:List (Ty.d bQ)):Rs :=
 ((ai.f k a1).bind fun r1=>(cV.f k a0 r1.1).bind fun r2=>L0 a1 0 a2 (a2.length:Int) 0 r2.1.1.1 r2.1.1.2.1 r2.1.1.2.2.1 r2.1.1.2.2.2.1 r2.1.2.1 [])
def f:=t k (l0 k k)
end b7
namespace dQ
abbrev Rs:Type:=Option ((Ty.d aj) × Unit)
def t (a0:Ty.d aj) (a1:Int):Rs :=
 (cond (a0.2.1 != 0) (some (a0,())) ((ai.f k a1).bind fun r1=>(bh.f k a0.1 r1.1).bind fun r2=>(dq.f k a1 r2.1).bind fun r3=>(dF.f k a1).bind fun r4=>(cv.f k r3.1).bind fun r5=>(dE.f k a0 r4.1 r5.1).bind fun r6=>cond (r6.1.2.1==2) ((dF.f k a1).bind fun r7=>(bA.f k (r6.1.1,(0,())) r7.1).bind fun r8=>some r8) (some r6)))
def f:=t k
end dQ
namespace af
abbrev Rs:Type:=Option ((Ty.d aj) × Unit)
abbrev T1:Type:=List ByteArray→Int→Int→Int→Int→Bool→Int→List (Ty.d aF)→Int→Int→Bool→Int→Rs
abbrev T0:Type:=List ByteArray→Int→Int→List (Ty.d aF)→Int→Int→Bool→Int→Int→Int→Bool→Int→Rs
def b1 (L1:T1):T1:=fun x0 x1 x2 x3 x4 x5 x6 x7 x8 x9 x10 x11 =>
 (cond (decide (x2<x1)) (fW x2 (x0.length:Int) ((bA.f k ((x7,(x8,(x9,(x10,())))),(x11,())) (x0.getD x2.toNat (Ty.z .str))).bind fun r2=>L1 x0 x1 (aU (x2+1)) x3 x4 x5 x6 r2.1.1.1 r2.1.1.2.1 r2.1.1.2.2.1 r2.1.1.2.2.2.1 r2.1.2.1)) (cond (x11 != 0) (some (((x7,(x8,(x9,(x10,())))),(x11,())),())) (some (((x7,(x8,(x9,(x10,())))),(x6,())),()))))
def l1:Nat→T1
 | 0=>fun _ _ _ _ _ _ _ _ _ _ _ _=>none
 | n+1=>b1 k (l1 n)
def b0 (L1:T1):T0:=fun x0 x1 x2 x3 x4 x5 x6 x7 x8 x9 x10 x11 =>
 (cond (decide (x2<x1)) (fW x2 (x0.length:Int) ((bA.f k ((x3,(x8,(x9,(x10,())))),(x11,())) (x0.getD x2.toNat (Ty.z .str))).bind fun r1=>L1 x0 x1 (aU (x2+1)) x4 x5 x6 x7 r1.1.1.1 r1.1.1.2.1 r1.1.1.2.2.1 r1.1.1.2.2.2.1 r1.1.2.1)) (cond (x11 != 0) (some (((x3,(x8,(x9,(x10,())))),(x11,())),())) (some (((x3,(x8,(x9,(x10,())))),(x7,())),()))))
def l0:Nat→T0
 | 0=>fun _ _ _ _ _ _ _ _ _ _ _ _=>none
 | n+1=>b0 k (l1 k n)
def t (k:Nat) (L0:T0) (a0:Ty.d aj) (a1:List ByteArray):Rs :=
 (cond (a0.2.1 != 2) (some (a0,())) (L0 a1 (a1.length:Int) 0 a0.1.1 a0.1.2.1 a0.1.2.2.1 a0.1.2.2.2.1 a0.2.1 a0.1.2.1 a0.1.2.2.1 a0.1.2.2.2.1 0))
def f:=t k (l0 k k)
end af
namespace cH
abbrev Rs:Type:=Option ((Ty.d aC) × (Ty.d aj) × Unit)
abbrev T0:Type:=Int→Int→List Int→List (Ty.d aB)→Int→Int→Int→Int→List (Ty.d aF)→Int→Int→Bool→Int→List Int→Rs
def b0 (L0:T0):T0:=fun x0 x1 x2 x3 x4 x5 x6 x7 x8 x9 x10 x11 x12 x13 =>
 (cond (decide (x1<x0)) (fW x1 (x13.length:Int) ((ai.f k (x13.getD x1.toNat (Ty.z (.int .i64)))).bind fun r9=>(bA.f k ((x8,(x9,(x10,(x11,())))),(x12,())) r9.1).bind fun pQ=>(dF.f k (x13.getD x1.toNat (Ty.z (.int .i64)))).bind fun s7=>(bA.f k pQ.1 s7.1).bind fun r12=>L0 x0 (aU (x1+1)) x2 x3 x4 x5 x6 x7 r12.1.1.1 r12.1.1.2.1 r12.1.1.2.2.1 r12.1.1.2.2.2.1 r12.1.2.1 x13)) (some (((x4,(x2,())),(x3,(x5,(x6,(x7,()))))),(((x8,(x9,(x10,(x11,())))),(x12,())),()))))
def l0:Nat→T0
 | 0=>fun _ _ _ _ _ _ _ _ _ _ _ _ _ _=>none
 | n+1=>b0 k (l0 n)
def t (L0:T0) (a0:Ty.d aC) (a1:Ty.d aj) (a2:List (Ty.d aF)):Rs :=
 ((iB.f k a2 (aU (a0.2.2.1-1))).bind fun r1=>(b7.f k a1 a0.1.1 r1.1).bind fun r2=>(dQ.f k r2.1 a0.1.1).bind fun r3=>cond (r3.1.2.1==0) ((bx.f k r3.1 ((aU (a0.1.1+2)),([a0.1.1,(aU (a0.1.1+1))],()))).bind fun r4=>cond (r4.1.2.1 != 0) ((ai.f k a0.1.1).bind fun r5=>(ai.f k (aU (a0.1.1+1))).bind fun r6=>(dF.f k a0.1.1).bind fun r7=>(af.f k r4.1 [(⟨#[116,101,109,112]⟩:ByteArray),r5.1,r6.1,r7.1]).bind fun r8=>some ((((aU (a0.1.1+2)),a0.1.2),a0.2),r8)) (L0 (a0.1.2.1.length:Int) 0 [a0.1.1,(aU (a0.1.1+1))] r2.2.1 (aU (a0.1.1+2)) a0.2.2.1 0 0 r4.1.1.1 r4.1.1.2.1 r4.1.1.2.2.1 r4.1.1.2.2.2.1 r4.1.2.1 a0.1.2.1)) (cond (r3.1.2.1 != 0) ((ai.f k a0.1.1).bind fun r13=>(ai.f k (aU (a0.1.1+1))).bind fun r14=>(dF.f k a0.1.1).bind fun r15=>(af.f k r3.1 [(⟨#[116,101,109,112]⟩:ByteArray),r13.1,r14.1,r15.1]).bind fun r16=>some ((((aU (a0.1.1+2)),a0.1.2),a0.2),r16)) (L0 (a0.1.2.1.length:Int) 0 [a0.1.1,(aU (a0.1.1+1))] r2.2.1 (aU (a0.1.1+2)) a0.2.2.1 0 0 r3.1.1.1 r3.1.1.2.1 r3.1.1.2.2.1 r3.1.1.2.2.2.1 r3.1.2.1 a0.1.2.1)))
def f:=t k (l0 k k)
end cH
namespace kS
abbrev Rs:Type:=Option ((Ty.d aC) × (Ty.d aA) × Int × Unit)
def t (a0:Ty.d aC) (a1:Ty.d aA):Rs :=
 ((df.f k a0).bind fun r1=>(az.f k a1).bind fun r2=>(iy.f k a0 a1).bind fun r3=>(cN.f k a0 a1).bind fun r4=>cond (!r4.1) (some (r1.1,(r2.1,(4,())))) (cond (decide ((aU (a0.1.1+2)) > 100000)) (some (r1.1,(r2.1,(5,())))) (cond (r3.2.1 != 0) (some (r1.1,(r2.1,r3.2))) ((cH.f k r1.1 (r2.1,(0,())) r3.1).bind fun r5=>some (r5.1,r5.2.1)))))
def f:=t k
end kS
namespace kU
abbrev Rs:Type:=Option (Bool × Unit)
def t (a0:List (Ty.d bO)) (a1:Ty.d d5):Rs :=
 ((aa.f k a1.1 1 6).bind fun r1=>cond r1.1 ((aa.f k a1.2.1 0 (aU ((a0.length:Int)-1))).bind fun r2=>cond r2.1 (fW a1.2.1 (a0.length:Int) (some (((a0.getD a1.2.1.toNat (Ty.z bO)).1==(a1.1 != 1)),()))) (some (false,()))) (some (false,())))
def f:=t k
end kU
namespace eM
abbrev Rs:Type:=Option ((Ty.d bF) × Bool × Unit)
abbrev T0:Type:=ByteArray→Int→Bool→List (Ty.d dt)→List (Ty.d bF)→ByteArray→Bool→ByteArray→Rs
def b0 (k:Nat) (L0:T0):T0:=fun x0 x1 x2 x3 x4 x5 x6 x7 =>
 (cond (decide (x1≥0)) (fW x1 (x4.length:Int) (cond (seq (x4.getD x1.toNat (Ty.z bF)).1 x0) (fW x1 (x4.length:Int) (some ((x4.getD x1.toNat (Ty.z bF)),(true,())))) (L0 x0 (aU (x1-1)) x2 x3 x4 x5 x6 x7))) (some ((ByteArray.empty,(false,(ByteArray.empty,()))),(false,()))))
def l0:Nat→T0
 | 0=>fun _ _ _ _ _ _ _ _=>none
 | n+1=>b0 k (l0 n)
def t (k:Nat) (L0:T0) (a0:Ty.d bO) (a1:ByteArray):Rs :=
 (L0 a1 (aU ((a0.2.2.1.length:Int)-1)) a0.1 a0.2.1 a0.2.2.1 ByteArray.empty false ByteArray.empty)
def f:=t k (l0 k k)
end eM
namespace oK
abbrev Rs:Type:=Option ((Ty.d f9) × Bool × Unit)
def t (a0:Ty.d bO) (a1:ByteArray):Rs :=
 ((eM.f k a0 a1).bind fun r1=>cond (!r1.2.1) (some ((0,(ByteArray.empty,([],()))),(false,()))) (cond r1.1.2.1 (some ((8,(ByteArray.empty,([],()))),(true,()))) (some ((0,(r1.1.2.2.1,([],()))),(true,())))))
def f:=t k
end oK
namespace jZ
abbrev Rs:Type:=Option ((List (Ty.d bF)) × Unit)
def t (k:Nat) (a0:List (Ty.d bF)):Rs :=
 (rm (Ty.bytes bF) (a0.length) (some (a0,())))
def f:=t k
end jZ
namespace eU
abbrev Rs:Type:=Option ((Ty.d bO) × Unit)
def t (a0:Ty.d bO):Rs :=
 (rm (Ty.bytes dt) (a0.2.1.length) ((jZ.f k a0.2.2.1).bind fun r1=>some ((a0.1,(a0.2.1,r1)),())))
def f:=t k
end eU
namespace fN
abbrev Rs:Type:=Option ((Ty.d bO) × Int × Unit)
abbrev T0:Type:=ByteArray→Int→Bool→List (Ty.d dt)→Int→Int→Bool→List (Ty.d dt)→List (Ty.d bF)→List (Ty.d dt)→List (Ty.d bF)→Bool→List (Ty.d dt)→List (Ty.d bF)→Bool→Rs
def b0 (k:Nat) (L0:T0):T0:=fun x0 x1 x2 x3 x4 x5 x6 x7 x8 x9 x10 x11 x12 x13 x14 =>
 (cond (decide (x5<x4)) (fW x5 (x3.length:Int) (cond (!(seq (x3.getD x5.toNat (Ty.z dt)).1 x0)) (L0 x0 x1 x2 x3 x4 (aU (x5+1)) x6 x7 x8 x9 x10 x11 x12 x13 x14) (cond ((x3.getD x5.toNat (Ty.z dt)).2.1 != x1) (some ((x14,(x12,(x13,()))),(7,()))) (L0 x0 x1 true x3 x4 (aU (x5+1)) x6 x7 x8 x9 x10 x11 x12 x13 x14)))) (cond x2 (some ((x14,(x12,(x13,()))),(0,()))) (cond (decide ((x7.length:Int)≥20)) (some ((x14,(x12,(x13,()))),(5,()))) (rm (Ty.bytes dt) (x12.length+1) (some ((x14,((x12++[(x0,(x1,()))]),(x13,()))),(0,())))))))
def l0:Nat→T0
 | 0=>fun _ _ _ _ _ _ _ _ _ _ _ _ _ _ _=>none
 | n+1=>b0 k (l0 n)
def t (L0:T0) (a0:Ty.d bO) (a1:ByteArray) (a2:Int):Rs :=
 ((eU.f k a0).bind fun r1=>cond (!a0.1) (some (r1.1,(4,()))) ((dU.f k a1).bind fun r2=>cond (!r2.1) (some (r1.1,(4,()))) (L0 a1 a2 false a0.2.1 (a0.2.1.length:Int) 0 a0.1 a0.2.1 a0.2.2.1 [] [] false r1.1.2.1 r1.1.2.2.1 r1.1.1)))
def f:=t k (l0 k k)
end fN
namespace my
abbrev Rs:Type:=Option ((Ty.d bO) × (Ty.d f9) × Unit)
def t (a0:Ty.d bO) (a1:ByteArray) (a2:Ty.d aF) (a3:Int):Rs :=
 ((fN.f k a0 a1 a2.2.2.1).bind fun r1=>cond (r1.2.1 != 0) (some (r1.1,((r1.2.1,(ByteArray.empty,([],()))),()))) (some (r1.1,((a3,(a2.2.1,([],()))),()))))
def f:=t k
end my
namespace gR
abbrev Rs:Type:=Option ((Ty.d aP) × (Ty.d f9) × Unit)
def t (a0:Ty.d aP) (a1:Ty.d d5):Rs :=
 (fW a1.2.1 (a0.2.2.2.1.length:Int) ((dU.f k a1.2.2.1).bind fun r1=>cond (!r1.1) (some (a0,((4,(ByteArray.empty,([],()))),()))) ((oK.f k (a0.2.2.2.1.getD a1.2.1.toNat (Ty.z bO)) a1.2.2.1).bind fun r2=>cond r2.2.1 (some (a0,(r2.1,()))) ((lg.f k a0.2.1 a0.2.2.1 a1.2.2.1).bind fun r3=>cond (r3.2.1==3) (some (a0,((r3.2.1,(ByteArray.empty,([],()))),()))) ((my.f k (a0.2.2.2.1.getD a1.2.1.toNat (Ty.z bO)) a1.2.2.1 r3.1 r3.2.1).bind fun r4=>let l5:=(a0.2.2.2.1.set a1.2.1.toNat r4.1);(some ((a0.1,(a0.2.1,(a0.2.2.1,(l5,())))),r4.2)))))))
def f:=t k
end gR
namespace fX
abbrev Rs:Type:=Option (Bool × Unit)
def t (a0:Ty.d bF):Rs :=
 ((dU.f k a0.1).bind fun r1=>cond r1.1 (cond (decide ((a0.2.2.1.size:Int)≤24)) (cond (!a0.2.1) (some (true,())) (some ((seq a0.2.2.1 (⟨#[]⟩:ByteArray)),()))) (some (false,()))) (some (false,())))
def f:=t k
end fX
namespace fi
abbrev Rs:Type:=Option ((List (Ty.d bF)) × Unit)
abbrev T1:Type:=Int→List (Ty.d bF)→Int→Int→Int→Int→List (Ty.d bF)→ByteArray→Bool→ByteArray→Rs
abbrev T0:Type:=List (Ty.d bF)→Int→Int→List (Ty.d bF)→Rs
def b1 (k:Nat) (L0:T0) (L1:T1):T1:=fun x0 x1 x2 x3 x4 x5 x6 x7 x8 x9 =>
 (cond (decide (x5<x4)) (fW x5 (x6.length:Int) (cond (seq (x6.getD x5.toNat (Ty.z bF)).1 x7) (L1 x5 x1 x2 x3 x4 (aU (x5+1)) x6 x7 x8 x9) (L1 x0 x1 x2 x3 x4 (aU (x5+1)) x6 x7 x8 x9))) (cond (decide (x0≥0)) (fW x0 (x6.length:Int) (let l1:=(x6.set x0.toNat (x7,(x8,(x9,()))));(L0 x1 x2 (aU (x3+1)) l1))) (rm (Ty.bytes bF) (x6.length+1) (L0 x1 x2 (aU (x3+1)) (x6++[(x7,(x8,(x9,())))])))))
def l1 (L0:T0):Nat→T1
 | 0=>fun _ _ _ _ _ _ _ _ _ _=>none
 | n+1=>b1 k L0 (l1 L0 n)
def b0 (k:Nat) (L1:T1) (L0:T0):T0:=fun x0 x1 x2 x3 =>
 (cond (decide (x2<x1)) (fW x2 (x0.length:Int) (L1 (-1) x0 x1 x2 (x3.length:Int) 0 x3 (x0.getD x2.toNat (Ty.z bF)).1 (x0.getD x2.toNat (Ty.z bF)).2.1 (x0.getD x2.toNat (Ty.z bF)).2.2.1)) (some (x3,())))
def l0:Nat→T0
 | 0=>fun _ _ _ _=>none
 | n+1=>b0 k (l1 k (l0 n) k) (l0 n)
def t (k:Nat) (L0:T0) (a0:List (Ty.d bF)):Rs :=
 (L0 a0 (a0.length:Int) 0 [])
def f:=t k (l0 k k)
end fi
namespace fD
abbrev Rs:Type:=Option ((List (Ty.d bF)) × Unit)
def t (a0:Ty.d bO):Rs :=
 ((fi.f k a0.2.2.1).bind fun r1=>some r1)
def f:=t k
end fD
namespace iq
abbrev Rs:Type:=Option ((Ty.d bO) × Bool × Unit)
def t (a0:Ty.d bO) (a1:Ty.d bF):Rs :=
 ((eU.f k a0).bind fun r1=>rm (Ty.bytes bF) (r1.1.2.2.1.length+1) (cond (!a0.1) ((eU.f k a0).bind fun r2=>some (r2.1,(false,()))) ((fX.f k a1).bind fun r3=>cond (!r3.1) ((eU.f k a0).bind fun r4=>some (r4.1,(false,()))) ((fD.f k (r1.1.1,(r1.1.2.1,((r1.1.2.2.1++[a1]),())))).bind fun r5=>cond (decide ((r5.1.length:Int) > 8)) ((eU.f k a0).bind fun r6=>some (r6.1,(false,()))) (cond (decide ((List.length (r1.1.2.2.1++[a1]):Int) > 50)) ((eU.f k a0).bind fun r7=>some (r7.1,(false,()))) (some ((r1.1.1,(r1.1.2.1,((r1.1.2.2.1++[a1]),()))),(true,()))))))))
def f:=t k
end iq
namespace kQ
abbrev Rs:Type:=Option ((Ty.d bO) × (Ty.d f9) × Unit)
def t (a0:Ty.d bO) (a1:Ty.d d5):Rs :=
 ((iq.f k a0 (a1.2.2.1,((a1.1==4),(a1.2.2.2.1,())))).bind fun r1=>(fX.f k (a1.2.2.1,((a1.1==4),(a1.2.2.2.1,())))).bind fun r2=>cond (!r2.1) (some (r1.1,((4,(ByteArray.empty,([],()))),()))) (cond (!r1.2.1) (some (r1.1,((5,(ByteArray.empty,([],()))),()))) (some (r1.1,((0,(ByteArray.empty,([],()))),())))))
def f:=t k
end kQ
namespace gg
abbrev Rs:Type:=Option (Bool × Unit)
abbrev T0:Type:=List (Ty.d aB)→List (Ty.d dt)→Int→Int→Rs
def b0 (L0:T0):T0:=fun x0 x1 x2 x3 =>
 (cond (decide (x3<x2)) (fW x3 (x1.length:Int) ((fH.f k x0 (x1.getD x3.toNat (Ty.z dt)).1).bind fun r1=>cond (r1.1.2.2.2.2.1 != (x1.getD x3.toNat (Ty.z dt)).2.1) (some (false,())) (L0 x0 x1 x2 (aU (x3+1))))) (some (true,())))
def l0:Nat→T0
 | 0=>fun _ _ _ _=>none
 | n+1=>b0 k (l0 n)
def t (k:Nat) (L0:T0) (a0:Ty.d bO) (a1:List (Ty.d aB)):Rs :=
 (L0 a1 a0.2.1 (a0.2.1.length:Int) 0)
def f:=t k (l0 k k)
end gg
namespace fJ
abbrev Rs:Type:=Option (Bool × Unit)
abbrev T0:Type:=List (Ty.d bF)→List (Ty.d bF)→Int→Int→Rs
def b0 (L0:T0):T0:=fun x0 x1 x2 x3 =>
 (cond (decide (x3<x2)) (fW x3 (x1.length:Int) ((fX.f k (x1.getD x3.toNat (Ty.z bF))).bind fun r1=>cond (!r1.1) (some (false,())) (L0 x0 x1 x2 (aU (x3+1))))) (some ((decide ((x0.length:Int)≤8)),())))
def l0:Nat→T0
 | 0=>fun _ _ _ _=>none
 | n+1=>b0 k (l0 n)
def t (k:Nat) (L0:T0) (a0:List (Ty.d bF)):Rs :=
 (L0 a0 a0 (a0.length:Int) 0)
def f:=t k (l0 k k)
end fJ
namespace gA
abbrev Rs:Type:=Option ((List (Ty.d aB)) × Unit)
abbrev T1:Type:=List (Ty.d aB)→List (Ty.d bF)→Int→Int→List (Ty.d aB)→Rs
abbrev T0:Type:=List (Ty.d aB)→List (Ty.d aB)→List (Ty.d bF)→Int→Int→Rs
def b1 (L1:T1):T1:=fun x0 x1 x2 x3 x4 =>
 (cond (decide (x3<x2)) (fW x3 (x1.length:Int) (cond (x1.getD x3.toNat (Ty.z bF)).2.1 ((br.f k x4 (x1.getD x3.toNat (Ty.z bF)).1).bind fun r2=>L1 x0 x1 x2 (aU (x3+1)) r2.1) (fW x3 (x0.length:Int) ((cr.f k x4 (x0.getD x3.toNat (Ty.z aB))).bind fun r3=>L1 x0 x1 x2 (aU (x3+1)) r3.1)))) (some (x4,())))
def l1:Nat→T1
 | 0=>fun _ _ _ _ _=>none
 | n+1=>b1 k (l1 n)
def b0 (L1:T1):T0:=fun x0 x1 x2 x3 x4 =>
 (cond (decide (x4<x3)) (fW x4 (x2.length:Int) (cond (x2.getD x4.toNat (Ty.z bF)).2.1 ((br.f k x0 (x2.getD x4.toNat (Ty.z bF)).1).bind fun r1=>L1 x1 x2 x3 (aU (x4+1)) r1.1) (fW x4 (x1.length:Int) ((cr.f k x0 (x1.getD x4.toNat (Ty.z aB))).bind fun r4=>L1 x1 x2 x3 (aU (x4+1)) r4.1)))) (some (x0,())))
def l0:Nat→T0
 | 0=>fun _ _ _ _ _=>none
 | n+1=>b0 k (l1 k n)
def t (k:Nat) (L0:T0) (a0:List (Ty.d aB)) (a1:List (Ty.d bF)) (a2:List (Ty.d aB)):Rs :=
 (L0 a0 a2 a1 (a1.length:Int) 0)
def f:=t k (l0 k k)
end gA
namespace eI
abbrev Rs:Type:=Option (Int × Unit)
abbrev T0:Type:=List (Ty.d aB)→List (Ty.d bF)→List (Ty.d bF)→Int→Int→List (Ty.d aB)→Rs
def b0 (L0:T0):T0:=fun x0 x1 x2 x3 x4 x5 =>
 (cond (decide (x4<x3)) (fW x4 (x2.length:Int) (rm (Ty.bytes aB) (x5.length+1) (L0 x0 x1 x2 x3 (aU (x4+1)) (x5++[((x2.getD x4.toNat (Ty.z bF)).1,(0,(0,(0,(0,())))))])))) ((gA.f k x0 x1 x5).bind fun r1=>some ((r1.1.length:Int),())))
def l0:Nat→T0
 | 0=>fun _ _ _ _ _ _=>none
 | n+1=>b0 k (l0 n)
def t (k:Nat) (L0:T0) (a0:List (Ty.d aB)) (a1:List (Ty.d bF)):Rs :=
 (L0 a0 a1 a1 (a1.length:Int) 0 [])
def f:=t k (l0 k k)
end eI
namespace dj
abbrev Rs:Type:=Option ((List (Ty.d bQ)) × Unit)
abbrev T0:Type:=List (Ty.d bF)→Int→List (Ty.d bF)→Int→Int→List (Ty.d bQ)→Rs
def b0 (L0:T0):T0:=fun x0 x1 x2 x3 x4 x5 =>
 (cond (decide (x4<x3)) (fW x4 (x2.length:Int) (cond (x2.getD x4.toNat (Ty.z bF)).2.1 (rm (Ty.bytes bQ) (x5.length+1) (L0 x0 x1 x2 x3 (aU (x4+1)) (x5++[(2,(x1,((x2.getD x4.toNat (Ty.z bF)).1,(ByteArray.empty,(0,(0,()))))))]))) (rm (Ty.bytes bQ) (x5.length+1) (L0 x0 x1 x2 x3 (aU (x4+1)) (x5++[(1,(x1,((x2.getD x4.toNat (Ty.z bF)).1,((x2.getD x4.toNat (Ty.z bF)).2.2.1,(0,(0,()))))))]))))) ((gC.f k x5).bind fun r1=>rm (Ty.bytes bQ) (x5.length+1) (some ((x5++[(3,(x1,(ByteArray.empty,(ByteArray.empty,((x0.length:Int),r1)))))]),()))))
def l0:Nat→T0
 | 0=>fun _ _ _ _ _ _=>none
 | n+1=>b0 k (l0 n)
def t (k:Nat) (L0:T0) (a0:List (Ty.d bF)) (a1:Int):Rs :=
 (L0 a0 a1 a0 (a0.length:Int) 0 [])
def f:=t k (l0 k k)
end dj
namespace ba
abbrev Rs:Type:=Option ((Ty.d aC) × ByteArray × Unit)
def t (a0:Ty.d aC):Rs :=
 (fW (aU ((a0.1.2.1.length:Int)-1)) (a0.1.2.1.length:Int) ((ai.f k (a0.1.2.1.getD (aU ((a0.1.2.1.length:Int)-1)).toNat (Ty.z (.int .i64)))).bind fun r1=>some (a0,r1)))
def f:=t k
end ba
namespace fE
abbrev Rs:Type:=Option ((Ty.d aC) × (Ty.d aj) × Unit)
def t (a0:Ty.d aC) (a1:Ty.d aj):Rs :=
 (cond (decide ((a0.1.2.1.length:Int)≥60)) (some (a0,((a1.1,(5,())),()))) (cond (decide (a0.1.1≥100000)) (some (a0,((a1.1,(5,())),()))) ((ba.f k a0).bind fun r1=>(bM.f k a1 r1.2.1).bind fun r2=>cond (r2.1.2.1 != 0) (some (r1.1,r2)) ((ai.f k r1.1.1.1).bind fun r3=>(cV.f k r2.1 r3.1).bind fun r4=>cond (r4.1.2.1 != 0) (some ((((aU (r1.1.1.1+1)),r1.1.1.2),r1.1.2),r4)) ((dm.f k ((aU (r1.1.1.1+1)),r1.1.1.2)).bind fun r5=>rm (Ty.bytes (.int .i64)) (r5.1.2.1.length+1) ((bx.f k r4.1 (r5.1.1,((r5.1.2.1++[r1.1.1.1]),()))).bind fun r6=>cond (r6.1.2.1 != 0) ((ai.f k r1.1.1.1).bind fun r7=>(af.f k r6.1 [(⟨#[116,101,109,112]⟩:ByteArray),r7.1]).bind fun r8=>some ((((aU (r1.1.1.1+1)),r1.1.1.2),r1.1.2),r8)) (some (((r5.1.1,((r5.1.2.1++[r1.1.1.1]),())),(r1.1.2.1,(r1.1.2.2.1,(0,r1.1.2.2.2.2)))),r6))))))))
def f:=t k
end fE
namespace g_
abbrev Rs:Type:=Option ((Ty.d aC) × (Ty.d aj) × (Ty.d aB) × Unit)
def t (a0:Ty.d aC) (a1:Ty.d aj) (a2:Ty.d bQ):Rs :=
 ((g6.f k a2).bind fun r1=>(gf.f k r1.1).bind fun r2=>cond (decide (a0.2.2.2.1 > 0)) (cond (decide ((aU (a0.2.2.2.1+(r2.1.size:Int))) > 200)) ((fE.f k a0 a1).bind fun r3=>cond (r3.2.1.2.1 != 0) (some (r3.1,(r3.2.1,((ByteArray.empty,(0,(0,(0,(0,()))))),())))) (fW (aU ((r3.1.1.2.1.length:Int)-1)) (r3.1.1.2.1.length:Int) ((ba.f k r3.1).bind fun r4=>(cJ.f k r3.2.1 r4.2.1 r2.1).bind fun r5=>cond (r5.1.2.1==0) (some ((r4.1.1,(r4.1.2.1,(r4.1.2.2.1,((aU (r4.1.2.2.2.1+(r2.1.size:Int))),r4.1.2.2.2.2)))),(r5.1,((a2.2.2.1,((r3.1.1.2.1.getD (aU ((r3.1.1.2.1.length:Int)-1)).toNat (Ty.z (.int .i64))),(r3.1.2.2.2.1,((r2.1.size:Int),(a2.2.1,()))))),())))) (some (r4.1,(r5.1,((a2.2.2.1,((r3.1.1.2.1.getD (aU ((r3.1.1.2.1.length:Int)-1)).toNat (Ty.z (.int .i64))),(r3.1.2.2.2.1,((r2.1.size:Int),(a2.2.1,()))))),()))))))) (cond (a1.2.1 != 0) (some (a0,(a1,((ByteArray.empty,(0,(0,(0,(0,()))))),())))) (fW (aU ((a0.1.2.1.length:Int)-1)) (a0.1.2.1.length:Int) ((ba.f k a0).bind fun r6=>(cJ.f k a1 r6.2.1 r2.1).bind fun r7=>cond (r7.1.2.1==0) (some ((r6.1.1,(r6.1.2.1,(r6.1.2.2.1,((aU (r6.1.2.2.2.1+(r2.1.size:Int))),r6.1.2.2.2.2)))),(r7.1,((a2.2.2.1,((a0.1.2.1.getD (aU ((a0.1.2.1.length:Int)-1)).toNat (Ty.z (.int .i64))),(a0.2.2.2.1,((r2.1.size:Int),(a2.2.1,()))))),())))) (some (r6.1,(r7.1,((a2.2.2.1,((a0.1.2.1.getD (aU ((a0.1.2.1.length:Int)-1)).toNat (Ty.z (.int .i64))),(a0.2.2.2.1,((r2.1.size:Int),(a2.2.1,()))))),())))))))) (cond (a1.2.1 != 0) (some (a0,(a1,((ByteArray.empty,(0,(0,(0,(0,()))))),())))) (fW (aU ((a0.1.2.1.length:Int)-1)) (a0.1.2.1.length:Int) ((ba.f k a0).bind fun r8=>(cJ.f k a1 r8.2.1 r2.1).bind fun r9=>cond (r9.1.2.1==0) (some ((r8.1.1,(r8.1.2.1,(r8.1.2.2.1,((aU (r8.1.2.2.2.1+(r2.1.size:Int))),r8.1.2.2.2.2)))),(r9.1,((a2.2.2.1,((a0.1.2.1.getD (aU ((a0.1.2.1.length:Int)-1)).toNat (Ty.z (.int .i64))),(a0.2.2.2.1,((r2.1.size:Int),(a2.2.1,()))))),())))) (some (r8.1,(r9.1,((a2.2.2.1,((a0.1.2.1.getD (aU ((a0.1.2.1.length:Int)-1)).toNat (Ty.z (.int .i64))),(a0.2.2.2.1,((r2.1.size:Int),(a2.2.1,()))))),()))))))))
def f:=t k
end g_
namespace ga
abbrev Rs:Type:=Option ((List (Ty.d aB)) × Unit)
abbrev T0:Type:=List (Ty.d aB)→List (Ty.d bF)→Int→Int→List (Ty.d aB)→Rs
def b0 (L0:T0):T0:=fun x0 x1 x2 x3 x4 =>
 (cond (decide (x3<x2)) (fW x3 (x1.length:Int) (cond (x1.getD x3.toNat (Ty.z bF)).2.1 ((br.f k x4 (x1.getD x3.toNat (Ty.z bF)).1).bind fun r1=>L0 x0 x1 x2 (aU (x3+1)) r1.1) (fW x3 (x0.length:Int) ((cr.f k x4 (x0.getD x3.toNat (Ty.z aB))).bind fun r2=>L0 x0 x1 x2 (aU (x3+1)) r2.1)))) (some (x4,())))
def l0:Nat→T0
 | 0=>fun _ _ _ _ _=>none
 | n+1=>b0 k (l0 n)
def t (k:Nat) (L0:T0) (a0:List (Ty.d aB)) (a1:List (Ty.d bF)) (a2:List (Ty.d aB)):Rs :=
 (L0 a2 a1 (a1.length:Int) 0 a0)
def f:=t k (l0 k k)
end ga
namespace bp
abbrev Rs:Type:=Option ((Ty.d aC) × (Ty.d aj) × Unit)
abbrev T0:Type:=List (Ty.d bF)→Int→Int→List Int→List (Ty.d aB)→Int→Int→Int→Int→List (Ty.d aF)→Int→Int→Bool→Int→List (Ty.d aB)→List (Ty.d bQ)→Rs
def b0 (L0:T0):T0:=fun x0 x1 x2 x3 x4 x5 x6 x7 x8 x9 x10 x11 x12 x13 x14 x15 =>
 (cond (decide (x2<x1)) (fW x2 (x15.length:Int) ((g_.f k ((x5,(x3,())),(x4,(x6,(x7,(x8,()))))) ((x9,(x10,(x11,(x12,())))),(x13,())) (x15.getD x2.toNat (Ty.z bQ))).bind fun r2=>cond (r2.2.1.2.1 != 0) (some (r2.1,(r2.2.1,()))) (rm (Ty.bytes aB) (x14.length+1) (L0 x0 x1 (aU (x2+1)) r2.1.1.2.1 r2.1.2.1 r2.1.1.1 r2.1.2.2.1 r2.1.2.2.2.1 r2.1.2.2.2.2.1 r2.2.1.1.1 r2.2.1.1.2.1 r2.2.1.1.2.2.1 r2.2.1.1.2.2.2.1 r2.2.1.2.1 (x14++[r2.2.2.1]) x15)))) ((ba.f k ((x5,(x3,())),(x4,(x6,(x7,(x8,())))))).bind fun r3=>(bM.f k ((x9,(x10,(x11,(x12,())))),(x13,())) r3.2.1).bind fun r4=>cond (r4.1.2.1==0) ((ga.f k r3.1.2.1 x0 x14).bind fun r5=>some ((r3.1.1,(r5.1,r3.1.2.2)),r4)) (some (r3.1,r4))))
def l0:Nat→T0
 | 0=>fun _ _ _ _ _ _ _ _ _ _ _ _ _ _ _ _=>none
 | n+1=>b0 k (l0 n)
def t (L0:T0) (a0:Ty.d aC) (a1:Ty.d aj) (a2:List (Ty.d bF)):Rs :=
 ((dj.f k a2 a0.2.2.1).bind fun r1=>L0 a2 (r1.1.length:Int) 0 a0.1.2.1 a0.2.1 a0.1.1 (aU (a0.2.2.1+1)) a0.2.2.2.1 a0.2.2.2.2.1 a1.1.1 a1.1.2.1 a1.1.2.2.1 a1.1.2.2.2.1 a1.2.1 [] r1.1)
def f:=t k (l0 k k)
end bp
namespace jQ
abbrev Rs:Type:=Option ((Ty.d aC) × (Ty.d aA) × Int × Unit)
def t (a0:Ty.d aC) (a1:Ty.d aA) (a2:List (Ty.d bF)):Rs :=
 ((df.f k a0).bind fun r1=>(az.f k a1).bind fun r2=>(cN.f k a0 a1).bind fun r3=>cond (!r3.1) (some (r1.1,(r2.1,(4,())))) ((fJ.f k a2).bind fun r4=>cond (!r4.1) (some (r1.1,(r2.1,(4,())))) (cond ((a2.length:Int)==0) (some (r1.1,(r2.1,(0,())))) ((eI.f k a0.2.1 a2).bind fun r5=>cond (decide (r5.1 > 20)) (some (r1.1,(r2.1,(5,())))) (cond (decide (a0.2.2.1 > 1000000)) (some (r1.1,(r2.1,(5,())))) ((bp.f k r1.1 (r2.1,(0,())) a2).bind fun r6=>some (r6.1,r6.2.1)))))))
def f:=t k
end jQ
namespace dR
abbrev Rs:Type:=Option ((Ty.d aP) × (Ty.d f9) × Unit)
def t (a0:Ty.d aP) (a1:Ty.d d5):Rs :=
 ((kU.f k a0.2.2.2.1 a1).bind fun r1=>cond (!r1.1) (some (a0,((4,(ByteArray.empty,([],()))),()))) (fW a1.2.1 (a0.2.2.2.1.length:Int) (cond (a1.1==1) (let l2:=(a0.2.2.2.1.set a1.2.1.toNat (true,([],([],()))));(some ((a0.1,(a0.2.1,(a0.2.2.1,(l2,())))),((0,(ByteArray.empty,([],()))),())))) (cond (a1.1==6) (let l3:=(a0.2.2.2.1.set a1.2.1.toNat (false,([],([],()))));(some ((a0.1,(a0.2.1,(a0.2.2.1,(l3,())))),((0,(ByteArray.empty,([],()))),())))) (cond (a1.1==2) ((gR.f k a0 a1).bind fun r4=>some r4) (cond (a1.1==3) (cond (a1.1==3) ((kQ.f k (a0.2.2.2.1.getD a1.2.1.toNat (Ty.z bO)) a1).bind fun r5=>let l6:=(a0.2.2.2.1.set a1.2.1.toNat r5.1);(some ((a0.1,(a0.2.1,(a0.2.2.1,(l6,())))),r5.2))) (cond (a1.1==5) (let l7:=(a0.2.2.2.1.set a1.2.1.toNat (false,([],([],()))));((gg.f k (a0.2.2.2.1.getD a1.2.1.toNat (Ty.z bO)) a0.2.1.2.1).bind fun r8=>cond (!r8.1) (some ((a0.1,(a0.2.1,(a0.2.2.1,(l7,())))),((7,(ByteArray.empty,([],()))),()))) ((fD.f k (a0.2.2.2.1.getD a1.2.1.toNat (Ty.z bO))).bind fun r9=>(jQ.f k a0.2.1 a0.2.2.1 r9.1).bind fun pQ=>some ((a0.1,(pQ.1,(pQ.2.1,(l7,())))),((pQ.2.2.1,(ByteArray.empty,([],()))),()))))) (some (a0,((0,(ByteArray.empty,([],()))),()))))) (cond (a1.1==4) ((kQ.f k (a0.2.2.2.1.getD a1.2.1.toNat (Ty.z bO)) a1).bind fun s7=>let l12:=(a0.2.2.2.1.set a1.2.1.toNat s7.1);(some ((a0.1,(a0.2.1,(a0.2.2.1,(l12,())))),s7.2))) (cond (a1.1==5) (let l13:=(a0.2.2.2.1.set a1.2.1.toNat (false,([],([],()))));((gg.f k (a0.2.2.2.1.getD a1.2.1.toNat (Ty.z bO)) a0.2.1.2.1).bind fun r14=>cond (!r14.1) (some ((a0.1,(a0.2.1,(a0.2.2.1,(l13,())))),((7,(ByteArray.empty,([],()))),()))) ((fD.f k (a0.2.2.2.1.getD a1.2.1.toNat (Ty.z bO))).bind fun r15=>(jQ.f k a0.2.1 a0.2.2.1 r15.1).bind fun r16=>some ((a0.1,(r16.1,(r16.2.1,(l13,())))),((r16.2.2.1,(ByteArray.empty,([],()))),()))))) (some (a0,((0,(ByteArray.empty,([],()))),())))))))))))
def f:=t k
end dR
namespace d8
abbrev Rs:Type:=Option ((Ty.d aP) × (Ty.d f9) × Unit)
def t (a0:Ty.d aP) (a1:Ty.d d5):Rs :=
 (cond (a1.1==10) (cond a0.1 (some (a0,((4,(ByteArray.empty,([],()))),()))) (cond (a1.1==10) ((dh.f k a0.2.2.1).bind fun r1=>some (r1.1,((r1.2.1,(ByteArray.empty,([],()))),()))) (cond (a1.1==11) ((fe.f k a0.2.2.1).bind fun r2=>(am.f k a0.2.2.1).bind fun r3=>cond (!r3.1) (some (a0,((4,(ByteArray.empty,([],()))),()))) ((aa.f k a1.2.2.2.2.1 0 (aU (100000-r2.1))).bind fun r4=>cond (!r4.1) (some (a0,((4,(ByteArray.empty,([],()))),()))) (some ((a0.1,(a0.2.1,((a0.2.2.1.1,((aU (r2.1+a1.2.2.2.2.1)),a0.2.2.1.2.2)),a0.2.2.2))),((0,(ByteArray.empty,([],()))),()))))) (cond (!a0.1) (some (a0,((6,(ByteArray.empty,([],()))),()))) (cond (a1.1==7) ((kS.f k a0.2.1 a0.2.2.1).bind fun r5=>some ((a0.1,(r5.1,(r5.2.1,a0.2.2.2))),((r5.2.2.1,(ByteArray.empty,([],()))),()))) (cond (a1.1==8) ((dc.f k a0.2.1.2.1).bind fun r6=>some (a0,((0,(ByteArray.empty,r6)),()))) (cond (a1.1==9) (Qs (Ty.bytes bO) 3 (some ((false,(((0,([],())),([],(0,(0,(0,()))))),(a0.2.2.1,((List.replicate (Int.toNat 3) (Ty.z bO)),())))),((0,(ByteArray.empty,([],()))),())))) ((dR.f k a0 a1).bind fun r7=>some r7)))))))) (cond (a1.1==10) ((dh.f k a0.2.2.1).bind fun r8=>some (r8.1,((r8.2.1,(ByteArray.empty,([],()))),()))) (cond (a1.1==11) ((fe.f k a0.2.2.1).bind fun r9=>(am.f k a0.2.2.1).bind fun pQ=>cond (!pQ.1) (some (a0,((4,(ByteArray.empty,([],()))),()))) ((aa.f k a1.2.2.2.2.1 0 (aU (100000-r9.1))).bind fun s7=>cond (!s7.1) (some (a0,((4,(ByteArray.empty,([],()))),()))) (some ((a0.1,(a0.2.1,((a0.2.2.1.1,((aU (r9.1+a1.2.2.2.2.1)),a0.2.2.1.2.2)),a0.2.2.2))),((0,(ByteArray.empty,([],()))),()))))) (cond (!a0.1) (some (a0,((6,(ByteArray.empty,([],()))),()))) (cond (a1.1==7) ((kS.f k a0.2.1 a0.2.2.1).bind fun r12=>some ((a0.1,(r12.1,(r12.2.1,a0.2.2.2))),((r12.2.2.1,(ByteArray.empty,([],()))),()))) (cond (a1.1==8) ((dc.f k a0.2.1.2.1).bind fun r13=>some (a0,((0,(ByteArray.empty,r13)),()))) (cond (a1.1==9) (Qs (Ty.bytes bO) 3 (some ((false,(((0,([],())),([],(0,(0,(0,()))))),(a0.2.2.1,((List.replicate (Int.toNat 3) (Ty.z bO)),())))),((0,(ByteArray.empty,([],()))),())))) ((dR.f k a0 a1).bind fun r14=>some r14))))))))
def f:=t k
end d8
namespace gW
abbrev Rs:Type:=Option (ByteArray × Unit)
def t (a0:Int):Rs :=
 ((aa.f k a0 0 8).bind fun r1=>cond (!r1.1) (some ((⟨#[]⟩:ByteArray),())) ((iD.f k (⟨#[111,107,32,100,111,119,110,32,115,112,97,99,101,32,99,111,114,114,117,112,116,32,97,114,103,115,32,109,97,110,121,32,99,108,111,115,101,100,32,99,111,110,102,108,105,99,116,32,110,111,110,101]⟩:ByteArray) (⟨#[32]⟩:ByteArray)).bind fun r2=>fW a0 (r2.1.length:Int) (some ((r2.1.getD a0.toNat (Ty.z .str)),()))))
def f:=t k
end gW
namespace dl
abbrev Rs:Type:=Option (ByteArray × Unit)
abbrev T0:Type:=ByteArray→List ByteArray→Int→Int→Rs
def b0 (k:Nat) (L0:T0):T0:=fun x0 x1 x2 x3 =>
 (cond (decide (x3<x2)) (fW x3 (x1.length:Int) (jm (⟨#[32]⟩:ByteArray) (x1.getD x3.toNat (Ty.z .str)) (jm x0 ((⟨#[32]⟩:ByteArray)++(x1.getD x3.toNat (Ty.z .str))) (L0 (x0++((⟨#[32]⟩:ByteArray)++(x1.getD x3.toNat (Ty.z .str)))) x1 x2 (aU (x3+1)))))) (some (x0,())))
def l0:Nat→T0
 | 0=>fun _ _ _ _=>none
 | n+1=>b0 k (l0 n)
def t (L0:T0) (a0:Ty.d d5) (a1:Ty.d f9):Rs :=
 (cond (a1.1 != 0) ((gW.f k a1.1).bind fun r1=>some r1) (cond (a0.1==2) (jm (⟨#[32]⟩:ByteArray) a1.2.1 (jm (⟨#[111,107]⟩:ByteArray) ((⟨#[32]⟩:ByteArray)++a1.2.1) (L0 ((⟨#[111,107]⟩:ByteArray)++((⟨#[32]⟩:ByteArray)++a1.2.1)) a1.2.2.1 (a1.2.2.1.length:Int) 0))) (L0 (⟨#[111,107]⟩:ByteArray) a1.2.2.1 (a1.2.2.1.length:Int) 0)))
def f:=t k (l0 k k)
end dl
namespace mG
abbrev Rs:Type:=Option (Int × Unit)
def t (a0:Ty.d aA):Rs :=
 ((am.f k a0).bind fun r1=>cond (!r1.1) (some (0,())) ((fe.f k a0).bind fun r2=>some r2))
def f:=t k
end mG
namespace iu
abbrev Rs:Type:=Option ((Ty.d aA) × Unit)
def t (a0:Ty.d aA) (a1:Int):Rs :=
 ((az.f k a0).bind fun r1=>(am.f k a0).bind fun r2=>cond r2.1 ((aa.f k a1 (-1) 100000).bind fun r3=>cond r3.1 (some ((r1.1.1,(r1.1.2.1,(a1,(false,())))),())) (some r1)) (some r1))
def f:=t k
end iu
namespace gF
abbrev Rs:Type:=Option ((Ty.d aA) × Unit)
abbrev T0:Type:=List Int→Int→Int→List (Ty.d aF)→Int→Int→Bool→List (Ty.d aF)→Int→Int→Bool→Rs
def b0 (k:Nat) (L0:T0):T0:=fun x0 x1 x2 x3 x4 x5 x6 x7 x8 x9 x10 =>
 (cond (decide (x2<x1)) (fW x2 (x7.length:Int) (cond (decide ((x0.length:Int) > 0)) (bif (decide ((x0.length:Int)=0)) then none else (fW (Int.tmod x2 (x0.length:Int)) (x0.length:Int) (bif (decide ((aU ((aU ((ByteArray.size (x7.getD x2.toNat (Ty.z aF)).2.1:Int)-(x7.getD x2.toNat (Ty.z aF)).2.2.1))+1))=0)) then none else (let l3:=(x7.set x2.toNat ((x7.getD x2.toNat (Ty.z aF)).1,((x7.getD x2.toNat (Ty.z aF)).2.1,((aU ((x7.getD x2.toNat (Ty.z aF)).2.2.1+(Int.tmod (if 0 > (x0.getD (Int.tmod x2 (x0.length:Int)).toNat (Ty.z (.int .i64))) then 0 else (x0.getD (Int.tmod x2 (x0.length:Int)).toNat (Ty.z (.int .i64)))) (aU ((aU ((ByteArray.size (x7.getD x2.toNat (Ty.z aF)).2.1:Int)-(x7.getD x2.toNat (Ty.z aF)).2.2.1))+1))))),(x7.getD x2.toNat (Ty.z aF)).2.2.2))));(qn (l3.getD x2.toNat (Ty.z aF)).2.2.1 (ByteArray.size (l3.getD x2.toNat (Ty.z aF)).2.1:Int) (let l4:=(l3.set x2.toNat ((l3.getD x2.toNat (Ty.z aF)).1,((ByteArray.extract (l3.getD x2.toNat (Ty.z aF)).2.1 0 (Int.toNat (l3.getD x2.toNat (Ty.z aF)).2.2.1)),(l3.getD x2.toNat (Ty.z aF)).2.2)));(L0 x0 x1 (aU (x2+1)) x3 x4 x5 x6 l4 x8 x9 x10))))))) (let l5:=(x7.set x2.toNat ((x7.getD x2.toNat (Ty.z aF)).1,((x7.getD x2.toNat (Ty.z aF)).2.1,((aU ((x7.getD x2.toNat (Ty.z aF)).2.2.1+0)),(x7.getD x2.toNat (Ty.z aF)).2.2.2))));(qn (l5.getD x2.toNat (Ty.z aF)).2.2.1 (ByteArray.size (l5.getD x2.toNat (Ty.z aF)).2.1:Int) (let l6:=(l5.set x2.toNat ((l5.getD x2.toNat (Ty.z aF)).1,((ByteArray.extract (l5.getD x2.toNat (Ty.z aF)).2.1 0 (Int.toNat (l5.getD x2.toNat (Ty.z aF)).2.2.1)),(l5.getD x2.toNat (Ty.z aF)).2.2)));(L0 x0 x1 (aU (x2+1)) x3 x4 x5 x6 l6 x8 x9 x10)))))) (some ((x7,(x8,((-1),(false,())))),())))
def l0:Nat→T0
 | 0=>fun _ _ _ _ _ _ _ _ _ _ _=>none
 | n+1=>b0 k (l0 n)
def t (L0:T0) (a0:Ty.d aA) (a1:List Int):Rs :=
 ((az.f k a0).bind fun r1=>(am.f k a0).bind fun r2=>cond (!r2.1) (some r1) (L0 a1 (r1.1.1.length:Int) 0 [] 0 0 false r1.1.1 r1.1.2.1 r1.1.2.2.1 r1.1.2.2.2.1))
def f:=t k (l0 k k)
end gF
namespace db
abbrev Rs:Type:=Option ((Ty.d aP) × ByteArray × Unit)
def t (a0:Ty.d aP) (a1:ByteArray):Rs :=
 ((iD.f k a1 (⟨#[32]⟩:ByteArray)).bind fun r1=>(kF.f k r1.1).bind fun r2=>cond r2.2.1 ((d8.f k a0 r2.1).bind fun r3=>(dl.f k r2.1 r3.2.1).bind fun r4=>some (r3.1,r4)) (cond (seq a1 (⟨#[117,115,101,100]⟩:ByteArray)) ((mG.f k a0.2.2.1).bind fun r5=>(lf.f k r5.1).bind fun r6=>some (a0,r6)) (cond ((r1.1.length:Int) != 2) (some (a0,((⟨#[119,104,97,116]⟩:ByteArray),()))) (fW 1 (r1.1.length:Int) ((bj.f k (r1.1.getD 1 (Ty.z .str))).bind fun r7=>cond (!r7.2.1) (some (a0,((⟨#[119,104,97,116]⟩:ByteArray),()))) (fW 0 (r1.1.length:Int) (cond (seq (r1.1.getD 0 (Ty.z .str)) (⟨#[102,117,101,108]⟩:ByteArray)) ((aa.f k r7.1 (-1) 100000).bind fun r8=>cond (!r8.1) (some (a0,((⟨#[110,111]⟩:ByteArray),()))) ((iu.f k a0.2.2.1 r7.1).bind fun r9=>some ((a0.1,(a0.2.1,(r9.1,a0.2.2.2))),((⟨#[111,107]⟩:ByteArray),())))) (fW 0 (r1.1.length:Int) (cond (seq (r1.1.getD 0 (Ty.z .str)) (⟨#[112,111,119,101,114]⟩:ByteArray)) ((gF.f k a0.2.2.1 [r7.1]).bind fun pQ=>(dh.f k pQ.1).bind fun s7=>(gW.f k s7.2.1).bind fun r12=>some (s7.1,r12)) (some (a0,((⟨#[119,104,97,116]⟩:ByteArray),()))))))))))))
def f:=t k
end db
namespace fO
abbrev Rs:Type:=Option (ByteArray × Unit)
abbrev T1:Type:=ByteArray→List ByteArray→Int→Int→List Int→List (Ty.d aB)→List (Ty.d aF)→List (Ty.d bO)→Bool→Int→Int→Int→Int→Int→Int→Bool→Rs
abbrev T0:Type:=ByteArray→List ByteArray→Int→Int→List Int→List (Ty.d aB)→List (Ty.d aF)→List (Ty.d bO)→Bool→Int→Int→Int→Int→Int→Int→Bool→Rs
def b1 (L1:T1):T1:=fun x0 x1 x2 x3 x4 x5 x6 x7 x8 x9 x10 x11 x12 x13 x14 x15 =>
 (cond (decide (x3<x2)) (fW x3 (x1.length:Int) (cond (!(seq (x1.getD x3.toNat (Ty.z .str)) (⟨#[]⟩:ByteArray))) ((db.f k (x8,(((x9,(x4,())),(x5,(x10,(x11,(x12,()))))),((x6,(x13,(x14,(x15,())))),(x7,())))) (x1.getD x3.toNat (Ty.z .str))).bind fun r5=>jm r5.2.1 (⟨#[10]⟩:ByteArray) (jm x0 (r5.2.1++(⟨#[10]⟩:ByteArray)) (L1 (x0++(r5.2.1++(⟨#[10]⟩:ByteArray))) x1 x2 (aU (x3+1)) r5.1.2.1.1.2.1 r5.1.2.1.2.1 r5.1.2.2.1.1 r5.1.2.2.2.1 r5.1.1 r5.1.2.1.1.1 r5.1.2.1.2.2.1 r5.1.2.1.2.2.2.1 r5.1.2.1.2.2.2.2.1 r5.1.2.2.1.2.1 r5.1.2.2.1.2.2.1 r5.1.2.2.1.2.2.2.1))) (L1 x0 x1 x2 (aU (x3+1)) x4 x5 x6 x7 x8 x9 x10 x11 x12 x13 x14 x15))) (some (x0,())))
def l1:Nat→T1
 | 0=>fun _ _ _ _ _ _ _ _ _ _ _ _ _ _ _ _=>none
 | n+1=>b1 k (l1 n)
def b0 (L1:T1) (L0:T0):T0:=fun x0 x1 x2 x3 x4 x5 x6 x7 x8 x9 x10 x11 x12 x13 x14 x15 =>
 (cond (decide (x3<x2)) (fW x3 (x1.length:Int) (cond (!(seq (x1.getD x3.toNat (Ty.z .str)) (⟨#[]⟩:ByteArray))) ((db.f k (x8,(((x9,(x4,())),(x5,(x10,(x11,(x12,()))))),((x6,(x13,(x14,(x15,())))),(x7,())))) (x1.getD x3.toNat (Ty.z .str))).bind fun r4=>jm r4.2.1 (⟨#[10]⟩:ByteArray) (jm x0 (r4.2.1++(⟨#[10]⟩:ByteArray)) (L1 (x0++(r4.2.1++(⟨#[10]⟩:ByteArray))) x1 x2 (aU (x3+1)) r4.1.2.1.1.2.1 r4.1.2.1.2.1 r4.1.2.2.1.1 r4.1.2.2.2.1 r4.1.1 r4.1.2.1.1.1 r4.1.2.1.2.2.1 r4.1.2.1.2.2.2.1 r4.1.2.1.2.2.2.2.1 r4.1.2.2.1.2.1 r4.1.2.2.1.2.2.1 r4.1.2.2.1.2.2.2.1))) (L0 x0 x1 x2 (aU (x3+1)) x4 x5 x6 x7 x8 x9 x10 x11 x12 x13 x14 x15))) (some (x0,())))
def l0:Nat→T0
 | 0=>fun _ _ _ _ _ _ _ _ _ _ _ _ _ _ _ _=>none
 | n+1=>b0 k (l1 k n) (l0 n)
def t (L0:T0) (a0:ByteArray):Rs :=
 ((jU.f k a0).bind fun r1=>cond (decide ((a0.size:Int) > 4000)) (some ((⟨#[]⟩:ByteArray),())) (cond (decide ((r1.1.length:Int) > 60)) (some ((⟨#[]⟩:ByteArray),())) ((jP.f k 100000).bind fun r2=>(dh.f k r2.1).bind fun r3=>L0 (⟨#[]⟩:ByteArray) r1.1 (r1.1.length:Int) 0 r3.1.2.1.1.2.1 r3.1.2.1.2.1 r3.1.2.2.1.1 r3.1.2.2.2.1 r3.1.1 r3.1.2.1.1.1 r3.1.2.1.2.2.1 r3.1.2.1.2.2.2.1 r3.1.2.1.2.2.2.2.1 r3.1.2.2.1.2.1 r3.1.2.2.1.2.2.1 r3.1.2.2.1.2.2.2.1)))
def f:=t k (l0 k k)
end fO
namespace fP
abbrev Rs:Type:=Option (Bool × Unit)
def t (a0:List Int):Rs :=
 ((og.f k a0).bind fun r1=>cond r1.1 (some (true,())) ((mQ.f k a0 0).bind fun r2=>(iM.f k r2.1).bind fun r3=>jm (⟨#[118]⟩:ByteArray) r3.1 ((mQ.f k a0 1).bind fun r4=>jm (⟨#[98,101,103,105,110,32,48,10,112,117,116,32,48,32,97,32]⟩:ByteArray) ((⟨#[118]⟩:ByteArray)++r3.1) (jm ((⟨#[98,101,103,105,110,32,48,10,112,117,116,32,48,32,97,32]⟩:ByteArray)++((⟨#[118]⟩:ByteArray)++r3.1)) (⟨#[10,112,117,116,32,48,32,98,32]⟩:ByteArray) (jm (((⟨#[98,101,103,105,110,32,48,10,112,117,116,32,48,32,97,32]⟩:ByteArray)++((⟨#[118]⟩:ByteArray)++r3.1))++(⟨#[10,112,117,116,32,48,32,98,32]⟩:ByteArray)) ((⟨#[118]⟩:ByteArray)++r3.1) (jm ((((⟨#[98,101,103,105,110,32,48,10,112,117,116,32,48,32,97,32]⟩:ByteArray)++((⟨#[118]⟩:ByteArray)++r3.1))++(⟨#[10,112,117,116,32,48,32,98,32]⟩:ByteArray))++((⟨#[118]⟩:ByteArray)++r3.1)) (⟨#[10,99,111,109,109,105,116,32,48,10,98,101,103,105,110,32,49,10,112,117,116,32,49,32,97,32,110,111,10,112,117,116,32,49,32,99,32,110,111,10,102,117,101,108,32]⟩:ByteArray) ((iM.f k (Int.tmod r4.1 4)).bind fun r5=>jm (((((⟨#[98,101,103,105,110,32,48,10,112,117,116,32,48,32,97,32]⟩:ByteArray)++((⟨#[118]⟩:ByteArray)++r3.1))++(⟨#[10,112,117,116,32,48,32,98,32]⟩:ByteArray))++((⟨#[118]⟩:ByteArray)++r3.1))++(⟨#[10,99,111,109,109,105,116,32,48,10,98,101,103,105,110,32,49,10,112,117,116,32,49,32,97,32,110,111,10,112,117,116,32,49,32,99,32,110,111,10,102,117,101,108,32]⟩:ByteArray)) r5.1 (jm ((((((⟨#[98,101,103,105,110,32,48,10,112,117,116,32,48,32,97,32]⟩:ByteArray)++((⟨#[118]⟩:ByteArray)++r3.1))++(⟨#[10,112,117,116,32,48,32,98,32]⟩:ByteArray))++((⟨#[118]⟩:ByteArray)++r3.1))++(⟨#[10,99,111,109,109,105,116,32,48,10,98,101,103,105,110,32,49,10,112,117,116,32,49,32,97,32,110,111,10,112,117,116,32,49,32,99,32,110,111,10,102,117,101,108,32]⟩:ByteArray))++r5.1) (⟨#[10,99,111,109,109,105,116,32,49,10,112,111,119,101,114,32,48,10,98,101,103,105,110,32,48,10,103,101,116,32,48,32,97,10,103,101,116,32,48,32,98,10,103,101,116,32,48,32,99,10,108,105,115,116,10]⟩:ByteArray) ((fO.f k (((((((⟨#[98,101,103,105,110,32,48,10,112,117,116,32,48,32,97,32]⟩:ByteArray)++((⟨#[118]⟩:ByteArray)++r3.1))++(⟨#[10,112,117,116,32,48,32,98,32]⟩:ByteArray))++((⟨#[118]⟩:ByteArray)++r3.1))++(⟨#[10,99,111,109,109,105,116,32,48,10,98,101,103,105,110,32,49,10,112,117,116,32,49,32,97,32,110,111,10,112,117,116,32,49,32,99,32,110,111,10,102,117,101,108,32]⟩:ByteArray))++r5.1)++(⟨#[10,99,111,109,109,105,116,32,49,10,112,111,119,101,114,32,48,10,98,101,103,105,110,32,48,10,103,101,116,32,48,32,97,10,103,101,116,32,48,32,98,10,103,101,116,32,48,32,99,10,108,105,115,116,10]⟩:ByteArray))).bind fun r6=>jm (⟨#[111,107,10,111,107,10,111,107,10,111,107,10,111,107,10,111,107,10,111,107,10,111,107,10,100,111,119,110,10,111,107,10,111,107,10,111,107,32]⟩:ByteArray) ((⟨#[118]⟩:ByteArray)++r3.1) (jm ((⟨#[111,107,10,111,107,10,111,107,10,111,107,10,111,107,10,111,107,10,111,107,10,111,107,10,100,111,119,110,10,111,107,10,111,107,10,111,107,32]⟩:ByteArray)++((⟨#[118]⟩:ByteArray)++r3.1)) (⟨#[10,111,107,32]⟩:ByteArray) (jm (((⟨#[111,107,10,111,107,10,111,107,10,111,107,10,111,107,10,111,107,10,111,107,10,111,107,10,100,111,119,110,10,111,107,10,111,107,10,111,107,32]⟩:ByteArray)++((⟨#[118]⟩:ByteArray)++r3.1))++(⟨#[10,111,107,32]⟩:ByteArray)) ((⟨#[118]⟩:ByteArray)++r3.1) (jm ((((⟨#[111,107,10,111,107,10,111,107,10,111,107,10,111,107,10,111,107,10,111,107,10,111,107,10,100,111,119,110,10,111,107,10,111,107,10,111,107,32]⟩:ByteArray)++((⟨#[118]⟩:ByteArray)++r3.1))++(⟨#[10,111,107,32]⟩:ByteArray))++((⟨#[118]⟩:ByteArray)++r3.1)) (⟨#[10,110,111,110,101,10,111,107,32,97,32,98,10]⟩:ByteArray) (some ((seq r6.1 (((((⟨#[111,107,10,111,107,10,111,107,10,111,107,10,111,107,10,111,107,10,111,107,10,111,107,10,100,111,119,110,10,111,107,10,111,107,10,111,107,32]⟩:ByteArray)++((⟨#[118]⟩:ByteArray)++r3.1))++(⟨#[10,111,107,32]⟩:ByteArray))++((⟨#[118]⟩:ByteArray)++r3.1))++(⟨#[10,110,111,110,101,10,111,107,32,97,32,98,10]⟩:ByteArray))),()))))))))))))))
def f:=t k
end fP
end Go.Proofs.YteejjngdagmofaaGreatDoor.G
