/- V's table of the types of this seat, and its checks. -/
import Derived.Test.YteejjngdagmofaaGreatDoorProg
import Derived.Test.YteejjngdagmofaaGreatDoorVS9
import Derived.Test.YteejjngdagmofaaGreatDoorVS10
import Derived.Lib.LaidTab
import Derived.Lib.ItoaNum
set_option maxRecDepth 100000
namespace Go.Proofs.YteejjngdagmofaaGreatDoor.G
open Go.V
def tb:mH:=⟨[(2,(.int .i64)),
 (3,(.int .i64)),
 (4,.bool),
 (5,(.int .u8)),
 (9,.str),
 (12,(.int .u64)),
 (21,(.int .i32)),
 (22,(.slice (.int .u8))),
 (27,(.slice .str)),
 (29,(.slice (.int .i64))),
 (30,(.pair (.int .i64) (.pair (.slice (.int .i64)) .unit))),
 (31,(.pair (.int .i64) (.pair (.slice (.int .i64)) .unit))),
 (109,(.pair .str (.pair (.int .i64) (.pair (.int .i64) (.pair (.int .i64) (.pair (.int .i64) .unit)))))),
 (32,(.slice (.pair .str (.pair (.int .i64) (.pair (.int .i64) (.pair (.int .i64) (.pair (.int .i64) .unit))))))),
 (33,(.pair (.pair (.int .i64) (.pair (.slice (.int .i64)) .unit)) (.pair (.slice (.pair .str (.pair (.int .i64) (.pair (.int .i64) (.pair (.int .i64) (.pair (.int .i64) .unit)))))) (.pair (.int .i64) (.pair (.int .i64) (.pair (.int .i64) .unit)))))),
 (34,(.pair (.pair (.int .i64) (.pair (.slice (.int .i64)) .unit)) (.pair (.slice (.pair .str (.pair (.int .i64) (.pair (.int .i64) (.pair (.int .i64) (.pair (.int .i64) .unit)))))) (.pair (.int .i64) (.pair (.int .i64) (.pair (.int .i64) .unit)))))),
 (81,(.pair .str (.pair .str (.pair (.int .i64) .unit)))),
 (35,(.slice (.pair .str (.pair .str (.pair (.int .i64) .unit))))),
 (36,(.pair (.slice (.pair .str (.pair .str (.pair (.int .i64) .unit)))) (.pair (.int .i64) (.pair (.int .i64) (.pair .bool .unit))))),
 (37,(.pair (.slice (.pair .str (.pair .str (.pair (.int .i64) .unit)))) (.pair (.int .i64) (.pair (.int .i64) (.pair .bool .unit))))),
 (181,(.pair .str (.pair (.int .i64) .unit))),
 (112,(.slice (.pair .str (.pair (.int .i64) .unit)))),
 (176,(.pair .str (.pair .bool (.pair .str .unit)))),
 (113,(.slice (.pair .str (.pair .bool (.pair .str .unit))))),
 (115,(.pair .bool (.pair (.slice (.pair .str (.pair (.int .i64) .unit))) (.pair (.slice (.pair .str (.pair .bool (.pair .str .unit)))) .unit)))),
 (38,(.slice (.pair .bool (.pair (.slice (.pair .str (.pair (.int .i64) .unit))) (.pair (.slice (.pair .str (.pair .bool (.pair .str .unit)))) .unit))))),
 (39,(.pair .bool (.pair (.pair (.pair (.int .i64) (.pair (.slice (.int .i64)) .unit)) (.pair (.slice (.pair .str (.pair (.int .i64) (.pair (.int .i64) (.pair (.int .i64) (.pair (.int .i64) .unit)))))) (.pair (.int .i64) (.pair (.int .i64) (.pair (.int .i64) .unit))))) (.pair (.pair (.slice (.pair .str (.pair .str (.pair (.int .i64) .unit)))) (.pair (.int .i64) (.pair (.int .i64) (.pair .bool .unit)))) (.pair (.slice (.pair .bool (.pair (.slice (.pair .str (.pair (.int .i64) .unit))) (.pair (.slice (.pair .str (.pair .bool (.pair .str .unit)))) .unit)))) .unit))))),
 (40,(.pair .bool (.pair (.pair (.pair (.int .i64) (.pair (.slice (.int .i64)) .unit)) (.pair (.slice (.pair .str (.pair (.int .i64) (.pair (.int .i64) (.pair (.int .i64) (.pair (.int .i64) .unit)))))) (.pair (.int .i64) (.pair (.int .i64) (.pair (.int .i64) .unit))))) (.pair (.pair (.slice (.pair .str (.pair .str (.pair (.int .i64) .unit)))) (.pair (.int .i64) (.pair (.int .i64) (.pair .bool .unit)))) (.pair (.slice (.pair .bool (.pair (.slice (.pair .str (.pair (.int .i64) .unit))) (.pair (.slice (.pair .str (.pair .bool (.pair .str .unit)))) .unit)))) .unit))))),
 (48,.opq),
 (49,(.pair (.int .i64) (.pair (.int .i64) (.pair .str (.pair .str (.pair (.int .i64) .unit)))))),
 (50,(.pair (.int .i64) (.pair (.int .i64) (.pair .str (.pair .str (.pair (.int .i64) .unit)))))),
 (53,(.pair (.int .i64) (.pair .str (.pair (.slice .str) .unit)))),
 (54,(.pair (.int .i64) (.pair .str (.pair (.slice .str) .unit)))),
 (63,.opq),
 (65,(.pair (.pair (.slice (.pair .str (.pair .str (.pair (.int .i64) .unit)))) (.pair (.int .i64) (.pair (.int .i64) (.pair .bool .unit)))) (.pair (.int .i64) .unit))),
 (66,(.pair (.pair (.slice (.pair .str (.pair .str (.pair (.int .i64) .unit)))) (.pair (.int .i64) (.pair (.int .i64) (.pair .bool .unit)))) (.pair (.int .i64) .unit))),
 (79,.opq),
 (80,(.pair .str (.pair .str (.pair (.int .i64) .unit)))),
 (149,(.pair (.int .i64) (.pair (.int .i64) (.pair .str (.pair .str (.pair (.int .i64) (.pair (.int .i64) .unit))))))),
 (151,(.pair (.int .i64) (.pair (.int .i64) (.pair (.int .i64) (.pair (.pair (.int .i64) (.pair (.int .i64) (.pair .str (.pair .str (.pair (.int .i64) (.pair (.int .i64) .unit)))))) .unit))))),
 (99,(.slice (.pair (.int .i64) (.pair (.int .i64) (.pair (.int .i64) (.pair (.pair (.int .i64) (.pair (.int .i64) (.pair .str (.pair .str (.pair (.int .i64) (.pair (.int .i64) .unit)))))) .unit)))))),
 (88,(.slice (.slice (.pair (.int .i64) (.pair (.int .i64) (.pair (.int .i64) (.pair (.pair (.int .i64) (.pair (.int .i64) (.pair .str (.pair .str (.pair (.int .i64) (.pair (.int .i64) .unit)))))) .unit))))))),
 (95,(.pair (.slice (.pair .str (.pair (.int .i64) (.pair (.int .i64) (.pair (.int .i64) (.pair (.int .i64) .unit)))))) (.pair (.int .i64) (.pair (.int .i64) .unit)))),
 (96,(.pair (.slice (.pair .str (.pair (.int .i64) (.pair (.int .i64) (.pair (.int .i64) (.pair (.int .i64) .unit)))))) (.pair (.int .i64) (.pair (.int .i64) .unit)))),
 (160,(.pair .str (.pair .str (.pair (.int .i64) .unit)))),
 (103,(.slice (.pair .str (.pair .str (.pair (.int .i64) .unit))))),
 (108,(.pair .str (.pair (.int .i64) (.pair (.int .i64) (.pair (.int .i64) (.pair (.int .i64) .unit)))))),
 (111,.opq),
 (114,(.pair .bool (.pair (.slice (.pair .str (.pair (.int .i64) .unit))) (.pair (.slice (.pair .str (.pair .bool (.pair .str .unit)))) .unit)))),
 (127,.opq),
 (128,(.pair .str (.pair .bool .unit))),
 (129,(.pair .str (.pair .bool .unit))),
 (200,(.pair (.int .i64) (.pair (.int .i64) (.pair (.pair (.int .i64) (.pair (.int .i64) (.pair .str (.pair .str (.pair (.int .i64) (.pair (.int .i64) .unit)))))) .unit)))),
 (132,(.slice (.pair (.int .i64) (.pair (.int .i64) (.pair (.pair (.int .i64) (.pair (.int .i64) (.pair .str (.pair .str (.pair (.int .i64) (.pair (.int .i64) .unit)))))) .unit))))),
 (139,.opq),
 (142,(.pair (.int .i64) (.pair (.int .i64) (.pair (.slice (.pair .str (.pair (.int .i64) (.pair (.int .i64) (.pair (.int .i64) (.pair (.int .i64) .unit)))))) .unit)))),
 (143,(.pair (.int .i64) (.pair (.int .i64) (.pair (.slice (.pair .str (.pair (.int .i64) (.pair (.int .i64) (.pair (.int .i64) (.pair (.int .i64) .unit)))))) .unit)))),
 (148,(.pair (.int .i64) (.pair (.int .i64) (.pair .str (.pair .str (.pair (.int .i64) (.pair (.int .i64) .unit))))))),
 (150,(.pair (.int .i64) (.pair (.int .i64) (.pair (.int .i64) (.pair (.pair (.int .i64) (.pair (.int .i64) (.pair .str (.pair .str (.pair (.int .i64) (.pair (.int .i64) .unit)))))) .unit))))),
 (159,(.pair .str (.pair .str (.pair (.int .i64) .unit)))),
 (166,.opq),
 (168,(.slice (.pair (.int .i64) (.pair (.int .i64) (.pair .str (.pair .str (.pair (.int .i64) (.pair (.int .i64) .unit)))))))),
 (175,(.pair .str (.pair .bool (.pair .str .unit)))),
 (180,(.pair .str (.pair (.int .i64) .unit))),
 (189,(.int .i64)),
 (192,.opq),
 (195,(.int .u64)),
 (199,(.pair (.int .i64) (.pair (.int .i64) (.pair (.pair (.int .i64) (.pair (.int .i64) (.pair .str (.pair .str (.pair (.int .i64) (.pair (.int .i64) .unit)))))) .unit)))),
 (207,.opq),
 (224,(.int .u64)),
 (238,(.int .u32)),
 (252,.opq),
 (253,.opq),
 (254,(.pair .str .unit)),
 (255,(.pair .str .unit))],
 [(30,[(0,1),(1,1)]),(31,[(0,1),(1,1)]),(109,[(0,1),(1,1),(2,1),(3,1),(4,1)]),(33,[(0,2),(2,1),(3,1),(4,1),(5,1)]),(34,[(0,2),(2,1),(3,1),(4,1),(5,1)]),(81,[(0,1),(1,1),(2,1)]),(36,[(0,1),(1,1),(2,1),(3,1)]),(37,[(0,1),(1,1),(2,1),(3,1)]),(181,[(0,1),(1,1)]),(176,[(0,1),(1,1),(2,1)]),(115,[(0,1),(1,1),(2,1)]),(39,[(0,1),(1,6),(7,4),(11,1)]),(40,[(0,1),(1,6),(7,4),(11,1)]),(49,[(0,1),(1,1),(2,1),(3,1),(4,1)]),(50,[(0,1),(1,1),(2,1),(3,1),(4,1)]),(53,[(0,1),(1,1),(2,1)]),(54,[(0,1),(1,1),(2,1)]),(65,[(0,4),(4,1)]),(66,[(0,4),(4,1)]),(80,[(0,1),(1,1),(2,1)]),(149,[(0,1),(1,1),(2,1),(3,1),(4,1),(5,1)]),(151,[(0,1),(1,1),(2,1),(3,6)]),(95,[(0,1),(1,1),(2,1)]),(96,[(0,1),(1,1),(2,1)]),(160,[(0,1),(1,1),(2,1)]),(108,[(0,1),(1,1),(2,1),(3,1),(4,1)]),(114,[(0,1),(1,1),(2,1)]),(128,[(0,1),(1,1)]),(129,[(0,1),(1,1)]),(200,[(0,1),(1,1),(2,6)]),(142,[(0,1),(1,1),(2,1)]),(143,[(0,1),(1,1),(2,1)]),(148,[(0,1),(1,1),(2,1),(3,1),(4,1),(5,1)]),(150,[(0,1),(1,1),(2,1),(3,6)]),(159,[(0,1),(1,1),(2,1)]),(175,[(0,1),(1,1),(2,1)]),(180,[(0,1),(1,1)]),(199,[(0,1),(1,1),(2,6)]),(254,[(0,1)]),(255,[(0,1)])],
 [(109,[.str,(.int .i64),(.int .i64),(.int .i64),(.int .i64)]),(81,[.str,.str,(.int .i64)]),(181,[.str,(.int .i64)]),(176,[.str,.bool,.str]),(49,[(.int .i64),(.int .i64),.str,.str,(.int .i64)]),(50,[(.int .i64),(.int .i64),.str,.str,(.int .i64)]),(80,[.str,.str,(.int .i64)]),(149,[(.int .i64),(.int .i64),.str,.str,(.int .i64),(.int .i64)]),(160,[.str,.str,(.int .i64)]),(108,[.str,(.int .i64),(.int .i64),(.int .i64),(.int .i64)]),(128,[.str,.bool]),(129,[.str,.bool]),(148,[(.int .i64),(.int .i64),.str,.str,(.int .i64),(.int .i64)]),(159,[.str,.str,(.int .i64)]),(175,[.str,.bool,.str]),(180,[.str,(.int .i64)]),(254,[.str]),(255,[.str])],
 [(30,[3,29]),(31,[3,29]),(109,[9,3,3,3,3]),(33,[31,32,3,3,3]),(34,[31,32,3,3,3]),(81,[9,9,3]),(36,[35,3,3,4]),(37,[35,3,3,4]),(181,[9,3]),(176,[9,4,9]),(115,[4,112,113]),(39,[4,34,37,38]),(40,[4,34,37,38]),(49,[3,3,9,9,3]),(50,[3,3,9,9,3]),(53,[3,9,27]),(54,[3,9,27]),(65,[37,3]),(66,[37,3]),(80,[9,9,3]),(149,[3,3,9,9,3,3]),(151,[3,3,3,149]),(95,[32,3,3]),(96,[32,3,3]),(160,[9,9,3]),(108,[9,3,3,3,3]),(114,[4,112,113]),(128,[9,4]),(129,[9,4]),(200,[3,3,149]),(142,[3,3,32]),(143,[3,3,32]),(148,[3,3,9,9,3,3]),(150,[3,3,3,149]),(159,[9,9,3]),(175,[9,4,9]),(180,[9,3]),(199,[3,3,149]),(254,[9]),(255,[9])],
 []⟩
theorem Ja:cM Tryz.prog tb=true:=by kernel_rfl
def Tt:mH:=⟨tb.ty.filter fun p=>(V.look tb.arr p.1).isNone,tb.off,tb.eqs,tb.fty,[]⟩
theorem Ro:cM Tryz.prog Tt=true:=by kernel_rfl
theorem QU:mw Tt=true:=by kernel_rfl
theorem ED:Gb Tryz.prog tb=true:=by kernel_rfl
theorem mixed:Tryz.prog.follows .mixedOrders=true:=by kernel_rfl
theorem RF:Tryz.prog.globalNamed "internal/strconv.uint64pow10" = some 5:=by kernel_rfl
theorem TQ:Tryz.prog.globalNamed "strconv.ErrSyntax" = some 1:=by kernel_rfl
theorem Sz:Tryz.prog.globalNamed "strconv.ErrRange" = some 2:=by kernel_rfl
theorem wz {P:Program} {w w':World} {name:String} {i n:Nat} (hg:P.globalNamed name=some i) (hi:i<n) (h:∀ k,k<n→w'.heap[k]?=w.heap[k]?):w'.var? P name=w.var? P name:=by
 unfold World.var?
 rw [hg,Option.bind_some,Option.bind_some,h i hi]
theorem Ii {w w':World} {i n:Nat} (hi:i<n) (h:∀ k,k<n→w'.heap[k]?=w.heap[k]?):w'.cell? ⟨i,0,none⟩=w.cell? ⟨i,0,none⟩:=by
 unfold World.cell?
 rw [h i hi]
def J:Gl where
 n:=6
 ok:=fun w=>6≤w.heap.size∧Lib.TabIs Tryz.prog w "internal/strconv.uint64pow10" .u64 Lib.pow10Tab∧(∃ t p,w.var? Tryz.prog "strconv.ErrSyntax" = some #[.iface t p])∧(∃ t p,w.var? Tryz.prog "strconv.ErrRange" = some #[.iface t p])∧(∃ m,w.cell? ⟨0,0,none⟩=some (.int .i64 m))∧True
 lt:=fun w h=>h.1
 frame:=fun w w' h hb hs=>⟨Nat.le_trans h.1 hs,(by unfold Lib.TabIs;rw [wz RF (by decide) hb];exact h.2.1),(by rw [wz TQ (by decide) hb];exact h.2.2.1),(by rw [wz Sz (by decide) hb];exact h.2.2.2.1),(by rw [Ii (by decide) hb];exact h.2.2.2.2.1),trivial⟩
def bt:Nat→Nat→List Bool
 | 0,_=>[]
 | d+1,n=>(n % 2==1)::bt d (n/2)
noncomputable def Tw {R:Type} (E:ku) (c:Code) (g:Nat) (lv:List Nat) (K:Ex→St→Option R) (n:Nat):Ex→St→Option R:=fun e st=>match e with
 | .normal=>cT (di E c) (cE g lv) K n (cE g lv st)
 | .ret=>K .ret st
 | .exit j=>K (.exit j) st
theorem bE {α:Type} {V l:Nat→α} {b:α→α} (h0:V 0=l 0) (hs:∀ n,V (n+1)=b (V n)) (hl:∀ n,l (n+1)=b (l n)):V=l :=
 funext fun n=>by
  induction n with
  | zero=>exact h0
  | succ n ih=>rw [hs,hl,ih]
def Qu (P:Program) (ct:List (Nat × Cn)):Prop:=∀ g c,V.look ct g=some c→HZ J P (g % 100000) c
theorem Qu.nil {P:Program}:Qu P []:=fun g c h=>by cases h
theorem Qu.cons {P:Program} {f o:Nat} {c:Cn} {ct:List (Nat × Cn)} (h:HZ J P f c) (hf:f<100000) (t:Qu P ct):Qu P ((f+100000*o,c)::ct):=fun g d q=>by
 simp only [V.look] at q
 cases hb:Nat.beq (f+100000*o) g with
 | true=>rw [hb] at q;cases q;rw [← Nat.eq_of_beq_eq_true hb,show (f+100000*o) % 100000=f by omega];exact h
 | false=>rw [hb] at q;exact t g d q
structure Ce where
 f:Nat
 c:Cn
 h:HZ J Tryz.prog f c
def q {f:Nat} {c:Cn} (h:HZ J Tryz.prog f c):Ce:=⟨f,c,h⟩
def OW:List Ce→List (Nat × Cn)
 | []=>[]
 | e::l=>bif Nat.blt e.f 100000 then (e.f+100000*TR e.c.A,e.c)::OW l else OW l
theorem Cf:∀ l:List Ce,Qu Tryz.prog (OW l)
 | []=>Qu.nil
 | e::l=>by
  unfold OW
  cases hb:Nat.blt e.f 100000 with
  | true=>exact Qu.cons e.h (by simpa using hb) (Cf l)
  | false=>exact Cf l
def en (D:List Ce) (lv:List (Nat × List Nat)) (g:Nat) (jn:List (Nat × List Nat)) (k:Nat):ku:=⟨tb,OW D,lv,k,g,jn⟩
noncomputable def eK (E:ku) (f:Func) (c:Cn) (x:(tup (pE c.A)).d):Ex→St→Option (tup (gx c.A++c.R)).d:=T9 E f.results.toList c.A x c.R c.fresh c.al
noncomputable def rn (E:ku) (f:Func) (c:Cn) (x:(tup (pE c.A)).d):Option (tup (gx c.A++c.R)).d:=run E f c.A c.R c.fresh c.al x
abbrev Cp (f:Nat) (c:Cn):Prop:=HZ J Tryz.prog f c
theorem Sn:Tryz.prog.funcs.toList.all (fun g=>!(g.name == "runtime.NumGoroutine"))=true:=by kernel_rfl
theorem nm {f:Nat} {fn:Func} (hf:Tryz.prog.funcs[f]?=some fn):(fn.name == "runtime.NumGoroutine")=false:=by
 have h:=List.all_eq_true.1 Sn fn (List.mem_of_getElem? (by rw [Array.getElem?_toList];exact hf))
 simpa using h
def gU (f:Func) (d n:Nat):Code:=at_ (bt d n) (body f)
theorem ry {f:Nat} {fn:Func} {b:Code} {c:Cn} {lv jn:List (Nat × List Nat)} {k:Nat} (D:List Ce) {E:ku} (hE:E=en D lv (cI c.A) jn k) (hbx:pa c.R=false) (hf:Tryz.prog.funcs[f]?=some fn) (hb:fn.body=some b)
 (hg:∀ x,rn E fn c x=c.fn x):Cp f c:=by
 obtain ⟨A,R,fr,al,fn'⟩:=c
 subst hE
 exact KS (E:=en D lv (cI A) jn k) hbx mixed Ja (yn ED) (Cf D) rfl hf (nm hf) hb fun x r h=>(hg x).trans h
theorem rz {f:Nat} {fn:Func} {b:Code} {c:Cn} (k:Nat) (hbx:pa c.R=false) (D:List Ce) (hf:Tryz.prog.funcs[f]?=some fn) (hb:fn.body=some b) (hg:∀ x,rn (en D [] (cI c.A) [] k) fn c x=c.fn x):Cp f c:=ry D rfl hbx hf hb hg
end Go.Proofs.YteejjngdagmofaaGreatDoor.G
