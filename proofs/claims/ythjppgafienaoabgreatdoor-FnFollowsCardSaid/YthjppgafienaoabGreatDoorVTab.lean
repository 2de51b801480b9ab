/- V's table of the types of this seat, and its checks. -/
import Derived.Test.YthjppgafienaoabGreatDoorProg
import Derived.Test.YthjppgafienaoabGreatDoorVS9
import Derived.Test.YthjppgafienaoabGreatDoorVS10
import Derived.Lib.LaidTab
import Derived.Lib.ItoaNum
set_option linter.unusedVariables false
set_option linter.unusedSimpArgs false
set_option maxRecDepth 100000
namespace Go.Proofs.YthjppgafienaoabGreatDoor.G
open Go.V
def tb:lD:=⟨[(2,(.int .i64)),
 (3,(.int .i64)),
 (4,.bool),
 (5,(.int .u8)),
 (9,.str),
 (12,(.int .u64)),
 (21,(.int .i32)),
 (22,(.slice (.int .u8))),
 (24,(.slice (.int .i64))),
 (25,(.pair (.int .i64) (.pair (.slice (.int .i64)) .unit))),
 (26,(.pair (.int .i64) (.pair (.slice (.int .i64)) .unit))),
 (88,(.pair .str (.pair (.int .i64) (.pair (.int .i64) (.pair (.int .i64) (.pair (.int .i64) .unit)))))),
 (27,(.slice (.pair .str (.pair (.int .i64) (.pair (.int .i64) (.pair (.int .i64) (.pair (.int .i64) .unit))))))),
 (28,(.pair (.pair (.int .i64) (.pair (.slice (.int .i64)) .unit)) (.pair (.slice (.pair .str (.pair (.int .i64) (.pair (.int .i64) (.pair (.int .i64) (.pair (.int .i64) .unit)))))) (.pair (.int .i64) (.pair (.int .i64) (.pair (.int .i64) .unit)))))),
 (29,(.pair (.pair (.int .i64) (.pair (.slice (.int .i64)) .unit)) (.pair (.slice (.pair .str (.pair (.int .i64) (.pair (.int .i64) (.pair (.int .i64) (.pair (.int .i64) .unit)))))) (.pair (.int .i64) (.pair (.int .i64) (.pair (.int .i64) .unit)))))),
 (133,(.pair .str (.pair .str (.pair (.int .i64) .unit)))),
 (30,(.slice (.pair .str (.pair .str (.pair (.int .i64) .unit))))),
 (31,(.pair (.slice (.pair .str (.pair .str (.pair (.int .i64) .unit)))) (.pair (.int .i64) (.pair (.int .i64) (.pair .bool .unit))))),
 (32,(.pair (.slice (.pair .str (.pair .str (.pair (.int .i64) .unit)))) (.pair (.int .i64) (.pair (.int .i64) (.pair .bool .unit))))),
 (227,(.pair .str (.pair (.int .i64) .unit))),
 (115,(.slice (.pair .str (.pair (.int .i64) .unit)))),
 (165,(.pair .str (.pair .bool (.pair .str .unit)))),
 (38,(.slice (.pair .str (.pair .bool (.pair .str .unit))))),
 (117,(.pair .bool (.pair (.slice (.pair .str (.pair (.int .i64) .unit))) (.pair (.slice (.pair .str (.pair .bool (.pair .str .unit)))) .unit)))),
 (33,(.slice (.pair .bool (.pair (.slice (.pair .str (.pair (.int .i64) .unit))) (.pair (.slice (.pair .str (.pair .bool (.pair .str .unit)))) .unit))))),
 (34,(.pair .bool (.pair (.pair (.pair (.int .i64) (.pair (.slice (.int .i64)) .unit)) (.pair (.slice (.pair .str (.pair (.int .i64) (.pair (.int .i64) (.pair (.int .i64) (.pair (.int .i64) .unit)))))) (.pair (.int .i64) (.pair (.int .i64) (.pair (.int .i64) .unit))))) (.pair (.pair (.slice (.pair .str (.pair .str (.pair (.int .i64) .unit)))) (.pair (.int .i64) (.pair (.int .i64) (.pair .bool .unit)))) (.pair (.slice (.pair .bool (.pair (.slice (.pair .str (.pair (.int .i64) .unit))) (.pair (.slice (.pair .str (.pair .bool (.pair .str .unit)))) .unit)))) .unit))))),
 (35,(.pair .bool (.pair (.pair (.pair (.int .i64) (.pair (.slice (.int .i64)) .unit)) (.pair (.slice (.pair .str (.pair (.int .i64) (.pair (.int .i64) (.pair (.int .i64) (.pair (.int .i64) .unit)))))) (.pair (.int .i64) (.pair (.int .i64) (.pair (.int .i64) .unit))))) (.pair (.pair (.slice (.pair .str (.pair .str (.pair (.int .i64) .unit)))) (.pair (.int .i64) (.pair (.int .i64) (.pair .bool .unit)))) (.pair (.slice (.pair .bool (.pair (.slice (.pair .str (.pair (.int .i64) .unit))) (.pair (.slice (.pair .str (.pair .bool (.pair .str .unit)))) .unit)))) .unit))))),
 (119,(.slice .str)),
 (121,(.pair (.int .i64) (.pair .str (.pair (.slice .str) .unit)))),
 (36,(.slice (.pair (.int .i64) (.pair .str (.pair (.slice .str) .unit))))),
 (125,(.pair (.int .i64) (.pair (.slice (.pair .str (.pair .bool (.pair .str .unit)))) .unit))),
 (37,(.slice (.pair (.int .i64) (.pair (.slice (.pair .str (.pair .bool (.pair .str .unit)))) .unit)))),
 (39,(.pair (.pair .bool (.pair (.pair (.pair (.int .i64) (.pair (.slice (.int .i64)) .unit)) (.pair (.slice (.pair .str (.pair (.int .i64) (.pair (.int .i64) (.pair (.int .i64) (.pair (.int .i64) .unit)))))) (.pair (.int .i64) (.pair (.int .i64) (.pair (.int .i64) .unit))))) (.pair (.pair (.slice (.pair .str (.pair .str (.pair (.int .i64) .unit)))) (.pair (.int .i64) (.pair (.int .i64) (.pair .bool .unit)))) (.pair (.slice (.pair .bool (.pair (.slice (.pair .str (.pair (.int .i64) .unit))) (.pair (.slice (.pair .str (.pair .bool (.pair .str .unit)))) .unit)))) .unit)))) (.pair (.slice (.pair (.int .i64) (.pair .str (.pair (.slice .str) .unit)))) (.pair (.slice (.pair (.int .i64) (.pair (.slice (.pair .str (.pair .bool (.pair .str .unit)))) .unit))) (.pair (.slice (.pair .str (.pair .bool (.pair .str .unit)))) .unit))))),
 (40,(.pair (.pair .bool (.pair (.pair (.pair (.int .i64) (.pair (.slice (.int .i64)) .unit)) (.pair (.slice (.pair .str (.pair (.int .i64) (.pair (.int .i64) (.pair (.int .i64) (.pair (.int .i64) .unit)))))) (.pair (.int .i64) (.pair (.int .i64) (.pair (.int .i64) .unit))))) (.pair (.pair (.slice (.pair .str (.pair .str (.pair (.int .i64) .unit)))) (.pair (.int .i64) (.pair (.int .i64) (.pair .bool .unit)))) (.pair (.slice (.pair .bool (.pair (.slice (.pair .str (.pair (.int .i64) .unit))) (.pair (.slice (.pair .str (.pair .bool (.pair .str .unit)))) .unit)))) .unit)))) (.pair (.slice (.pair (.int .i64) (.pair .str (.pair (.slice .str) .unit)))) (.pair (.slice (.pair (.int .i64) (.pair (.slice (.pair .str (.pair .bool (.pair .str .unit)))) .unit))) (.pair (.slice (.pair .str (.pair .bool (.pair .str .unit)))) .unit))))),
 (114,(.pair (.int .i64) (.pair (.int .i64) (.pair .str (.pair .str (.pair (.int .i64) .unit)))))),
 (42,(.slice (.pair (.int .i64) (.pair (.int .i64) (.pair .str (.pair .str (.pair (.int .i64) .unit))))))),
 (43,(.pair (.int .i64) (.pair (.int .i64) (.pair (.slice (.pair (.int .i64) (.pair (.int .i64) (.pair .str (.pair .str (.pair (.int .i64) .unit)))))) .unit)))),
 (44,(.pair (.int .i64) (.pair (.int .i64) (.pair (.slice (.pair (.int .i64) (.pair (.int .i64) (.pair .str (.pair .str (.pair (.int .i64) .unit)))))) .unit)))),
 (94,(.pair (.int .i64) (.pair (.int .i64) (.pair .str .unit)))),
 (48,(.slice (.pair (.int .i64) (.pair (.int .i64) (.pair .str .unit))))),
 (49,(.pair (.int .i64) (.pair (.slice (.pair (.int .i64) (.pair (.int .i64) (.pair .str .unit)))) .unit))),
 (50,(.pair (.int .i64) (.pair (.slice (.pair (.int .i64) (.pair (.int .i64) (.pair .str .unit)))) .unit))),
 (99,(.pair (.int .i64) (.pair .str .unit))),
 (52,(.slice (.pair (.int .i64) (.pair .str .unit)))),
 (53,(.pair (.int .i64) (.pair (.slice (.pair (.int .i64) (.pair .str .unit))) .unit))),
 (54,(.pair (.int .i64) (.pair (.slice (.pair (.int .i64) (.pair .str .unit))) .unit))),
 (106,(.pair .str (.pair .str (.pair (.int .i64) .unit)))),
 (59,(.slice (.pair .str (.pair .str (.pair (.int .i64) .unit))))),
 (72,.opq),
 (90,(.pair (.int .i64) (.pair (.int .i64) (.pair .str (.pair .str (.pair (.int .i64) (.pair (.int .i64) .unit))))))),
 (139,(.pair (.int .i64) (.pair (.int .i64) (.pair (.pair (.int .i64) (.pair (.int .i64) (.pair .str (.pair .str (.pair (.int .i64) (.pair (.int .i64) .unit)))))) .unit)))),
 (84,(.slice (.pair (.int .i64) (.pair (.int .i64) (.pair (.pair (.int .i64) (.pair (.int .i64) (.pair .str (.pair .str (.pair (.int .i64) (.pair (.int .i64) .unit)))))) .unit))))),
 (87,(.pair .str (.pair (.int .i64) (.pair (.int .i64) (.pair (.int .i64) (.pair (.int .i64) .unit)))))),
 (89,(.pair (.int .i64) (.pair (.int .i64) (.pair .str (.pair .str (.pair (.int .i64) (.pair (.int .i64) .unit))))))),
 (93,(.pair (.int .i64) (.pair (.int .i64) (.pair .str .unit)))),
 (98,(.pair (.int .i64) (.pair .str .unit))),
 (142,(.pair (.int .i64) (.pair (.int .i64) (.pair (.int .i64) (.pair (.pair (.int .i64) (.pair (.int .i64) (.pair .str (.pair .str (.pair (.int .i64) (.pair (.int .i64) .unit)))))) .unit))))),
 (100,(.slice (.pair (.int .i64) (.pair (.int .i64) (.pair (.int .i64) (.pair (.pair (.int .i64) (.pair (.int .i64) (.pair .str (.pair .str (.pair (.int .i64) (.pair (.int .i64) .unit)))))) .unit)))))),
 (102,(.pair (.slice (.pair .str (.pair (.int .i64) (.pair (.int .i64) (.pair (.int .i64) (.pair (.int .i64) .unit)))))) (.pair (.int .i64) (.pair (.int .i64) .unit)))),
 (103,(.pair (.slice (.pair .str (.pair (.int .i64) (.pair (.int .i64) (.pair (.int .i64) (.pair (.int .i64) .unit)))))) (.pair (.int .i64) (.pair (.int .i64) .unit)))),
 (105,(.pair .str (.pair .str (.pair (.int .i64) .unit)))),
 (113,(.pair (.int .i64) (.pair (.int .i64) (.pair .str (.pair .str (.pair (.int .i64) .unit)))))),
 (116,(.pair .bool (.pair (.slice (.pair .str (.pair (.int .i64) .unit))) (.pair (.slice (.pair .str (.pair .bool (.pair .str .unit)))) .unit)))),
 (120,(.pair (.int .i64) (.pair .str (.pair (.slice .str) .unit)))),
 (124,(.pair (.int .i64) (.pair (.slice (.pair .str (.pair .bool (.pair .str .unit)))) .unit))),
 (126,(.pair (.slice (.int .u8)) (.pair (.int .i64) (.pair (.int .i64) .unit)))),
 (127,(.pair (.slice (.int .u8)) (.pair (.int .i64) (.pair (.int .i64) .unit)))),
 (132,(.pair .str (.pair .str (.pair (.int .i64) .unit)))),
 (138,(.pair (.int .i64) (.pair (.int .i64) (.pair (.pair (.int .i64) (.pair (.int .i64) (.pair .str (.pair .str (.pair (.int .i64) (.pair (.int .i64) .unit)))))) .unit)))),
 (141,(.pair (.int .i64) (.pair (.int .i64) (.pair (.int .i64) (.pair (.pair (.int .i64) (.pair (.int .i64) (.pair .str (.pair .str (.pair (.int .i64) (.pair (.int .i64) .unit)))))) .unit))))),
 (155,(.pair (.int .i64) (.pair (.int .i64) (.pair (.slice (.pair .str (.pair (.int .i64) (.pair (.int .i64) (.pair (.int .i64) (.pair (.int .i64) .unit)))))) .unit)))),
 (156,(.pair (.int .i64) (.pair (.int .i64) (.pair (.slice (.pair .str (.pair (.int .i64) (.pair (.int .i64) (.pair (.int .i64) (.pair (.int .i64) .unit)))))) .unit)))),
 (164,(.pair .str (.pair .bool (.pair .str .unit)))),
 (173,(.slice .bool)),
 (175,(.int .u64)),
 (184,.opq),
 (185,(.pair .str (.pair .bool .unit))),
 (186,(.pair .str (.pair .bool .unit))),
 (190,(.slice (.pair (.int .i64) (.pair (.int .i64) (.pair .str (.pair .str (.pair (.int .i64) (.pair (.int .i64) .unit)))))))),
 (192,.opq),
 (226,(.pair .str (.pair (.int .i64) .unit))),
 (229,(.int .u32)),
 (238,(.int .u64)),
 (259,.opq)],
 [(25,[(0,1),(1,1)]),(26,[(0,1),(1,1)]),(88,[(0,1),(1,1),(2,1),(3,1),(4,1)]),(28,[(0,2),(2,1),(3,1),(4,1),(5,1)]),(29,[(0,2),(2,1),(3,1),(4,1),(5,1)]),(133,[(0,1),(1,1),(2,1)]),(31,[(0,1),(1,1),(2,1),(3,1)]),(32,[(0,1),(1,1),(2,1),(3,1)]),(227,[(0,1),(1,1)]),(165,[(0,1),(1,1),(2,1)]),(117,[(0,1),(1,1),(2,1)]),(34,[(0,1),(1,6),(7,4),(11,1)]),(35,[(0,1),(1,6),(7,4),(11,1)]),(121,[(0,1),(1,1),(2,1)]),(125,[(0,1),(1,1)]),(39,[(0,12),(12,1),(13,1),(14,1)]),(40,[(0,12),(12,1),(13,1),(14,1)]),(114,[(0,1),(1,1),(2,1),(3,1),(4,1)]),(43,[(0,1),(1,1),(2,1)]),(44,[(0,1),(1,1),(2,1)]),(94,[(0,1),(1,1),(2,1)]),(49,[(0,1),(1,1)]),(50,[(0,1),(1,1)]),(99,[(0,1),(1,1)]),(53,[(0,1),(1,1)]),(54,[(0,1),(1,1)]),(106,[(0,1),(1,1),(2,1)]),(90,[(0,1),(1,1),(2,1),(3,1),(4,1),(5,1)]),(139,[(0,1),(1,1),(2,6)]),(87,[(0,1),(1,1),(2,1),(3,1),(4,1)]),(89,[(0,1),(1,1),(2,1),(3,1),(4,1),(5,1)]),(93,[(0,1),(1,1),(2,1)]),(98,[(0,1),(1,1)]),(142,[(0,1),(1,1),(2,1),(3,6)]),(102,[(0,1),(1,1),(2,1)]),(103,[(0,1),(1,1),(2,1)]),(105,[(0,1),(1,1),(2,1)]),(113,[(0,1),(1,1),(2,1),(3,1),(4,1)]),(116,[(0,1),(1,1),(2,1)]),(120,[(0,1),(1,1),(2,1)]),(124,[(0,1),(1,1)]),(126,[(0,1),(1,1),(2,1)]),(127,[(0,1),(1,1),(2,1)]),(132,[(0,1),(1,1),(2,1)]),(138,[(0,1),(1,1),(2,6)]),(141,[(0,1),(1,1),(2,1),(3,6)]),(155,[(0,1),(1,1),(2,1)]),(156,[(0,1),(1,1),(2,1)]),(164,[(0,1),(1,1),(2,1)]),(185,[(0,1),(1,1)]),(186,[(0,1),(1,1)]),(226,[(0,1),(1,1)])],
 [(88,[.str,(.int .i64),(.int .i64),(.int .i64),(.int .i64)]),(133,[.str,.str,(.int .i64)]),(227,[.str,(.int .i64)]),(165,[.str,.bool,.str]),(114,[(.int .i64),(.int .i64),.str,.str,(.int .i64)]),(94,[(.int .i64),(.int .i64),.str]),(99,[(.int .i64),.str]),(106,[.str,.str,(.int .i64)]),(90,[(.int .i64),(.int .i64),.str,.str,(.int .i64),(.int .i64)]),(87,[.str,(.int .i64),(.int .i64),(.int .i64),(.int .i64)]),(89,[(.int .i64),(.int .i64),.str,.str,(.int .i64),(.int .i64)]),(93,[(.int .i64),(.int .i64),.str]),(98,[(.int .i64),.str]),(105,[.str,.str,(.int .i64)]),(113,[(.int .i64),(.int .i64),.str,.str,(.int .i64)]),(132,[.str,.str,(.int .i64)]),(164,[.str,.bool,.str]),(185,[.str,.bool]),(186,[.str,.bool]),(226,[.str,(.int .i64)])],
 [(25,[3,24]),(26,[3,24]),(88,[9,3,3,3,3]),(28,[26,27,3,3,3]),(29,[26,27,3,3,3]),(133,[9,9,3]),(31,[30,3,3,4]),(32,[30,3,3,4]),(227,[9,3]),(165,[9,4,9]),(117,[4,115,38]),(34,[4,29,32,33]),(35,[4,29,32,33]),(121,[3,9,119]),(125,[3,38]),(39,[35,36,37,38]),(40,[35,36,37,38]),(114,[3,3,9,9,3]),(43,[3,3,42]),(44,[3,3,42]),(94,[3,3,9]),(49,[3,48]),(50,[3,48]),(99,[3,9]),(53,[3,52]),(54,[3,52]),(106,[9,9,3]),(90,[3,3,9,9,3,3]),(139,[3,3,90]),(87,[9,3,3,3,3]),(89,[3,3,9,9,3,3]),(93,[3,3,9]),(98,[3,9]),(142,[3,3,3,90]),(102,[27,3,3]),(103,[27,3,3]),(105,[9,9,3]),(113,[3,3,9,9,3]),(116,[4,115,38]),(120,[3,9,119]),(124,[3,38]),(126,[22,3,3]),(127,[22,3,3]),(132,[9,9,3]),(138,[3,3,90]),(141,[3,3,3,90]),(155,[3,3,27]),(156,[3,3,27]),(164,[9,4,9]),(185,[9,4]),(186,[9,4]),(226,[9,3])]⟩
theorem Ht:cR Tryz.prog tb=true:=by kernel_rfl
theorem J7:lp tb=true:=by kernel_rfl
theorem HG:BD Tryz.prog tb=true:=by kernel_rfl
theorem mixed:Tryz.prog.follows .mixedOrders=true:=by kernel_rfl
theorem K6:Tryz.prog.globalNamed "internal/strconv.uint64pow10" = some 0:=by kernel_rfl
theorem Gf {P:Program} {w w':World} {name:String} {i n:Nat} (hg:P.globalNamed name=some i) (hi:i<n) (h:∀ k,k<n→w'.heap[k]?=w.heap[k]?):w'.var? P name=w.var? P name:=by
 unfold World.var?
 rw [hg,Option.bind_some,Option.bind_some,h i hi]
def J:Gl where
 n:=1
 ok:=fun w=>1≤w.heap.size∧Lib.TabIs Tryz.prog w "internal/strconv.uint64pow10" .u64 Lib.pow10Tab∧True
 lt:=fun w h=>h.1
 frame:=fun w w' h hb hs=>⟨Nat.le_trans h.1 hs,(by unfold Lib.TabIs;rw [Gf K6 (by decide) hb];exact h.2.1),trivial⟩
def bt:Nat→Nat→List Bool
 | 0,_=>[]
 | d+1,n=>(n % 2==1)::bt d (n/2)
noncomputable def Kt {R:Type} (E:dI) (c:Code) (g:Nat) (lv:List Nat) (K:Ex→St→Option R) (n:Nat):Ex→St→Option R:=fun e st=>match e with
 | .normal=>aq (bn E c) (an g lv) K n (an g lv st)
 | .ret=>K .ret st
 | .exit j=>K (.exit j) st
theorem aZ {α:Type} {V l:Nat→α} {b:α→α} (h0:V 0=l 0) (hs:∀ n,V (n+1)=b (V n)) (hl:∀ n,l (n+1)=b (l n)):V=l :=
 funext fun n=>by
  induction n with
  | zero=>exact h0
  | succ n ih=>rw [hs,hl,ih]
def JV (P:Program) (ct:List (Nat × Cn)):Prop:=∀ g c,V.look ct g=some c→Ds J P g c
theorem JV.nil {P:Program}:JV P []:=fun g c h=>by cases h
theorem JV.cons {P:Program} {f:Nat} {c:Cn} {ct:List (Nat × Cn)} (h:Ds J P f c) (t:JV P ct):JV P ((f,c)::ct):=fun g d q=>by
 simp only [V.look] at q
 cases hb:Nat.beq f g with
 | true=>rw [hb] at q;cases q;rw [← Nat.eq_of_beq_eq_true hb];exact h
 | false=>rw [hb] at q;exact t g d q
structure Ce where
 f:Nat
 c:Cn
 h:Ds J Tryz.prog f c
def q {f:Nat} {c:Cn} (h:Ds J Tryz.prog f c):Ce:=⟨f,c,h⟩
def Jv:List Ce→List (Nat × Cn)
 | []=>[]
 | e::l=>(e.f,e.c)::Jv l
theorem I4:∀ l:List Ce,JV Tryz.prog (Jv l)
 | []=>JV.nil
 | e::l=>JV.cons e.h (I4 l)
def en (D:List Ce) (lv:List (Nat × List Nat)) (g:Nat) (jn:List (Nat × List Nat)) (k:Nat):dI:=⟨tb,Jv D,lv,k,g,jn⟩
noncomputable def eK (E:dI) (f:Func) (c:Cn) (x:(tup (nM c.A)).d):Ex→St→Option (tup (gC c.A++c.R)).d:=LK E f.results.toList c.A x c.R c.fresh c.al
noncomputable def eB (E:dI) (f:Func) (c:Cn) (x:(tup (nM c.A)).d):Ex→St→Option (tup (gC c.A++c.R)).d:=LN E f.results.toList c.A x c.R
noncomputable def rn (E:dI) (f:Func) (c:Cn) (x:(tup (nM c.A)).d):Option (tup (gC c.A++c.R)).d:=run E f c.A c.R c.fresh c.al x
noncomputable def rb (E:dI) (f:Func) (c:Cn) (x:(tup (nM c.A)).d):Option (tup (gC c.A++c.R)).d:=Kk E f c.A c.R x
abbrev Cp (f:Nat) (c:Cn):Prop:=Ds J Tryz.prog f c
theorem rc {f:Nat} {fn:Func} {b:Code} {c:Cn} {lv jn:List (Nat × List Nat)} {g k:Nat} (hbx:rH c.R=false) (D:List Ce) (hEg:g=cK c.A) (hf:Tryz.prog.funcs[f]?=some fn) (hname:(fn.name == "runtime.NumGoroutine")=false) (hb:fn.body=some b)
 (hg:∀ x r,c.fn x=some r→rn (en D lv g jn k) fn c x=some r):Cp f c:=by
 obtain ⟨A,R,fr,al,fn'⟩:=c
 exact J_ (E:=en D lv g jn k) hbx mixed Ht (FG HG) (I4 D) hEg hf hname hb hg
theorem Ll {f:Nat} {fn:Func} {b:Code} {c:Cn} {lv jn:List (Nat × List Nat)} {g k:Nat} (hfr:c.fresh=false) (hal:c.al=true) (hbx:rH c.R=true) (D:List Ce) (hEg:g=cK c.A) (hf:Tryz.prog.funcs[f]?=some fn) (hname:(fn.name == "runtime.NumGoroutine")=false) (hb:fn.body=some b)
 (hg:∀ x r,c.fn x=some r→rb (en D lv g jn k) fn c x=some r):Cp f c:=by
 obtain ⟨A,R,fr,al,fn'⟩:=c
 cases hfr
 cases hal
 exact Ir (E:=en D lv g jn k) hbx mixed Ht (FG HG) (I4 D) hEg hf hname hb hg
end Go.Proofs.YthjppgafienaoabGreatDoor.G
