/- V's table of the types of this seat, and its checks. -/
import Derived.Test.YtejgkmhpmhfnbaaGreatDoorProg
import Derived.Test.YtejgkmhpmhfnbaaGreatDoorVS9
import Derived.Test.YtejgkmhpmhfnbaaGreatDoorVS10
import Derived.Lib.LaidTab
import Derived.Lib.ItoaNum
set_option maxRecDepth 100000
namespace Go.Proofs.YtejgkmhpmhfnbaaGreatDoor.G
open Go.V
def tb:Tab:=⟨[(2,(.int .i64)),
 (3,(.int .i64)),
 (4,.bool),
 (5,(.int .u8)),
 (9,.str),
 (12,(.int .u64)),
 (21,(.int .i32)),
 (124,(.pair .str (.pair (.int .i64) (.pair .str .unit)))),
 (22,(.slice (.pair .str (.pair (.int .i64) (.pair .str .unit))))),
 (23,(.pair (.int .i64) (.pair (.slice (.pair .str (.pair (.int .i64) (.pair .str .unit)))) (.pair (.int .i64) .unit)))),
 (24,(.pair (.int .i64) (.pair (.slice (.pair .str (.pair (.int .i64) (.pair .str .unit)))) (.pair (.int .i64) .unit)))),
 (25,(.slice (.int .i64))),
 (26,(.pair (.int .i64) (.pair (.slice (.int .i64)) .unit))),
 (27,(.pair (.int .i64) (.pair (.slice (.int .i64)) .unit))),
 (126,(.pair .str (.pair (.int .i64) (.pair (.int .i64) (.pair (.int .i64) (.pair (.int .i64) .unit)))))),
 (28,(.slice (.pair .str (.pair (.int .i64) (.pair (.int .i64) (.pair (.int .i64) (.pair (.int .i64) .unit))))))),
 (29,(.pair (.pair (.int .i64) (.pair (.slice (.int .i64)) .unit)) (.pair (.slice (.pair .str (.pair (.int .i64) (.pair (.int .i64) (.pair (.int .i64) (.pair (.int .i64) .unit)))))) (.pair (.int .i64) (.pair (.int .i64) (.pair (.int .i64) .unit)))))),
 (30,(.pair (.pair (.int .i64) (.pair (.slice (.int .i64)) .unit)) (.pair (.slice (.pair .str (.pair (.int .i64) (.pair (.int .i64) (.pair (.int .i64) (.pair (.int .i64) .unit)))))) (.pair (.int .i64) (.pair (.int .i64) (.pair (.int .i64) .unit)))))),
 (129,(.pair .str (.pair .str (.pair (.int .i64) .unit)))),
 (31,(.slice (.pair .str (.pair .str (.pair (.int .i64) .unit))))),
 (32,(.pair (.slice (.pair .str (.pair .str (.pair (.int .i64) .unit)))) (.pair (.int .i64) (.pair (.int .i64) (.pair .bool .unit))))),
 (33,(.pair (.slice (.pair .str (.pair .str (.pair (.int .i64) .unit)))) (.pair (.int .i64) (.pair (.int .i64) (.pair .bool .unit))))),
 (89,(.pair .str (.pair (.int .i64) (.pair .str .unit)))),
 (37,(.slice (.pair .str (.pair (.int .i64) (.pair .str .unit))))),
 (38,(.pair (.int .i64) (.pair (.slice (.pair .str (.pair (.int .i64) (.pair .str .unit)))) (.pair (.int .i64) .unit)))),
 (39,(.pair (.int .i64) (.pair (.slice (.pair .str (.pair (.int .i64) (.pair .str .unit)))) (.pair (.int .i64) .unit)))),
 (40,(.pair .str (.pair .str (.pair (.int .i64) .unit)))),
 (41,(.pair .str (.pair .str (.pair (.int .i64) .unit)))),
 (45,(.pair (.int .i64) (.pair (.slice (.int .i64)) .unit))),
 (85,(.pair .str (.pair (.int .i64) (.pair (.int .i64) (.pair (.int .i64) (.pair (.int .i64) .unit)))))),
 (46,(.slice (.pair .str (.pair (.int .i64) (.pair (.int .i64) (.pair (.int .i64) (.pair (.int .i64) .unit))))))),
 (47,(.pair (.pair (.int .i64) (.pair (.slice (.int .i64)) .unit)) (.pair (.slice (.pair .str (.pair (.int .i64) (.pair (.int .i64) (.pair (.int .i64) (.pair (.int .i64) .unit)))))) (.pair (.int .i64) (.pair (.int .i64) (.pair (.int .i64) .unit)))))),
 (48,(.pair (.pair (.int .i64) (.pair (.slice (.int .i64)) .unit)) (.pair (.slice (.pair .str (.pair (.int .i64) (.pair (.int .i64) (.pair (.int .i64) (.pair (.int .i64) .unit)))))) (.pair (.int .i64) (.pair (.int .i64) (.pair (.int .i64) .unit)))))),
 (138,(.pair .str (.pair .str (.pair (.int .i64) .unit)))),
 (50,(.slice (.pair .str (.pair .str (.pair (.int .i64) .unit))))),
 (51,(.pair (.slice (.pair .str (.pair .str (.pair (.int .i64) .unit)))) (.pair (.int .i64) (.pair (.int .i64) (.pair .bool .unit))))),
 (52,(.pair (.slice (.pair .str (.pair .str (.pair (.int .i64) .unit)))) (.pair (.int .i64) (.pair (.int .i64) (.pair .bool .unit))))),
 (62,(.slice (.pair .str (.pair .str (.pair (.int .i64) .unit))))),
 (113,(.pair .str (.pair .str (.pair (.int .i64) .unit)))),
 (71,(.slice (.pair .str (.pair .str (.pair (.int .i64) .unit))))),
 (84,(.pair .str (.pair (.int .i64) (.pair (.int .i64) (.pair (.int .i64) (.pair (.int .i64) .unit)))))),
 (88,(.pair .str (.pair (.int .i64) (.pair .str .unit)))),
 (321,(.pair .str (.pair (.int .i64) .unit))),
 (316,(.slice (.pair .str (.pair (.int .i64) .unit)))),
 (120,(.pair .str (.pair .bool (.pair .str .unit)))),
 (118,(.slice (.pair .str (.pair .bool (.pair .str .unit))))),
 (318,(.pair .bool (.pair (.slice (.pair .str (.pair (.int .i64) .unit))) (.pair (.slice (.pair .str (.pair .bool (.pair .str .unit)))) .unit)))),
 (104,(.slice (.pair .bool (.pair (.slice (.pair .str (.pair (.int .i64) .unit))) (.pair (.slice (.pair .str (.pair .bool (.pair .str .unit)))) .unit))))),
 (105,(.pair .bool (.pair (.pair (.pair (.int .i64) (.pair (.slice (.int .i64)) .unit)) (.pair (.slice (.pair .str (.pair (.int .i64) (.pair (.int .i64) (.pair (.int .i64) (.pair (.int .i64) .unit)))))) (.pair (.int .i64) (.pair (.int .i64) (.pair (.int .i64) .unit))))) (.pair (.pair (.slice (.pair .str (.pair .str (.pair (.int .i64) .unit)))) (.pair (.int .i64) (.pair (.int .i64) (.pair .bool .unit)))) (.pair (.slice (.pair .bool (.pair (.slice (.pair .str (.pair (.int .i64) .unit))) (.pair (.slice (.pair .str (.pair .bool (.pair .str .unit)))) .unit)))) .unit))))),
 (106,(.pair .bool (.pair (.pair (.pair (.int .i64) (.pair (.slice (.int .i64)) .unit)) (.pair (.slice (.pair .str (.pair (.int .i64) (.pair (.int .i64) (.pair (.int .i64) (.pair (.int .i64) .unit)))))) (.pair (.int .i64) (.pair (.int .i64) (.pair (.int .i64) .unit))))) (.pair (.pair (.slice (.pair .str (.pair .str (.pair (.int .i64) .unit)))) (.pair (.int .i64) (.pair (.int .i64) (.pair .bool .unit)))) (.pair (.slice (.pair .bool (.pair (.slice (.pair .str (.pair (.int .i64) .unit))) (.pair (.slice (.pair .str (.pair .bool (.pair .str .unit)))) .unit)))) .unit))))),
 (119,(.pair .str (.pair .bool (.pair .str .unit)))),
 (128,(.pair .str (.pair .str (.pair (.int .i64) .unit)))),
 (132,(.pair (.int .i64) (.pair (.int .i64) (.pair .str (.pair .str (.pair (.int .i64) (.pair (.int .i64) .unit))))))),
 (133,(.pair (.int .i64) (.pair (.int .i64) (.pair .str (.pair .str (.pair (.int .i64) (.pair (.int .i64) .unit))))))),
 (146,.opq),
 (147,(.slice (.int .u8))),
 (191,(.pair (.int .i64) (.pair (.int .i64) (.pair (.pair (.int .i64) (.pair (.int .i64) (.pair .str (.pair .str (.pair (.int .i64) (.pair (.int .i64) .unit)))))) .unit)))),
 (151,(.slice (.pair (.int .i64) (.pair (.int .i64) (.pair (.pair (.int .i64) (.pair (.int .i64) (.pair .str (.pair .str (.pair (.int .i64) (.pair (.int .i64) .unit)))))) .unit))))),
 (158,(.pair (.slice (.pair .str (.pair (.int .i64) (.pair (.int .i64) (.pair (.int .i64) (.pair (.int .i64) .unit)))))) (.pair (.int .i64) (.pair (.int .i64) .unit)))),
 (159,(.pair (.slice (.pair .str (.pair (.int .i64) (.pair (.int .i64) (.pair (.int .i64) (.pair (.int .i64) .unit)))))) (.pair (.int .i64) (.pair (.int .i64) .unit)))),
 (200,(.pair (.int .i64) (.pair (.int .i64) (.pair (.int .i64) (.pair (.pair (.int .i64) (.pair (.int .i64) (.pair .str (.pair .str (.pair (.int .i64) (.pair (.int .i64) .unit)))))) .unit))))),
 (160,(.slice (.pair (.int .i64) (.pair (.int .i64) (.pair (.int .i64) (.pair (.pair (.int .i64) (.pair (.int .i64) (.pair .str (.pair .str (.pair (.int .i64) (.pair (.int .i64) .unit)))))) .unit)))))),
 (161,(.pair (.int .i64) (.pair (.int .i64) (.pair (.slice (.pair .str (.pair (.int .i64) (.pair (.int .i64) (.pair (.int .i64) (.pair (.int .i64) .unit)))))) .unit)))),
 (162,(.pair (.int .i64) (.pair (.int .i64) (.pair (.slice (.pair .str (.pair (.int .i64) (.pair (.int .i64) (.pair (.int .i64) (.pair (.int .i64) .unit)))))) .unit)))),
 (173,.opq),
 (174,(.pair (.pair (.slice (.pair .str (.pair .str (.pair (.int .i64) .unit)))) (.pair (.int .i64) (.pair (.int .i64) (.pair .bool .unit)))) (.pair (.int .i64) .unit))),
 (175,(.pair (.pair (.slice (.pair .str (.pair .str (.pair (.int .i64) .unit)))) (.pair (.int .i64) (.pair (.int .i64) (.pair .bool .unit)))) (.pair (.int .i64) .unit))),
 (185,(.slice .str)),
 (190,(.pair (.int .i64) (.pair (.int .i64) (.pair (.pair (.int .i64) (.pair (.int .i64) (.pair .str (.pair .str (.pair (.int .i64) (.pair (.int .i64) .unit)))))) .unit)))),
 (199,(.pair (.int .i64) (.pair (.int .i64) (.pair (.int .i64) (.pair (.pair (.int .i64) (.pair (.int .i64) (.pair .str (.pair .str (.pair (.int .i64) (.pair (.int .i64) .unit)))))) .unit))))),
 (210,(.slice (.pair (.int .i64) (.pair (.int .i64) (.pair .str (.pair .str (.pair (.int .i64) (.pair (.int .i64) .unit)))))))),
 (215,(.slice (.slice (.pair (.int .i64) (.pair (.int .i64) (.pair (.int .i64) (.pair (.pair (.int .i64) (.pair (.int .i64) (.pair .str (.pair .str (.pair (.int .i64) (.pair (.int .i64) .unit)))))) .unit))))))),
 (227,.opq),
 (235,.opq),
 (236,(.pair .str (.pair .bool .unit))),
 (237,(.pair .str (.pair .bool .unit))),
 (252,.opq),
 (258,(.int .u64)),
 (260,.opq),
 (265,(.int .u32)),
 (273,(.int .u64)),
 (285,(.int .i64)),
 (288,.opq),
 (300,.opq),
 (301,.opq),
 (302,(.pair .str .unit)),
 (303,(.pair .str .unit)),
 (317,(.pair .bool (.pair (.slice (.pair .str (.pair (.int .i64) .unit))) (.pair (.slice (.pair .str (.pair .bool (.pair .str .unit)))) .unit)))),
 (320,(.pair .str (.pair (.int .i64) .unit)))],
 [(124,[(0,1),(1,1),(2,1)]),(23,[(0,1),(1,1),(2,1)]),(24,[(0,1),(1,1),(2,1)]),(26,[(0,1),(1,1)]),(27,[(0,1),(1,1)]),(126,[(0,1),(1,1),(2,1),(3,1),(4,1)]),(29,[(0,2),(2,1),(3,1),(4,1),(5,1)]),(30,[(0,2),(2,1),(3,1),(4,1),(5,1)]),(129,[(0,1),(1,1),(2,1)]),(32,[(0,1),(1,1),(2,1),(3,1)]),(33,[(0,1),(1,1),(2,1),(3,1)]),(89,[(0,1),(1,1),(2,1)]),(38,[(0,1),(1,1),(2,1)]),(39,[(0,1),(1,1),(2,1)]),(40,[(0,1),(1,1),(2,1)]),(41,[(0,1),(1,1),(2,1)]),(45,[(0,1),(1,1)]),(85,[(0,1),(1,1),(2,1),(3,1),(4,1)]),(47,[(0,2),(2,1),(3,1),(4,1),(5,1)]),(48,[(0,2),(2,1),(3,1),(4,1),(5,1)]),(138,[(0,1),(1,1),(2,1)]),(51,[(0,1),(1,1),(2,1),(3,1)]),(52,[(0,1),(1,1),(2,1),(3,1)]),(113,[(0,1),(1,1),(2,1)]),(84,[(0,1),(1,1),(2,1),(3,1),(4,1)]),(88,[(0,1),(1,1),(2,1)]),(321,[(0,1),(1,1)]),(120,[(0,1),(1,1),(2,1)]),(318,[(0,1),(1,1),(2,1)]),(105,[(0,1),(1,6),(7,4),(11,1)]),(106,[(0,1),(1,6),(7,4),(11,1)]),(119,[(0,1),(1,1),(2,1)]),(128,[(0,1),(1,1),(2,1)]),(132,[(0,1),(1,1),(2,1),(3,1),(4,1),(5,1)]),(133,[(0,1),(1,1),(2,1),(3,1),(4,1),(5,1)]),(191,[(0,1),(1,1),(2,6)]),(158,[(0,1),(1,1),(2,1)]),(159,[(0,1),(1,1),(2,1)]),(200,[(0,1),(1,1),(2,1),(3,6)]),(161,[(0,1),(1,1),(2,1)]),(162,[(0,1),(1,1),(2,1)]),(174,[(0,4),(4,1)]),(175,[(0,4),(4,1)]),(190,[(0,1),(1,1),(2,6)]),(199,[(0,1),(1,1),(2,1),(3,6)]),(236,[(0,1),(1,1)]),(237,[(0,1),(1,1)]),(302,[(0,1)]),(303,[(0,1)]),(317,[(0,1),(1,1),(2,1)]),(320,[(0,1),(1,1)])],
 [(124,[.str,(.int .i64),.str]),(126,[.str,(.int .i64),(.int .i64),(.int .i64),(.int .i64)]),(129,[.str,.str,(.int .i64)]),(89,[.str,(.int .i64),.str]),(40,[.str,.str,(.int .i64)]),(41,[.str,.str,(.int .i64)]),(85,[.str,(.int .i64),(.int .i64),(.int .i64),(.int .i64)]),(138,[.str,.str,(.int .i64)]),(113,[.str,.str,(.int .i64)]),(84,[.str,(.int .i64),(.int .i64),(.int .i64),(.int .i64)]),(88,[.str,(.int .i64),.str]),(321,[.str,(.int .i64)]),(120,[.str,.bool,.str]),(119,[.str,.bool,.str]),(128,[.str,.str,(.int .i64)]),(132,[(.int .i64),(.int .i64),.str,.str,(.int .i64),(.int .i64)]),(133,[(.int .i64),(.int .i64),.str,.str,(.int .i64),(.int .i64)]),(236,[.str,.bool]),(237,[.str,.bool]),(302,[.str]),(303,[.str]),(320,[.str,(.int .i64)])],
 [(124,[9,3,9]),(23,[3,22,3]),(24,[3,22,3]),(26,[3,25]),(27,[3,25]),(126,[9,3,3,3,3]),(29,[27,28,3,3,3]),(30,[27,28,3,3,3]),(129,[9,9,3]),(32,[31,3,3,4]),(33,[31,3,3,4]),(89,[9,3,9]),(38,[3,37,3]),(39,[3,37,3]),(40,[9,9,3]),(41,[9,9,3]),(45,[3,25]),(85,[9,3,3,3,3]),(47,[45,46,3,3,3]),(48,[45,46,3,3,3]),(138,[9,9,3]),(51,[50,3,3,4]),(52,[50,3,3,4]),(113,[9,9,3]),(84,[9,3,3,3,3]),(88,[9,3,9]),(321,[9,3]),(120,[9,4,9]),(318,[4,316,118]),(105,[4,48,52,104]),(106,[4,48,52,104]),(119,[9,4,9]),(128,[9,9,3]),(132,[3,3,9,9,3,3]),(133,[3,3,9,9,3,3]),(191,[3,3,133]),(158,[46,3,3]),(159,[46,3,3]),(200,[3,3,3,133]),(161,[3,3,46]),(162,[3,3,46]),(174,[52,3]),(175,[52,3]),(190,[3,3,133]),(199,[3,3,3,133]),(236,[9,4]),(237,[9,4]),(302,[9]),(303,[9]),(317,[4,316,118]),(320,[9,3])]⟩
theorem tb_ok:tabCheck Tryz.prog tb=true:=by kernel_rfl
theorem tb_rows:rowsCheck tb=true:=by kernel_rfl
theorem tb_eqs:eqsCheck Tryz.prog tb=true:=by kernel_rfl
theorem mixed:Tryz.prog.follows .mixedOrders=true:=by kernel_rfl
theorem gPow:Tryz.prog.globalNamed "internal/strconv.uint64pow10" = some 0:=by kernel_rfl
theorem gSyn:Tryz.prog.globalNamed "strconv.ErrSyntax" = some 1:=by kernel_rfl
theorem gRng:Tryz.prog.globalNamed "strconv.ErrRange" = some 2:=by kernel_rfl
theorem var_frame {P:Program} {w w':World} {name:String} {i n:Nat} (hg:P.globalNamed name=some i) (hi:i<n) (h:∀ k,k<n→w'.heap[k]?=w.heap[k]?):w'.var? P name=w.var? P name:=by
 unfold World.var?
 rw [hg,Option.bind_some,Option.bind_some,h i hi]
def J:Gl where
 n:=3
 ok:=fun w=>3≤w.heap.size∧Lib.TabIs Tryz.prog w "internal/strconv.uint64pow10" .u64 Lib.pow10Tab∧(∃ t p,w.var? Tryz.prog "strconv.ErrSyntax" = some #[.iface t p])∧(∃ t p,w.var? Tryz.prog "strconv.ErrRange" = some #[.iface t p])∧True
 lt:=fun w h=>h.1
 frame:=fun w w' h hb hs=>⟨Nat.le_trans h.1 hs,(by unfold Lib.TabIs;rw [var_frame gPow (by decide) hb];exact h.2.1),(by rw [var_frame gSyn (by decide) hb];exact h.2.2.1),(by rw [var_frame gRng (by decide) hb];exact h.2.2.2.1),trivial⟩
def bt:Nat→Nat→List Bool
 | 0,_=>[]
 | d+1,n=>(n % 2==1)::bt d (n/2)
noncomputable def lpK {R:Type} (E:Env) (c:Code) (g:Nat) (lv:List Nat) (K:Ex→St→Option R) (n:Nat):Ex→St→Option R:=fun e st=>match e with
 | .normal=>loopN (exec E c) (canon g lv) K n (canon g lv st)
 | .ret=>K .ret st
 | .exit j=>K (.exit j) st
theorem loop_eq {α:Type} {V l:Nat→α} {b:α→α} (h0:V 0=l 0) (hs:∀ n,V (n+1)=b (V n)) (hl:∀ n,l (n+1)=b (l n)):V=l :=
 funext fun n=>by
  induction n with
  | zero=>exact h0
  | succ n ih=>rw [hs,hl,ih]
def Cts (P:Program) (ct:List (Nat × Cn)):Prop:=∀ g c,V.look ct g=some c→Ctr J P g c
theorem Cts.nil {P:Program}:Cts P []:=fun g c h=>by cases h
theorem Cts.cons {P:Program} {f:Nat} {c:Cn} {ct:List (Nat × Cn)} (h:Ctr J P f c) (t:Cts P ct):Cts P ((f,c)::ct):=fun g d q=>by
 simp only [V.look] at q
 cases hb:Nat.beq f g with
 | true=>rw [hb] at q;cases q;rw [← Nat.eq_of_beq_eq_true hb];exact h
 | false=>rw [hb] at q;exact t g d q
structure Ce where
 f:Nat
 c:Cn
 h:Ctr J Tryz.prog f c
def q {f:Nat} {c:Cn} (h:Ctr J Tryz.prog f c):Ce:=⟨f,c,h⟩
def ctOf:List Ce→List (Nat × Cn)
 | []=>[]
 | e::l=>(e.f,e.c)::ctOf l
theorem ctsOf:∀ l:List Ce,Cts Tryz.prog (ctOf l)
 | []=>Cts.nil
 | e::l=>Cts.cons e.h (ctsOf l)
def en (D:List Ce) (lv:List (Nat × List Nat)) (g:Nat) (jn:List (Nat × List Nat)) (k:Nat):Env:=⟨tb,ctOf D,lv,k,g,jn⟩
noncomputable def eK (E:Env) (f:Func) (c:Cn) (x:(tup (ins c.A)).den):Ex→St→Option (tup (outT c.A++c.R)).den:=endK E f.results.toList c.A x c.R c.fresh c.al
noncomputable def eB (E:Env) (f:Func) (c:Cn) (x:(tup (ins c.A)).den):Ex→St→Option (tup (outT c.A++c.R)).den:=endB E f.results.toList c.A x c.R
noncomputable def rn (E:Env) (f:Func) (c:Cn) (x:(tup (ins c.A)).den):Option (tup (outT c.A++c.R)).den:=run E f c.A c.R c.fresh c.al x
noncomputable def rb (E:Env) (f:Func) (c:Cn) (x:(tup (ins c.A)).den):Option (tup (outT c.A++c.R)).den:=runB E f c.A c.R x
abbrev Cp (f:Nat) (c:Cn):Prop:=Ctr J Tryz.prog f c
theorem rc {f:Nat} {fn:Func} {b:Code} {c:Cn} {lv jn:List (Nat × List Nat)} {g k:Nat} (hbx:isBx c.R=false) (D:List Ce) (hEg:g=rootN c.A) (hf:Tryz.prog.funcs[f]?=some fn) (hname:(fn.name == "runtime.NumGoroutine")=false) (hb:fn.body=some b)
 (hg:∀ x r,c.fn x=some r→rn (en D lv g jn k) fn c x=some r):Cp f c:=by
 obtain ⟨A,R,fr,al,fn'⟩:=c
 exact run_ctr (E:=en D lv g jn k) hbx mixed tb_ok (eqOk_of tb_eqs) (ctsOf D) hEg hf hname hb hg
theorem rcb {f:Nat} {fn:Func} {b:Code} {c:Cn} {lv jn:List (Nat × List Nat)} {g k:Nat} (hfr:c.fresh=false) (hal:c.al=true) (hbx:isBx c.R=true) (D:List Ce) (hEg:g=rootN c.A) (hf:Tryz.prog.funcs[f]?=some fn) (hname:(fn.name == "runtime.NumGoroutine")=false) (hb:fn.body=some b)
 (hg:∀ x r,c.fn x=some r→rb (en D lv g jn k) fn c x=some r):Cp f c:=by
 obtain ⟨A,R,fr,al,fn'⟩:=c
 cases hfr
 cases hal
 exact run_box (E:=en D lv g jn k) hbx mixed tb_ok (eqOk_of tb_eqs) (ctsOf D) hEg hf hname hb hg
end Go.Proofs.YtejgkmhpmhfnbaaGreatDoor.G
