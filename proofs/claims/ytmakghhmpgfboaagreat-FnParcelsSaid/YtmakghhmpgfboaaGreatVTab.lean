/- V's table of the types of this seat, and its checks. -/
import Derived.Test.YtmakghhmpgfboaaGreatProg
import Derived.Test.YtmakghhmpgfboaaGreatVS9
import Derived.Test.YtmakghhmpgfboaaGreatVS10
set_option maxRecDepth 100000
namespace Go.Proofs.YtmakghhmpgfboaaGreat.G
open Go.V
def tb:Tab:=⟨[(2,(.int .i64)),
 (3,(.int .i64)),
 (4,.bool),
 (5,(.int .u8)),
 (9,.str),
 (12,(.int .u64)),
 (21,(.int .i32)),
 (22,(.slice (.int .u8))),
 (62,(.pair (.int .i64) (.pair .str .unit))),
 (24,(.slice (.pair (.int .i64) (.pair .str .unit)))),
 (25,(.pair (.int .i64) (.pair (.slice (.pair (.int .i64) (.pair .str .unit))) .unit))),
 (26,(.pair (.int .i64) (.pair (.slice (.pair (.int .i64) (.pair .str .unit))) .unit))),
 (57,(.pair (.int .i64) (.pair (.int .i64) (.pair .str .unit)))),
 (27,(.slice (.pair (.int .i64) (.pair (.int .i64) (.pair .str .unit))))),
 (28,(.pair (.int .i64) (.pair (.slice (.pair (.int .i64) (.pair (.int .i64) (.pair .str .unit)))) .unit))),
 (29,(.pair (.int .i64) (.pair (.slice (.pair (.int .i64) (.pair (.int .i64) (.pair .str .unit)))) .unit))),
 (79,(.pair .str (.pair .str (.pair (.int .i64) .unit)))),
 (35,(.slice (.pair .str (.pair .str (.pair (.int .i64) .unit))))),
 (41,.opq),
 (43,(.slice (.int .i64))),
 (44,(.pair (.int .i64) (.pair (.slice (.int .i64)) .unit))),
 (45,(.pair (.int .i64) (.pair (.slice (.int .i64)) .unit))),
 (73,(.pair .str (.pair (.int .i64) (.pair (.int .i64) (.pair (.int .i64) (.pair (.int .i64) .unit)))))),
 (46,(.slice (.pair .str (.pair (.int .i64) (.pair (.int .i64) (.pair (.int .i64) (.pair (.int .i64) .unit))))))),
 (47,(.pair (.pair (.int .i64) (.pair (.slice (.int .i64)) .unit)) (.pair (.slice (.pair .str (.pair (.int .i64) (.pair (.int .i64) (.pair (.int .i64) (.pair (.int .i64) .unit)))))) (.pair (.int .i64) (.pair (.int .i64) (.pair (.int .i64) .unit)))))),
 (48,(.pair (.pair (.int .i64) (.pair (.slice (.int .i64)) .unit)) (.pair (.slice (.pair .str (.pair (.int .i64) (.pair (.int .i64) (.pair (.int .i64) (.pair (.int .i64) .unit)))))) (.pair (.int .i64) (.pair (.int .i64) (.pair (.int .i64) .unit)))))),
 (142,(.pair .str (.pair .str (.pair (.int .i64) .unit)))),
 (49,(.slice (.pair .str (.pair .str (.pair (.int .i64) .unit))))),
 (50,(.pair (.slice (.pair .str (.pair .str (.pair (.int .i64) .unit)))) (.pair (.int .i64) (.pair (.int .i64) (.pair .bool .unit))))),
 (51,(.pair (.slice (.pair .str (.pair .str (.pair (.int .i64) .unit)))) (.pair (.int .i64) (.pair (.int .i64) (.pair .bool .unit))))),
 (56,(.pair (.int .i64) (.pair (.int .i64) (.pair .str .unit)))),
 (61,(.pair (.int .i64) (.pair .str .unit))),
 (75,(.pair (.int .i64) (.pair (.int .i64) (.pair .str (.pair .str (.pair (.int .i64) (.pair (.int .i64) .unit))))))),
 (112,(.pair (.int .i64) (.pair (.int .i64) (.pair (.int .i64) (.pair (.pair (.int .i64) (.pair (.int .i64) (.pair .str (.pair .str (.pair (.int .i64) (.pair (.int .i64) .unit)))))) .unit))))),
 (64,(.slice (.pair (.int .i64) (.pair (.int .i64) (.pair (.int .i64) (.pair (.pair (.int .i64) (.pair (.int .i64) (.pair .str (.pair .str (.pair (.int .i64) (.pair (.int .i64) .unit)))))) .unit)))))),
 (110,(.pair (.int .i64) (.pair (.int .i64) (.pair (.pair (.int .i64) (.pair (.int .i64) (.pair .str (.pair .str (.pair (.int .i64) (.pair (.int .i64) .unit)))))) .unit)))),
 (65,(.slice (.pair (.int .i64) (.pair (.int .i64) (.pair (.pair (.int .i64) (.pair (.int .i64) (.pair .str (.pair .str (.pair (.int .i64) (.pair (.int .i64) .unit)))))) .unit))))),
 (69,(.pair (.slice (.pair .str (.pair (.int .i64) (.pair (.int .i64) (.pair (.int .i64) (.pair (.int .i64) .unit)))))) (.pair (.int .i64) (.pair (.int .i64) .unit)))),
 (70,(.pair (.slice (.pair .str (.pair (.int .i64) (.pair (.int .i64) (.pair (.int .i64) (.pair (.int .i64) .unit)))))) (.pair (.int .i64) (.pair (.int .i64) .unit)))),
 (72,(.pair .str (.pair (.int .i64) (.pair (.int .i64) (.pair (.int .i64) (.pair (.int .i64) .unit)))))),
 (74,(.pair (.int .i64) (.pair (.int .i64) (.pair .str (.pair .str (.pair (.int .i64) (.pair (.int .i64) .unit))))))),
 (78,(.pair .str (.pair .str (.pair (.int .i64) .unit)))),
 (83,(.pair (.slice (.int .u8)) (.pair (.int .i64) (.pair (.int .i64) .unit)))),
 (84,(.pair (.slice (.int .u8)) (.pair (.int .i64) (.pair (.int .i64) .unit)))),
 (227,(.pair .str (.pair (.int .i64) .unit))),
 (127,(.slice (.pair .str (.pair (.int .i64) .unit)))),
 (182,(.pair .str (.pair .bool (.pair .str .unit)))),
 (97,(.slice (.pair .str (.pair .bool (.pair .str .unit))))),
 (129,(.pair .bool (.pair (.slice (.pair .str (.pair (.int .i64) .unit))) (.pair (.slice (.pair .str (.pair .bool (.pair .str .unit)))) .unit)))),
 (85,(.slice (.pair .bool (.pair (.slice (.pair .str (.pair (.int .i64) .unit))) (.pair (.slice (.pair .str (.pair .bool (.pair .str .unit)))) .unit))))),
 (86,(.pair .bool (.pair (.pair (.pair (.int .i64) (.pair (.slice (.int .i64)) .unit)) (.pair (.slice (.pair .str (.pair (.int .i64) (.pair (.int .i64) (.pair (.int .i64) (.pair (.int .i64) .unit)))))) (.pair (.int .i64) (.pair (.int .i64) (.pair (.int .i64) .unit))))) (.pair (.pair (.slice (.pair .str (.pair .str (.pair (.int .i64) .unit)))) (.pair (.int .i64) (.pair (.int .i64) (.pair .bool .unit)))) (.pair (.slice (.pair .bool (.pair (.slice (.pair .str (.pair (.int .i64) .unit))) (.pair (.slice (.pair .str (.pair .bool (.pair .str .unit)))) .unit)))) .unit))))),
 (87,(.pair .bool (.pair (.pair (.pair (.int .i64) (.pair (.slice (.int .i64)) .unit)) (.pair (.slice (.pair .str (.pair (.int .i64) (.pair (.int .i64) (.pair (.int .i64) (.pair (.int .i64) .unit)))))) (.pair (.int .i64) (.pair (.int .i64) (.pair (.int .i64) .unit))))) (.pair (.pair (.slice (.pair .str (.pair .str (.pair (.int .i64) .unit)))) (.pair (.int .i64) (.pair (.int .i64) (.pair .bool .unit)))) (.pair (.slice (.pair .bool (.pair (.slice (.pair .str (.pair (.int .i64) .unit))) (.pair (.slice (.pair .str (.pair .bool (.pair .str .unit)))) .unit)))) .unit))))),
 (125,(.pair (.int .i64) (.pair (.int .i64) (.pair .str (.pair .str (.pair (.int .i64) .unit)))))),
 (91,(.slice (.pair (.int .i64) (.pair (.int .i64) (.pair .str (.pair .str (.pair (.int .i64) .unit))))))),
 (92,(.pair (.int .i64) (.pair (.int .i64) (.pair (.slice (.pair (.int .i64) (.pair (.int .i64) (.pair .str (.pair .str (.pair (.int .i64) .unit)))))) .unit)))),
 (93,(.pair (.int .i64) (.pair (.int .i64) (.pair (.slice (.pair (.int .i64) (.pair (.int .i64) (.pair .str (.pair .str (.pair (.int .i64) .unit)))))) .unit)))),
 (131,(.slice .str)),
 (133,(.pair (.int .i64) (.pair .str (.pair (.slice .str) .unit)))),
 (95,(.slice (.pair (.int .i64) (.pair .str (.pair (.slice .str) .unit))))),
 (137,(.pair (.int .i64) (.pair (.slice (.pair .str (.pair .bool (.pair .str .unit)))) .unit))),
 (96,(.slice (.pair (.int .i64) (.pair (.slice (.pair .str (.pair .bool (.pair .str .unit)))) .unit)))),
 (98,(.pair (.pair .bool (.pair (.pair (.pair (.int .i64) (.pair (.slice (.int .i64)) .unit)) (.pair (.slice (.pair .str (.pair (.int .i64) (.pair (.int .i64) (.pair (.int .i64) (.pair (.int .i64) .unit)))))) (.pair (.int .i64) (.pair (.int .i64) (.pair (.int .i64) .unit))))) (.pair (.pair (.slice (.pair .str (.pair .str (.pair (.int .i64) .unit)))) (.pair (.int .i64) (.pair (.int .i64) (.pair .bool .unit)))) (.pair (.slice (.pair .bool (.pair (.slice (.pair .str (.pair (.int .i64) .unit))) (.pair (.slice (.pair .str (.pair .bool (.pair .str .unit)))) .unit)))) .unit)))) (.pair (.slice (.pair (.int .i64) (.pair .str (.pair (.slice .str) .unit)))) (.pair (.slice (.pair (.int .i64) (.pair (.slice (.pair .str (.pair .bool (.pair .str .unit)))) .unit))) (.pair (.slice (.pair .str (.pair .bool (.pair .str .unit)))) .unit))))),
 (99,(.pair (.pair .bool (.pair (.pair (.pair (.int .i64) (.pair (.slice (.int .i64)) .unit)) (.pair (.slice (.pair .str (.pair (.int .i64) (.pair (.int .i64) (.pair (.int .i64) (.pair (.int .i64) .unit)))))) (.pair (.int .i64) (.pair (.int .i64) (.pair (.int .i64) .unit))))) (.pair (.pair (.slice (.pair .str (.pair .str (.pair (.int .i64) .unit)))) (.pair (.int .i64) (.pair (.int .i64) (.pair .bool .unit)))) (.pair (.slice (.pair .bool (.pair (.slice (.pair .str (.pair (.int .i64) .unit))) (.pair (.slice (.pair .str (.pair .bool (.pair .str .unit)))) .unit)))) .unit)))) (.pair (.slice (.pair (.int .i64) (.pair .str (.pair (.slice .str) .unit)))) (.pair (.slice (.pair (.int .i64) (.pair (.slice (.pair .str (.pair .bool (.pair .str .unit)))) .unit))) (.pair (.slice (.pair .str (.pair .bool (.pair .str .unit)))) .unit))))),
 (109,(.pair (.int .i64) (.pair (.int .i64) (.pair (.pair (.int .i64) (.pair (.int .i64) (.pair .str (.pair .str (.pair (.int .i64) (.pair (.int .i64) .unit)))))) .unit)))),
 (111,(.pair (.int .i64) (.pair (.int .i64) (.pair (.int .i64) (.pair (.pair (.int .i64) (.pair (.int .i64) (.pair .str (.pair .str (.pair (.int .i64) (.pair (.int .i64) .unit)))))) .unit))))),
 (124,(.pair (.int .i64) (.pair (.int .i64) (.pair .str (.pair .str (.pair (.int .i64) .unit)))))),
 (128,(.pair .bool (.pair (.slice (.pair .str (.pair (.int .i64) .unit))) (.pair (.slice (.pair .str (.pair .bool (.pair .str .unit)))) .unit)))),
 (132,(.pair (.int .i64) (.pair .str (.pair (.slice .str) .unit)))),
 (136,(.pair (.int .i64) (.pair (.slice (.pair .str (.pair .bool (.pair .str .unit)))) .unit))),
 (141,(.pair .str (.pair .str (.pair (.int .i64) .unit)))),
 (143,(.int .u64)),
 (147,.opq),
 (148,(.pair .str (.pair .bool .unit))),
 (149,(.pair .str (.pair .bool .unit))),
 (155,(.slice (.pair (.int .i64) (.pair (.int .i64) (.pair .str (.pair .str (.pair (.int .i64) (.pair (.int .i64) .unit)))))))),
 (157,.opq),
 (171,(.pair (.int .i64) (.pair (.int .i64) (.pair (.slice (.pair .str (.pair (.int .i64) (.pair (.int .i64) (.pair (.int .i64) (.pair (.int .i64) .unit)))))) .unit)))),
 (172,(.pair (.int .i64) (.pair (.int .i64) (.pair (.slice (.pair .str (.pair (.int .i64) (.pair (.int .i64) (.pair (.int .i64) (.pair (.int .i64) .unit)))))) .unit)))),
 (177,(.slice .bool)),
 (181,(.pair .str (.pair .bool (.pair .str .unit)))),
 (213,(.int .u32)),
 (226,(.pair .str (.pair (.int .i64) .unit))),
 (242,.opq)],
 [(62,[(0,1),(1,1)]),(25,[(0,1),(1,1)]),(26,[(0,1),(1,1)]),(57,[(0,1),(1,1),(2,1)]),(28,[(0,1),(1,1)]),(29,[(0,1),(1,1)]),(79,[(0,1),(1,1),(2,1)]),(44,[(0,1),(1,1)]),(45,[(0,1),(1,1)]),(73,[(0,1),(1,1),(2,1),(3,1),(4,1)]),(47,[(0,2),(2,1),(3,1),(4,1),(5,1)]),(48,[(0,2),(2,1),(3,1),(4,1),(5,1)]),(142,[(0,1),(1,1),(2,1)]),(50,[(0,1),(1,1),(2,1),(3,1)]),(51,[(0,1),(1,1),(2,1),(3,1)]),(56,[(0,1),(1,1),(2,1)]),(61,[(0,1),(1,1)]),(75,[(0,1),(1,1),(2,1),(3,1),(4,1),(5,1)]),(112,[(0,1),(1,1),(2,1),(3,6)]),(110,[(0,1),(1,1),(2,6)]),(69,[(0,1),(1,1),(2,1)]),(70,[(0,1),(1,1),(2,1)]),(72,[(0,1),(1,1),(2,1),(3,1),(4,1)]),(74,[(0,1),(1,1),(2,1),(3,1),(4,1),(5,1)]),(78,[(0,1),(1,1),(2,1)]),(83,[(0,1),(1,1),(2,1)]),(84,[(0,1),(1,1),(2,1)]),(227,[(0,1),(1,1)]),(182,[(0,1),(1,1),(2,1)]),(129,[(0,1),(1,1),(2,1)]),(86,[(0,1),(1,6),(7,4),(11,1)]),(87,[(0,1),(1,6),(7,4),(11,1)]),(125,[(0,1),(1,1),(2,1),(3,1),(4,1)]),(92,[(0,1),(1,1),(2,1)]),(93,[(0,1),(1,1),(2,1)]),(133,[(0,1),(1,1),(2,1)]),(137,[(0,1),(1,1)]),(98,[(0,12),(12,1),(13,1),(14,1)]),(99,[(0,12),(12,1),(13,1),(14,1)]),(109,[(0,1),(1,1),(2,6)]),(111,[(0,1),(1,1),(2,1),(3,6)]),(124,[(0,1),(1,1),(2,1),(3,1),(4,1)]),(128,[(0,1),(1,1),(2,1)]),(132,[(0,1),(1,1),(2,1)]),(136,[(0,1),(1,1)]),(141,[(0,1),(1,1),(2,1)]),(148,[(0,1),(1,1)]),(149,[(0,1),(1,1)]),(171,[(0,1),(1,1),(2,1)]),(172,[(0,1),(1,1),(2,1)]),(181,[(0,1),(1,1),(2,1)]),(226,[(0,1),(1,1)])],
 [(62,[(.int .i64),.str]),(57,[(.int .i64),(.int .i64),.str]),(79,[.str,.str,(.int .i64)]),(73,[.str,(.int .i64),(.int .i64),(.int .i64),(.int .i64)]),(142,[.str,.str,(.int .i64)]),(56,[(.int .i64),(.int .i64),.str]),(61,[(.int .i64),.str]),(75,[(.int .i64),(.int .i64),.str,.str,(.int .i64),(.int .i64)]),(72,[.str,(.int .i64),(.int .i64),(.int .i64),(.int .i64)]),(74,[(.int .i64),(.int .i64),.str,.str,(.int .i64),(.int .i64)]),(78,[.str,.str,(.int .i64)]),(227,[.str,(.int .i64)]),(182,[.str,.bool,.str]),(125,[(.int .i64),(.int .i64),.str,.str,(.int .i64)]),(124,[(.int .i64),(.int .i64),.str,.str,(.int .i64)]),(141,[.str,.str,(.int .i64)]),(148,[.str,.bool]),(149,[.str,.bool]),(181,[.str,.bool,.str]),(226,[.str,(.int .i64)])],
 [(62,[3,9]),(25,[3,24]),(26,[3,24]),(57,[3,3,9]),(28,[3,27]),(29,[3,27]),(79,[9,9,3]),(44,[3,43]),(45,[3,43]),(73,[9,3,3,3,3]),(47,[45,46,3,3,3]),(48,[45,46,3,3,3]),(142,[9,9,3]),(50,[49,3,3,4]),(51,[49,3,3,4]),(56,[3,3,9]),(61,[3,9]),(75,[3,3,9,9,3,3]),(112,[3,3,3,75]),(110,[3,3,75]),(69,[46,3,3]),(70,[46,3,3]),(72,[9,3,3,3,3]),(74,[3,3,9,9,3,3]),(78,[9,9,3]),(83,[22,3,3]),(84,[22,3,3]),(227,[9,3]),(182,[9,4,9]),(129,[4,127,97]),(86,[4,48,51,85]),(87,[4,48,51,85]),(125,[3,3,9,9,3]),(92,[3,3,91]),(93,[3,3,91]),(133,[3,9,131]),(137,[3,97]),(98,[87,95,96,97]),(99,[87,95,96,97]),(109,[3,3,75]),(111,[3,3,3,75]),(124,[3,3,9,9,3]),(128,[4,127,97]),(132,[3,9,131]),(136,[3,97]),(141,[9,9,3]),(148,[9,4]),(149,[9,4]),(171,[3,3,46]),(172,[3,3,46]),(181,[9,4,9]),(226,[9,3])]⟩
theorem tb_ok:tabCheck Tryz.prog tb=true:=by kernel_rfl
theorem tb_rows:rowsCheck tb=true:=by kernel_rfl
theorem tb_eqs:eqsCheck Tryz.prog tb=true:=by kernel_rfl
theorem mixed:Tryz.prog.follows .mixedOrders=true:=by kernel_rfl
def J:Gl:=Gl.top
def bt:Nat→Nat→List Bool
 | 0,_=>[]
 | d+1,n=>(n % 2==1)::bt d (n/2)
noncomputable def lpK {R:Type} (E:Env) (c:Code) (g:Nat) (lv:List Nat) (K:Ex→St→Option R) (n:Nat):Ex→St→Option R:=fun e st=>match e with
 | .normal=>loopN (exec E c) (canon g lv) K n (canon g lv st)
 | .ret=>K .ret st
 | .exit j=>K (.exit j) st
theorem loop_eq {α:Type} {V l:Nat→α} {b:α→α} (h0:V 0=l 0) (hs:∀ n,V (n+1)=b (V n)) (hl:∀ n,l (n+1)=b (l n)):V=l :=
 funext fun n=>by
  induction n with
  | zero=>exact h0
  | succ n ih=>rw [hs,hl,ih]
def Cts (P:Program) (ct:List (Nat × Cn)):Prop:=∀ g c,V.look ct g=some c→Ctr J P g c
theorem Cts.nil {P:Program}:Cts P []:=fun g c h=>by cases h
theorem Cts.cons {P:Program} {f:Nat} {c:Cn} {ct:List (Nat × Cn)} (h:Ctr J P f c) (t:Cts P ct):Cts P ((f,c)::ct):=fun g d q=>by
 simp only [V.look] at q
 cases hb:Nat.beq f g with
 | true=>rw [hb] at q;cases q;rw [← Nat.eq_of_beq_eq_true hb];exact h
 | false=>rw [hb] at q;exact t g d q
structure Ce where
 f:Nat
 c:Cn
 h:Ctr J Tryz.prog f c
def q {f:Nat} {c:Cn} (h:Ctr J Tryz.prog f c):Ce:=⟨f,c,h⟩
def ctOf:List Ce→List (Nat × Cn)
 | []=>[]
 | e::l=>(e.f,e.c)::ctOf l
theorem ctsOf:∀ l:List Ce,Cts Tryz.prog (ctOf l)
 | []=>Cts.nil
 | e::l=>Cts.cons e.h (ctsOf l)
def en (D:List Ce) (lv:List (Nat × List Nat)) (g:Nat) (jn:List (Nat × List Nat)) (k:Nat):Env:=⟨tb,ctOf D,lv,k,g,jn⟩
noncomputable def eK (E:Env) (f:Func) (c:Cn) (x:(tup (ins c.A)).den):Ex→St→Option (tup (outT c.A++c.R)).den:=endK E f.results.toList c.A x c.R c.fresh c.al
noncomputable def eB (E:Env) (f:Func) (c:Cn) (x:(tup (ins c.A)).den):Ex→St→Option (tup (outT c.A++c.R)).den:=endB E f.results.toList c.A x c.R
noncomputable def rn (E:Env) (f:Func) (c:Cn) (x:(tup (ins c.A)).den):Option (tup (outT c.A++c.R)).den:=run E f c.A c.R c.fresh c.al x
noncomputable def rb (E:Env) (f:Func) (c:Cn) (x:(tup (ins c.A)).den):Option (tup (outT c.A++c.R)).den:=runB E f c.A c.R x
abbrev Cp (f:Nat) (c:Cn):Prop:=Ctr J Tryz.prog f c
theorem rc {f:Nat} {fn:Func} {b:Code} {c:Cn} {lv jn:List (Nat × List Nat)} {g k:Nat} (hbx:isBx c.R=false) (D:List Ce) (hEg:g=rootN c.A) (hf:Tryz.prog.funcs[f]?=some fn) (hname:(fn.name == "runtime.NumGoroutine")=false) (hb:fn.body=some b)
 (hg:∀ x r,c.fn x=some r→rn (en D lv g jn k) fn c x=some r):Cp f c:=by
 obtain ⟨A,R,fr,al,fn'⟩:=c
 exact run_ctr (E:=en D lv g jn k) hbx mixed tb_ok (eqOk_of tb_eqs) (ctsOf D) hEg hf hname hb hg
theorem rcb {f:Nat} {fn:Func} {b:Code} {c:Cn} {lv jn:List (Nat × List Nat)} {g k:Nat} (hfr:c.fresh=false) (hal:c.al=true) (hbx:isBx c.R=true) (D:List Ce) (hEg:g=rootN c.A) (hf:Tryz.prog.funcs[f]?=some fn) (hname:(fn.name == "runtime.NumGoroutine")=false) (hb:fn.body=some b)
 (hg:∀ x r,c.fn x=some r→rb (en D lv g jn k) fn c x=some r):Cp f c:=by
 obtain ⟨A,R,fr,al,fn'⟩:=c
 cases hfr
 cases hal
 exact run_box (E:=en D lv g jn k) hbx mixed tb_ok (eqOk_of tb_eqs) (ctsOf D) hEg hf hname hb hg
end Go.Proofs.YtmakghhmpgfboaaGreat.G
