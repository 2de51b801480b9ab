/- V's table of the types of this seat, and its checks. -/
import Derived.Test.YtckpkdiinmjdaaaGreatDoorProg
import Derived.Test.YtckpkdiinmjdaaaGreatDoorVS9
import Derived.Test.YtckpkdiinmjdaaaGreatDoorVS10
import Derived.Lib.LaidTab
import Derived.Lib.ItoaNum
set_option maxRecDepth 100000
namespace Go.Proofs.YtckpkdiinmjdaaaGreatDoor.G
open Go.V
def tb:Tab:=⟨[(2,(.int .i64)),
 (3,(.int .i64)),
 (4,.bool),
 (5,(.int .u8)),
 (9,.str),
 (12,(.int .u64)),
 (21,(.int .i32)),
 (22,(.slice (.int .u8))),
 (24,(.slice (.int .i64))),
 (25,(.pair (.int .i64) (.pair (.slice (.int .i64)) .unit))),
 (26,(.pair (.int .i64) (.pair (.slice (.int .i64)) .unit))),
 (37,(.pair .str (.pair (.int .i64) (.pair (.int .i64) (.pair (.int .i64) (.pair (.int .i64) .unit)))))),
 (27,(.slice (.pair .str (.pair (.int .i64) (.pair (.int .i64) (.pair (.int .i64) (.pair (.int .i64) .unit))))))),
 (28,(.pair (.pair (.int .i64) (.pair (.slice (.int .i64)) .unit)) (.pair (.slice (.pair .str (.pair (.int .i64) (.pair (.int .i64) (.pair (.int .i64) (.pair (.int .i64) .unit)))))) (.pair (.int .i64) (.pair (.int .i64) (.pair (.int .i64) .unit)))))),
 (29,(.pair (.pair (.int .i64) (.pair (.slice (.int .i64)) .unit)) (.pair (.slice (.pair .str (.pair (.int .i64) (.pair (.int .i64) (.pair (.int .i64) (.pair (.int .i64) .unit)))))) (.pair (.int .i64) (.pair (.int .i64) (.pair (.int .i64) .unit)))))),
 (97,(.pair .str (.pair .str (.pair (.int .i64) .unit)))),
 (30,(.slice (.pair .str (.pair .str (.pair (.int .i64) .unit))))),
 (31,(.pair (.slice (.pair .str (.pair .str (.pair (.int .i64) .unit)))) (.pair (.int .i64) (.pair (.int .i64) (.pair .bool .unit))))),
 (32,(.pair (.slice (.pair .str (.pair .str (.pair (.int .i64) .unit)))) (.pair (.int .i64) (.pair (.int .i64) (.pair .bool .unit))))),
 (36,(.pair .str (.pair (.int .i64) (.pair (.int .i64) (.pair (.int .i64) (.pair (.int .i64) .unit)))))),
 (41,.opq),
 (77,(.pair .str (.pair .str (.pair (.int .i64) .unit)))),
 (47,(.slice (.pair .str (.pair .str (.pair (.int .i64) .unit))))),
 (56,(.pair (.slice (.int .u8)) (.pair (.int .i64) (.pair (.int .i64) .unit)))),
 (57,(.pair (.slice (.int .u8)) (.pair (.int .i64) (.pair (.int .i64) .unit)))),
 (124,(.pair .str (.pair .bool (.pair .str .unit)))),
 (64,(.slice (.pair .str (.pair .bool (.pair .str .unit))))),
 (73,(.pair (.int .i64) (.pair (.int .i64) (.pair .str (.pair .str (.pair (.int .i64) (.pair (.int .i64) .unit))))))),
 (131,(.pair (.int .i64) (.pair (.int .i64) (.pair (.pair (.int .i64) (.pair (.int .i64) (.pair .str (.pair .str (.pair (.int .i64) (.pair (.int .i64) .unit)))))) .unit)))),
 (69,(.slice (.pair (.int .i64) (.pair (.int .i64) (.pair (.pair (.int .i64) (.pair (.int .i64) (.pair .str (.pair .str (.pair (.int .i64) (.pair (.int .i64) .unit)))))) .unit))))),
 (72,(.pair (.int .i64) (.pair (.int .i64) (.pair .str (.pair .str (.pair (.int .i64) (.pair (.int .i64) .unit))))))),
 (76,(.pair .str (.pair .str (.pair (.int .i64) .unit)))),
 (86,(.pair (.int .i64) (.pair (.int .i64) (.pair (.slice (.pair .str (.pair (.int .i64) (.pair (.int .i64) (.pair (.int .i64) (.pair (.int .i64) .unit)))))) .unit)))),
 (87,(.pair (.int .i64) (.pair (.int .i64) (.pair (.slice (.pair .str (.pair (.int .i64) (.pair (.int .i64) (.pair (.int .i64) (.pair (.int .i64) .unit)))))) .unit)))),
 (93,(.slice .str)),
 (96,(.pair .str (.pair .str (.pair (.int .i64) .unit)))),
 (102,(.slice (.pair (.int .i64) (.pair (.int .i64) (.pair .str (.pair .str (.pair (.int .i64) (.pair (.int .i64) .unit)))))))),
 (111,(.pair (.slice (.pair .str (.pair (.int .i64) (.pair (.int .i64) (.pair (.int .i64) (.pair (.int .i64) .unit)))))) (.pair (.int .i64) (.pair (.int .i64) .unit)))),
 (112,(.pair (.slice (.pair .str (.pair (.int .i64) (.pair (.int .i64) (.pair (.int .i64) (.pair (.int .i64) .unit)))))) (.pair (.int .i64) (.pair (.int .i64) .unit)))),
 (153,(.pair (.int .i64) (.pair (.int .i64) (.pair (.int .i64) (.pair (.pair (.int .i64) (.pair (.int .i64) (.pair .str (.pair .str (.pair (.int .i64) (.pair (.int .i64) .unit)))))) .unit))))),
 (113,(.slice (.pair (.int .i64) (.pair (.int .i64) (.pair (.int .i64) (.pair (.pair (.int .i64) (.pair (.int .i64) (.pair .str (.pair .str (.pair (.int .i64) (.pair (.int .i64) .unit)))))) .unit)))))),
 (123,(.pair .str (.pair .bool (.pair .str .unit)))),
 (130,(.pair (.int .i64) (.pair (.int .i64) (.pair (.pair (.int .i64) (.pair (.int .i64) (.pair .str (.pair .str (.pair (.int .i64) (.pair (.int .i64) .unit)))))) .unit)))),
 (152,(.pair (.int .i64) (.pair (.int .i64) (.pair (.int .i64) (.pair (.pair (.int .i64) (.pair (.int .i64) (.pair .str (.pair .str (.pair (.int .i64) (.pair (.int .i64) .unit)))))) .unit))))),
 (159,(.int .u64)),
 (168,.opq),
 (169,(.pair .str (.pair .bool .unit))),
 (170,(.pair .str (.pair .bool .unit))),
 (173,(.int .u32)),
 (178,(.int .u64)),
 (199,.opq)],
 [(25,[(0,1),(1,1)]),(26,[(0,1),(1,1)]),(37,[(0,1),(1,1),(2,1),(3,1),(4,1)]),(28,[(0,2),(2,1),(3,1),(4,1),(5,1)]),(29,[(0,2),(2,1),(3,1),(4,1),(5,1)]),(97,[(0,1),(1,1),(2,1)]),(31,[(0,1),(1,1),(2,1),(3,1)]),(32,[(0,1),(1,1),(2,1),(3,1)]),(36,[(0,1),(1,1),(2,1),(3,1),(4,1)]),(77,[(0,1),(1,1),(2,1)]),(56,[(0,1),(1,1),(2,1)]),(57,[(0,1),(1,1),(2,1)]),(124,[(0,1),(1,1),(2,1)]),(73,[(0,1),(1,1),(2,1),(3,1),(4,1),(5,1)]),(131,[(0,1),(1,1),(2,6)]),(72,[(0,1),(1,1),(2,1),(3,1),(4,1),(5,1)]),(76,[(0,1),(1,1),(2,1)]),(86,[(0,1),(1,1),(2,1)]),(87,[(0,1),(1,1),(2,1)]),(96,[(0,1),(1,1),(2,1)]),(111,[(0,1),(1,1),(2,1)]),(112,[(0,1),(1,1),(2,1)]),(153,[(0,1),(1,1),(2,1),(3,6)]),(123,[(0,1),(1,1),(2,1)]),(130,[(0,1),(1,1),(2,6)]),(152,[(0,1),(1,1),(2,1),(3,6)]),(169,[(0,1),(1,1)]),(170,[(0,1),(1,1)])],
 [(37,[.str,(.int .i64),(.int .i64),(.int .i64),(.int .i64)]),(97,[.str,.str,(.int .i64)]),(36,[.str,(.int .i64),(.int .i64),(.int .i64),(.int .i64)]),(77,[.str,.str,(.int .i64)]),(124,[.str,.bool,.str]),(73,[(.int .i64),(.int .i64),.str,.str,(.int .i64),(.int .i64)]),(72,[(.int .i64),(.int .i64),.str,.str,(.int .i64),(.int .i64)]),(76,[.str,.str,(.int .i64)]),(96,[.str,.str,(.int .i64)]),(123,[.str,.bool,.str]),(169,[.str,.bool]),(170,[.str,.bool])],
 [(25,[3,24]),(26,[3,24]),(37,[9,3,3,3,3]),(28,[26,27,3,3,3]),(29,[26,27,3,3,3]),(97,[9,9,3]),(31,[30,3,3,4]),(32,[30,3,3,4]),(36,[9,3,3,3,3]),(77,[9,9,3]),(56,[22,3,3]),(57,[22,3,3]),(124,[9,4,9]),(73,[3,3,9,9,3,3]),(131,[3,3,73]),(72,[3,3,9,9,3,3]),(76,[9,9,3]),(86,[3,3,27]),(87,[3,3,27]),(96,[9,9,3]),(111,[27,3,3]),(112,[27,3,3]),(153,[3,3,3,73]),(123,[9,4,9]),(130,[3,3,73]),(152,[3,3,3,73]),(169,[9,4]),(170,[9,4])]⟩
theorem tb_ok:tabCheck Tryz.prog tb=true:=by kernel_rfl
theorem tb_rows:rowsCheck tb=true:=by kernel_rfl
theorem tb_eqs:eqsCheck Tryz.prog tb=true:=by kernel_rfl
theorem mixed:Tryz.prog.follows .mixedOrders=true:=by kernel_rfl
theorem gPow:Tryz.prog.globalNamed "internal/strconv.uint64pow10" = some 0:=by kernel_rfl
theorem var_frame {P:Program} {w w':World} {name:String} {i n:Nat} (hg:P.globalNamed name=some i) (hi:i<n) (h:∀ k,k<n→w'.heap[k]?=w.heap[k]?):w'.var? P name=w.var? P name:=by
 unfold World.var?
 rw [hg,Option.bind_some,Option.bind_some,h i hi]
def J:Gl where
 n:=1
 ok:=fun w=>1≤w.heap.size∧Lib.TabIs Tryz.prog w "internal/strconv.uint64pow10" .u64 Lib.pow10Tab∧True
 lt:=fun w h=>h.1
 frame:=fun w w' h hb hs=>⟨Nat.le_trans h.1 hs,(by unfold Lib.TabIs;rw [var_frame gPow (by decide) hb];exact h.2.1),trivial⟩
def bt:Nat→Nat→List Bool
 | 0,_=>[]
 | d+1,n=>(n % 2==1)::bt d (n/2)
noncomputable def lpK {R:Type} (E:Env) (c:Code) (g:Nat) (lv:List Nat) (K:Ex→St→Option R) (n:Nat):Ex→St→Option R:=fun e st=>match e with
 | .normal=>loopN (exec E c) (canon g lv) K n (canon g lv st)
 | .ret=>K .ret st
 | .exit j=>K (.exit j) st
theorem loop_eq {α:Type} {V l:Nat→α} {b:α→α} (h0:V 0=l 0) (hs:∀ n,V (n+1)=b (V n)) (hl:∀ n,l (n+1)=b (l n)):V=l :=
 funext fun n=>by
  induction n with
  | zero=>exact h0
  | succ n ih=>rw [hs,hl,ih]
def Cts (P:Program) (ct:List (Nat × Cn)):Prop:=∀ g c,V.look ct g=some c→Ctr J P g c
theorem Cts.nil {P:Program}:Cts P []:=fun g c h=>by cases h
theorem Cts.cons {P:Program} {f:Nat} {c:Cn} {ct:List (Nat × Cn)} (h:Ctr J P f c) (t:Cts P ct):Cts P ((f,c)::ct):=fun g d q=>by
 simp only [V.look] at q
 cases hb:Nat.beq f g with
 | true=>rw [hb] at q;cases q;rw [← Nat.eq_of_beq_eq_true hb];exact h
 | false=>rw [hb] at q;exact t g d q
structure Ce where
 f:Nat
 c:Cn
 h:Ctr J Tryz.prog f c
def q {f:Nat} {c:Cn} (h:Ctr J Tryz.prog f c):Ce:=⟨f,c,h⟩
def ctOf:List Ce→List (Nat × Cn)
 | []=>[]
 | e::l=>(e.f,e.c)::ctOf l
theorem ctsOf:∀ l:List Ce,Cts Tryz.prog (ctOf l)
 | []=>Cts.nil
 | e::l=>Cts.cons e.h (ctsOf l)
def en (D:List Ce) (lv:List (Nat × List Nat)) (g:Nat) (jn:List (Nat × List Nat)) (k:Nat):Env:=⟨tb,ctOf D,lv,k,g,jn⟩
noncomputable def eK (E:Env) (f:Func) (c:Cn) (x:(tup (ins c.A)).den):Ex→St→Option (tup (outT c.A++c.R)).den:=endK E f.results.toList c.A x c.R c.fresh c.al
noncomputable def eB (E:Env) (f:Func) (c:Cn) (x:(tup (ins c.A)).den):Ex→St→Option (tup (outT c.A++c.R)).den:=endB E f.results.toList c.A x c.R
noncomputable def rn (E:Env) (f:Func) (c:Cn) (x:(tup (ins c.A)).den):Option (tup (outT c.A++c.R)).den:=run E f c.A c.R c.fresh c.al x
noncomputable def rb (E:Env) (f:Func) (c:Cn) (x:(tup (ins c.A)).den):Option (tup (outT c.A++c.R)).den:=runB E f c.A c.R x
abbrev Cp (f:Nat) (c:Cn):Prop:=Ctr J Tryz.prog f c
theorem rc {f:Nat} {fn:Func} {b:Code} {c:Cn} {lv jn:List (Nat × List Nat)} {g k:Nat} (hbx:isBx c.R=false) (D:List Ce) (hEg:g=rootN c.A) (hf:Tryz.prog.funcs[f]?=some fn) (hname:(fn.name == "runtime.NumGoroutine")=false) (hb:fn.body=some b)
 (hg:∀ x r,c.fn x=some r→rn (en D lv g jn k) fn c x=some r):Cp f c:=by
 obtain ⟨A,R,fr,al,fn'⟩:=c
 exact run_ctr (E:=en D lv g jn k) hbx mixed tb_ok (eqOk_of tb_eqs) (ctsOf D) hEg hf hname hb hg
theorem rcb {f:Nat} {fn:Func} {b:Code} {c:Cn} {lv jn:List (Nat × List Nat)} {g k:Nat} (hfr:c.fresh=false) (hal:c.al=true) (hbx:isBx c.R=true) (D:List Ce) (hEg:g=rootN c.A) (hf:Tryz.prog.funcs[f]?=some fn) (hname:(fn.name == "runtime.NumGoroutine")=false) (hb:fn.body=some b)
 (hg:∀ x r,c.fn x=some r→rb (en D lv g jn k) fn c x=some r):Cp f c:=by
 obtain ⟨A,R,fr,al,fn'⟩:=c
 cases hfr
 cases hal
 exact run_box (E:=en D lv g jn k) hbx mixed tb_ok (eqOk_of tb_eqs) (ctsOf D) hEg hf hname hb hg
end Go.Proofs.YtckpkdiinmjdaaaGreatDoor.G
