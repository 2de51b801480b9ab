/- V's table of the types of this seat, and its checks. -/
import Derived.Test.YtmakghhmpgfboaaGreatDoorProg
import Derived.Test.YtmakghhmpgfboaaGreatDoorVS9
import Derived.Test.YtmakghhmpgfboaaGreatDoorVS10
import Derived.Lib.LaidTab
import Derived.Lib.ItoaNum
set_option maxRecDepth 100000
namespace Go.Proofs.YtmakghhmpgfboaaGreatDoor.G
open Go.V
def tb:Tab:=⟨[(2,(.int .i64)),
 (3,(.int .i64)),
 (4,.bool),
 (5,(.int .u8)),
 (9,.str),
 (12,(.int .u64)),
 (21,(.int .i32)),
 (22,(.slice (.int .u8))),
 (62,(.pair .str (.pair .str (.pair (.int .i64) .unit)))),
 (24,(.slice (.pair .str (.pair .str (.pair (.int .i64) .unit))))),
 (31,(.slice (.int .i64))),
 (32,(.pair (.int .i64) (.pair (.slice (.int .i64)) .unit))),
 (33,(.pair (.int .i64) (.pair (.slice (.int .i64)) .unit))),
 (104,(.pair .str (.pair (.int .i64) (.pair (.int .i64) (.pair (.int .i64) (.pair (.int .i64) .unit)))))),
 (34,(.slice (.pair .str (.pair (.int .i64) (.pair (.int .i64) (.pair (.int .i64) (.pair (.int .i64) .unit))))))),
 (35,(.pair (.pair (.int .i64) (.pair (.slice (.int .i64)) .unit)) (.pair (.slice (.pair .str (.pair (.int .i64) (.pair (.int .i64) (.pair (.int .i64) (.pair (.int .i64) .unit)))))) (.pair (.int .i64) (.pair (.int .i64) (.pair (.int .i64) .unit)))))),
 (36,(.pair (.pair (.int .i64) (.pair (.slice (.int .i64)) .unit)) (.pair (.slice (.pair .str (.pair (.int .i64) (.pair (.int .i64) (.pair (.int .i64) (.pair (.int .i64) .unit)))))) (.pair (.int .i64) (.pair (.int .i64) (.pair (.int .i64) .unit)))))),
 (153,(.pair .str (.pair .str (.pair (.int .i64) .unit)))),
 (37,(.slice (.pair .str (.pair .str (.pair (.int .i64) .unit))))),
 (38,(.pair (.slice (.pair .str (.pair .str (.pair (.int .i64) .unit)))) (.pair (.int .i64) (.pair (.int .i64) (.pair .bool .unit))))),
 (39,(.pair (.slice (.pair .str (.pair .str (.pair (.int .i64) .unit)))) (.pair (.int .i64) (.pair (.int .i64) (.pair .bool .unit))))),
 (60,(.pair .str (.pair .bool (.pair .str .unit)))),
 (47,(.slice (.pair .str (.pair .bool (.pair .str .unit))))),
 (108,(.pair .str (.pair (.int .i64) (.pair .str .unit)))),
 (50,(.slice (.pair .str (.pair (.int .i64) (.pair .str .unit))))),
 (51,(.pair (.int .i64) (.pair (.slice (.pair .str (.pair (.int .i64) (.pair .str .unit)))) (.pair (.int .i64) .unit)))),
 (52,(.pair (.int .i64) (.pair (.slice (.pair .str (.pair (.int .i64) (.pair .str .unit)))) (.pair (.int .i64) .unit)))),
 (57,(.slice .str)),
 (59,(.pair .str (.pair .bool (.pair .str .unit)))),
 (61,(.pair .str (.pair .str (.pair (.int .i64) .unit)))),
 (68,.opq),
 (74,(.pair (.int .i64) (.pair (.int .i64) (.pair .str (.pair .str (.pair (.int .i64) (.pair (.int .i64) .unit))))))),
 (71,(.slice (.pair (.int .i64) (.pair (.int .i64) (.pair .str (.pair .str (.pair (.int .i64) (.pair (.int .i64) .unit)))))))),
 (73,(.pair (.int .i64) (.pair (.int .i64) (.pair .str (.pair .str (.pair (.int .i64) (.pair (.int .i64) .unit))))))),
 (81,(.pair (.int .i64) (.pair (.int .i64) (.pair (.pair (.int .i64) (.pair (.int .i64) (.pair .str (.pair .str (.pair (.int .i64) (.pair (.int .i64) .unit)))))) .unit)))),
 (77,(.slice (.pair (.int .i64) (.pair (.int .i64) (.pair (.pair (.int .i64) (.pair (.int .i64) (.pair .str (.pair .str (.pair (.int .i64) (.pair (.int .i64) .unit)))))) .unit))))),
 (80,(.pair (.int .i64) (.pair (.int .i64) (.pair (.pair (.int .i64) (.pair (.int .i64) (.pair .str (.pair .str (.pair (.int .i64) (.pair (.int .i64) .unit)))))) .unit)))),
 (103,(.pair .str (.pair (.int .i64) (.pair (.int .i64) (.pair (.int .i64) (.pair (.int .i64) .unit)))))),
 (107,(.pair .str (.pair (.int .i64) (.pair .str .unit)))),
 (114,(.pair (.slice (.int .u8)) (.pair (.int .i64) (.pair (.int .i64) .unit)))),
 (115,(.pair (.slice (.int .u8)) (.pair (.int .i64) (.pair (.int .i64) .unit)))),
 (127,.opq),
 (128,(.pair (.pair (.slice (.pair .str (.pair .str (.pair (.int .i64) .unit)))) (.pair (.int .i64) (.pair (.int .i64) (.pair .bool .unit)))) (.pair (.int .i64) .unit))),
 (129,(.pair (.pair (.slice (.pair .str (.pair .str (.pair (.int .i64) .unit)))) (.pair (.int .i64) (.pair (.int .i64) (.pair .bool .unit)))) (.pair (.int .i64) .unit))),
 (141,(.pair (.int .i64) (.pair (.int .i64) (.pair (.int .i64) (.pair (.pair (.int .i64) (.pair (.int .i64) (.pair .str (.pair .str (.pair (.int .i64) (.pair (.int .i64) .unit)))))) .unit))))),
 (142,(.pair (.int .i64) (.pair (.int .i64) (.pair (.int .i64) (.pair (.pair (.int .i64) (.pair (.int .i64) (.pair .str (.pair .str (.pair (.int .i64) (.pair (.int .i64) .unit)))))) .unit))))),
 (152,(.pair .str (.pair .str (.pair (.int .i64) .unit)))),
 (155,(.int .u32)),
 (156,(.int .u64)),
 (159,.opq),
 (160,(.pair .str (.pair .bool .unit))),
 (161,(.pair .str (.pair .bool .unit))),
 (178,(.slice (.pair (.int .i64) (.pair (.int .i64) (.pair (.int .i64) (.pair (.pair (.int .i64) (.pair (.int .i64) (.pair .str (.pair .str (.pair (.int .i64) (.pair (.int .i64) .unit)))))) .unit)))))),
 (168,(.slice (.slice (.pair (.int .i64) (.pair (.int .i64) (.pair (.int .i64) (.pair (.pair (.int .i64) (.pair (.int .i64) (.pair .str (.pair .str (.pair (.int .i64) (.pair (.int .i64) .unit)))))) .unit))))))),
 (174,(.pair (.slice (.pair .str (.pair (.int .i64) (.pair (.int .i64) (.pair (.int .i64) (.pair (.int .i64) .unit)))))) (.pair (.int .i64) (.pair (.int .i64) .unit)))),
 (175,(.pair (.slice (.pair .str (.pair (.int .i64) (.pair (.int .i64) (.pair (.int .i64) (.pair (.int .i64) .unit)))))) (.pair (.int .i64) (.pair (.int .i64) .unit)))),
 (185,.opq),
 (189,(.pair (.int .i64) (.pair (.int .i64) (.pair (.slice (.pair .str (.pair (.int .i64) (.pair (.int .i64) (.pair (.int .i64) (.pair (.int .i64) .unit)))))) .unit)))),
 (190,(.pair (.int .i64) (.pair (.int .i64) (.pair (.slice (.pair .str (.pair (.int .i64) (.pair (.int .i64) (.pair (.int .i64) (.pair (.int .i64) .unit)))))) .unit)))),
 (204,.opq),
 (205,.opq),
 (226,.opq),
 (244,(.int .u64)),
 (249,(.int .i64)),
 (252,.opq),
 (267,.opq),
 (268,.opq),
 (269,(.pair .str .unit)),
 (270,(.pair .str .unit))],
 [(62,[(0,1),(1,1),(2,1)]),(32,[(0,1),(1,1)]),(33,[(0,1),(1,1)]),(104,[(0,1),(1,1),(2,1),(3,1),(4,1)]),(35,[(0,2),(2,1),(3,1),(4,1),(5,1)]),(36,[(0,2),(2,1),(3,1),(4,1),(5,1)]),(153,[(0,1),(1,1),(2,1)]),(38,[(0,1),(1,1),(2,1),(3,1)]),(39,[(0,1),(1,1),(2,1),(3,1)]),(60,[(0,1),(1,1),(2,1)]),(108,[(0,1),(1,1),(2,1)]),(51,[(0,1),(1,1),(2,1)]),(52,[(0,1),(1,1),(2,1)]),(59,[(0,1),(1,1),(2,1)]),(61,[(0,1),(1,1),(2,1)]),(74,[(0,1),(1,1),(2,1),(3,1),(4,1),(5,1)]),(73,[(0,1),(1,1),(2,1),(3,1),(4,1),(5,1)]),(81,[(0,1),(1,1),(2,6)]),(80,[(0,1),(1,1),(2,6)]),(103,[(0,1),(1,1),(2,1),(3,1),(4,1)]),(107,[(0,1),(1,1),(2,1)]),(114,[(0,1),(1,1),(2,1)]),(115,[(0,1),(1,1),(2,1)]),(128,[(0,4),(4,1)]),(129,[(0,4),(4,1)]),(141,[(0,1),(1,1),(2,1),(3,6)]),(142,[(0,1),(1,1),(2,1),(3,6)]),(152,[(0,1),(1,1),(2,1)]),(160,[(0,1),(1,1)]),(161,[(0,1),(1,1)]),(174,[(0,1),(1,1),(2,1)]),(175,[(0,1),(1,1),(2,1)]),(189,[(0,1),(1,1),(2,1)]),(190,[(0,1),(1,1),(2,1)]),(269,[(0,1)]),(270,[(0,1)])],
 [(62,[.str,.str,(.int .i64)]),(104,[.str,(.int .i64),(.int .i64),(.int .i64),(.int .i64)]),(153,[.str,.str,(.int .i64)]),(60,[.str,.bool,.str]),(108,[.str,(.int .i64),.str]),(59,[.str,.bool,.str]),(61,[.str,.str,(.int .i64)]),(74,[(.int .i64),(.int .i64),.str,.str,(.int .i64),(.int .i64)]),(73,[(.int .i64),(.int .i64),.str,.str,(.int .i64),(.int .i64)]),(103,[.str,(.int .i64),(.int .i64),(.int .i64),(.int .i64)]),(107,[.str,(.int .i64),.str]),(152,[.str,.str,(.int .i64)]),(160,[.str,.bool]),(161,[.str,.bool]),(269,[.str]),(270,[.str])],
 [(62,[9,9,3]),(32,[3,31]),(33,[3,31]),(104,[9,3,3,3,3]),(35,[33,34,3,3,3]),(36,[33,34,3,3,3]),(153,[9,9,3]),(38,[37,3,3,4]),(39,[37,3,3,4]),(60,[9,4,9]),(108,[9,3,9]),(51,[3,50,3]),(52,[3,50,3]),(59,[9,4,9]),(61,[9,9,3]),(74,[3,3,9,9,3,3]),(73,[3,3,9,9,3,3]),(81,[3,3,74]),(80,[3,3,74]),(103,[9,3,3,3,3]),(107,[9,3,9]),(114,[22,3,3]),(115,[22,3,3]),(128,[39,3]),(129,[39,3]),(141,[3,3,3,74]),(142,[3,3,3,74]),(152,[9,9,3]),(160,[9,4]),(161,[9,4]),(174,[34,3,3]),(175,[34,3,3]),(189,[3,3,34]),(190,[3,3,34]),(269,[9]),(270,[9])]⟩
theorem tb_ok:tabCheck Tryz.prog tb=true:=by kernel_rfl
theorem tb_rows:rowsCheck tb=true:=by kernel_rfl
theorem tb_eqs:eqsCheck Tryz.prog tb=true:=by kernel_rfl
theorem mixed:Tryz.prog.follows .mixedOrders=true:=by kernel_rfl
theorem gPow:Tryz.prog.globalNamed "internal/strconv.uint64pow10" = some 0:=by kernel_rfl
theorem var_frame {P:Program} {w w':World} {name:String} {i n:Nat} (hg:P.globalNamed name=some i) (hi:i<n) (h:∀ k,k<n→w'.heap[k]?=w.heap[k]?):w'.var? P name=w.var? P name:=by
 unfold World.var?
 rw [hg,Option.bind_some,Option.bind_some,h i hi]
def J:Gl where
 n:=1
 ok:=fun w=>1≤w.heap.size∧Lib.TabIs Tryz.prog w "internal/strconv.uint64pow10" .u64 Lib.pow10Tab∧True
 lt:=fun w h=>h.1
 frame:=fun w w' h hb hs=>⟨Nat.le_trans h.1 hs,(by unfold Lib.TabIs;rw [var_frame gPow (by decide) hb];exact h.2.1),trivial⟩
def bt:Nat→Nat→List Bool
 | 0,_=>[]
 | d+1,n=>(n % 2==1)::bt d (n/2)
noncomputable def lpK {R:Type} (E:Env) (c:Code) (g:Nat) (lv:List Nat) (K:Ex→St→Option R) (n:Nat):Ex→St→Option R:=fun e st=>match e with
 | .normal=>loopN (exec E c) (canon g lv) K n (canon g lv st)
 | .ret=>K .ret st
 | .exit j=>K (.exit j) st
theorem loop_eq {α:Type} {V l:Nat→α} {b:α→α} (h0:V 0=l 0) (hs:∀ n,V (n+1)=b (V n)) (hl:∀ n,l (n+1)=b (l n)):V=l :=
 funext fun n=>by
  induction n with
  | zero=>exact h0
  | succ n ih=>rw [hs,hl,ih]
def Cts (P:Program) (ct:List (Nat × Cn)):Prop:=∀ g c,V.look ct g=some c→Ctr J P g c
theorem Cts.nil {P:Program}:Cts P []:=fun g c h=>by cases h
theorem Cts.cons {P:Program} {f:Nat} {c:Cn} {ct:List (Nat × Cn)} (h:Ctr J P f c) (t:Cts P ct):Cts P ((f,c)::ct):=fun g d q=>by
 simp only [V.look] at q
 cases hb:Nat.beq f g with
 | true=>rw [hb] at q;cases q;rw [← Nat.eq_of_beq_eq_true hb];exact h
 | false=>rw [hb] at q;exact t g d q
structure Ce where
 f:Nat
 c:Cn
 h:Ctr J Tryz.prog f c
def q {f:Nat} {c:Cn} (h:Ctr J Tryz.prog f c):Ce:=⟨f,c,h⟩
def ctOf:List Ce→List (Nat × Cn)
 | []=>[]
 | e::l=>(e.f,e.c)::ctOf l
theorem ctsOf:∀ l:List Ce,Cts Tryz.prog (ctOf l)
 | []=>Cts.nil
 | e::l=>Cts.cons e.h (ctsOf l)
def en (D:List Ce) (lv:List (Nat × List Nat)) (g:Nat) (jn:List (Nat × List Nat)) (k:Nat):Env:=⟨tb,ctOf D,lv,k,g,jn⟩
noncomputable def eK (E:Env) (f:Func) (c:Cn) (x:(tup (ins c.A)).den):Ex→St→Option (tup (outT c.A++c.R)).den:=endK E f.results.toList c.A x c.R c.fresh c.al
noncomputable def eB (E:Env) (f:Func) (c:Cn) (x:(tup (ins c.A)).den):Ex→St→Option (tup (outT c.A++c.R)).den:=endB E f.results.toList c.A x c.R
noncomputable def rn (E:Env) (f:Func) (c:Cn) (x:(tup (ins c.A)).den):Option (tup (outT c.A++c.R)).den:=run E f c.A c.R c.fresh c.al x
noncomputable def rb (E:Env) (f:Func) (c:Cn) (x:(tup (ins c.A)).den):Option (tup (outT c.A++c.R)).den:=runB E f c.A c.R x
abbrev Cp (f:Nat) (c:Cn):Prop:=Ctr J Tryz.prog f c
theorem rc {f:Nat} {fn:Func} {b:Code} {c:Cn} {lv jn:List (Nat × List Nat)} {g k:Nat} (hbx:isBx c.R=false) (D:List Ce) (hEg:g=rootN c.A) (hf:Tryz.prog.funcs[f]?=some fn) (hname:(fn.name == "runtime.NumGoroutine")=false) (hb:fn.body=some b)
 (hg:∀ x r,c.fn x=some r→rn (en D lv g jn k) fn c x=some r):Cp f c:=by
 obtain ⟨A,R,fr,al,fn'⟩:=c
 exact run_ctr (E:=en D lv g jn k) hbx mixed tb_ok (eqOk_of tb_eqs) (ctsOf D) hEg hf hname hb hg
theorem rcb {f:Nat} {fn:Func} {b:Code} {c:Cn} {lv jn:List (Nat × List Nat)} {g k:Nat} (hfr:c.fresh=false) (hal:c.al=true) (hbx:isBx c.R=true) (D:List Ce) (hEg:g=rootN c.A) (hf:Tryz.prog.funcs[f]?=some fn) (hname:(fn.name == "runtime.NumGoroutine")=false) (hb:fn.body=some b)
 (hg:∀ x r,c.fn x=some r→rb (en D lv g jn k) fn c x=some r):Cp f c:=by
 obtain ⟨A,R,fr,al,fn'⟩:=c
 cases hfr
 cases hal
 exact run_box (E:=en D lv g jn k) hbx mixed tb_ok (eqOk_of tb_eqs) (ctsOf D) hEg hf hname hb hg
end Go.Proofs.YtmakghhmpgfboaaGreatDoor.G
