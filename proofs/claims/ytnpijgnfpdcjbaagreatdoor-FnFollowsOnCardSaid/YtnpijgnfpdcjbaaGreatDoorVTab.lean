/- V's table of the types of this seat, and its checks. -/
import Derived.Test.YtnpijgnfpdcjbaaGreatDoorProg
import Derived.Test.YtnpijgnfpdcjbaaGreatDoorVS9
import Derived.Test.YtnpijgnfpdcjbaaGreatDoorVS10
import Derived.Lib.LaidTab
import Derived.Lib.ItoaNum
set_option maxRecDepth 100000
namespace Go.Proofs.YtnpijgnfpdcjbaaGreatDoor.G
open Go.V
def tb:kp:=⟨[(2,(.int .i64)),
 (3,(.int .i64)),
 (4,.bool),
 (5,(.int .u8)),
 (9,.str),
 (12,(.int .u64)),
 (21,(.int .i32)),
 (22,(.slice (.int .u8))),
 (52,(.pair (.int .i64) (.pair (.int .i64) (.pair .str (.pair .str (.pair (.int .i64) .unit)))))),
 (24,(.slice (.pair (.int .i64) (.pair (.int .i64) (.pair .str (.pair .str (.pair (.int .i64) .unit))))))),
 (25,(.pair (.int .i64) (.pair (.int .i64) (.pair (.slice (.pair (.int .i64) (.pair (.int .i64) (.pair .str (.pair .str (.pair (.int .i64) .unit)))))) .unit)))),
 (26,(.pair (.int .i64) (.pair (.int .i64) (.pair (.slice (.pair (.int .i64) (.pair (.int .i64) (.pair .str (.pair .str (.pair (.int .i64) .unit)))))) .unit)))),
 (28,(.slice (.int .i64))),
 (29,(.pair (.int .i64) (.pair (.slice (.int .i64)) .unit))),
 (30,(.pair (.int .i64) (.pair (.slice (.int .i64)) .unit))),
 (118,(.pair .str (.pair (.int .i64) (.pair (.int .i64) (.pair (.int .i64) (.pair (.int .i64) .unit)))))),
 (31,(.slice (.pair .str (.pair (.int .i64) (.pair (.int .i64) (.pair (.int .i64) (.pair (.int .i64) .unit))))))),
 (32,(.pair (.pair (.int .i64) (.pair (.slice (.int .i64)) .unit)) (.pair (.slice (.pair .str (.pair (.int .i64) (.pair (.int .i64) (.pair (.int .i64) (.pair (.int .i64) .unit)))))) (.pair (.int .i64) (.pair (.int .i64) (.pair (.int .i64) .unit)))))),
 (33,(.pair (.pair (.int .i64) (.pair (.slice (.int .i64)) .unit)) (.pair (.slice (.pair .str (.pair (.int .i64) (.pair (.int .i64) (.pair (.int .i64) (.pair (.int .i64) .unit)))))) (.pair (.int .i64) (.pair (.int .i64) (.pair (.int .i64) .unit)))))),
 (153,(.pair .str (.pair .str (.pair (.int .i64) .unit)))),
 (34,(.slice (.pair .str (.pair .str (.pair (.int .i64) .unit))))),
 (35,(.pair (.slice (.pair .str (.pair .str (.pair (.int .i64) .unit)))) (.pair (.int .i64) (.pair (.int .i64) (.pair .bool .unit))))),
 (36,(.pair (.slice (.pair .str (.pair .str (.pair (.int .i64) .unit)))) (.pair (.int .i64) (.pair (.int .i64) (.pair .bool .unit))))),
 (203,(.pair .str (.pair (.int .i64) .unit))),
 (91,(.slice (.pair .str (.pair (.int .i64) .unit)))),
 (95,(.pair .str (.pair .bool (.pair .str .unit)))),
 (70,(.slice (.pair .str (.pair .bool (.pair .str .unit))))),
 (93,(.pair .bool (.pair (.slice (.pair .str (.pair (.int .i64) .unit))) (.pair (.slice (.pair .str (.pair .bool (.pair .str .unit)))) .unit)))),
 (37,(.slice (.pair .bool (.pair (.slice (.pair .str (.pair (.int .i64) .unit))) (.pair (.slice (.pair .str (.pair .bool (.pair .str .unit)))) .unit))))),
 (38,(.pair .bool (.pair (.pair (.pair (.int .i64) (.pair (.slice (.int .i64)) .unit)) (.pair (.slice (.pair .str (.pair (.int .i64) (.pair (.int .i64) (.pair (.int .i64) (.pair (.int .i64) .unit)))))) (.pair (.int .i64) (.pair (.int .i64) (.pair (.int .i64) .unit))))) (.pair (.pair (.slice (.pair .str (.pair .str (.pair (.int .i64) .unit)))) (.pair (.int .i64) (.pair (.int .i64) (.pair .bool .unit)))) (.pair (.slice (.pair .bool (.pair (.slice (.pair .str (.pair (.int .i64) .unit))) (.pair (.slice (.pair .str (.pair .bool (.pair .str .unit)))) .unit)))) .unit))))),
 (39,(.pair .bool (.pair (.pair (.pair (.int .i64) (.pair (.slice (.int .i64)) .unit)) (.pair (.slice (.pair .str (.pair (.int .i64) (.pair (.int .i64) (.pair (.int .i64) (.pair (.int .i64) .unit)))))) (.pair (.int .i64) (.pair (.int .i64) (.pair (.int .i64) .unit))))) (.pair (.pair (.slice (.pair .str (.pair .str (.pair (.int .i64) .unit)))) (.pair (.int .i64) (.pair (.int .i64) (.pair .bool .unit)))) (.pair (.slice (.pair .bool (.pair (.slice (.pair .str (.pair (.int .i64) .unit))) (.pair (.slice (.pair .str (.pair .bool (.pair .str .unit)))) .unit)))) .unit))))),
 (107,(.pair (.int .i64) (.pair .str .unit))),
 (43,(.slice (.pair (.int .i64) (.pair .str .unit)))),
 (44,(.pair (.int .i64) (.pair (.slice (.pair (.int .i64) (.pair .str .unit))) .unit))),
 (45,(.pair (.int .i64) (.pair (.slice (.pair (.int .i64) (.pair .str .unit))) .unit))),
 (46,(.slice .str)),
 (47,(.pair (.int .i64) (.pair .str (.pair (.slice .str) .unit)))),
 (48,(.pair (.int .i64) (.pair .str (.pair (.slice .str) .unit)))),
 (51,(.pair (.int .i64) (.pair (.int .i64) (.pair .str (.pair .str (.pair (.int .i64) .unit)))))),
 (103,(.pair (.int .i64) (.pair (.int .i64) (.pair .str .unit)))),
 (54,(.slice (.pair (.int .i64) (.pair (.int .i64) (.pair .str .unit))))),
 (55,(.pair (.int .i64) (.pair (.slice (.pair (.int .i64) (.pair (.int .i64) (.pair .str .unit)))) .unit))),
 (56,(.pair (.int .i64) (.pair (.slice (.pair (.int .i64) (.pair (.int .i64) (.pair .str .unit)))) .unit))),
 (124,(.pair .str (.pair .str (.pair (.int .i64) .unit)))),
 (61,(.slice (.pair .str (.pair .str (.pair (.int .i64) .unit))))),
 (68,(.slice (.pair (.int .i64) (.pair .str (.pair (.slice .str) .unit))))),
 (178,(.pair (.int .i64) (.pair (.slice (.pair .str (.pair .bool (.pair .str .unit)))) .unit))),
 (69,(.slice (.pair (.int .i64) (.pair (.slice (.pair .str (.pair .bool (.pair .str .unit)))) .unit)))),
 (71,(.pair (.pair .bool (.pair (.pair (.pair (.int .i64) (.pair (.slice (.int .i64)) .unit)) (.pair (.slice (.pair .str (.pair (.int .i64) (.pair (.int .i64) (.pair (.int .i64) (.pair (.int .i64) .unit)))))) (.pair (.int .i64) (.pair (.int .i64) (.pair (.int .i64) .unit))))) (.pair (.pair (.slice (.pair .str (.pair .str (.pair (.int .i64) .unit)))) (.pair (.int .i64) (.pair (.int .i64) (.pair .bool .unit)))) (.pair (.slice (.pair .bool (.pair (.slice (.pair .str (.pair (.int .i64) .unit))) (.pair (.slice (.pair .str (.pair .bool (.pair .str .unit)))) .unit)))) .unit)))) (.pair (.slice (.pair (.int .i64) (.pair .str (.pair (.slice .str) .unit)))) (.pair (.slice (.pair (.int .i64) (.pair (.slice (.pair .str (.pair .bool (.pair .str .unit)))) .unit))) (.pair (.slice (.pair .str (.pair .bool (.pair .str .unit)))) .unit))))),
 (72,(.pair (.pair .bool (.pair (.pair (.pair (.int .i64) (.pair (.slice (.int .i64)) .unit)) (.pair (.slice (.pair .str (.pair (.int .i64) (.pair (.int .i64) (.pair (.int .i64) (.pair (.int .i64) .unit)))))) (.pair (.int .i64) (.pair (.int .i64) (.pair (.int .i64) .unit))))) (.pair (.pair (.slice (.pair .str (.pair .str (.pair (.int .i64) .unit)))) (.pair (.int .i64) (.pair (.int .i64) (.pair .bool .unit)))) (.pair (.slice (.pair .bool (.pair (.slice (.pair .str (.pair (.int .i64) .unit))) (.pair (.slice (.pair .str (.pair .bool (.pair .str .unit)))) .unit)))) .unit)))) (.pair (.slice (.pair (.int .i64) (.pair .str (.pair (.slice .str) .unit)))) (.pair (.slice (.pair (.int .i64) (.pair (.slice (.pair .str (.pair .bool (.pair .str .unit)))) .unit))) (.pair (.slice (.pair .str (.pair .bool (.pair .str .unit)))) .unit))))),
 (77,.opq),
 (92,(.pair .bool (.pair (.slice (.pair .str (.pair (.int .i64) .unit))) (.pair (.slice (.pair .str (.pair .bool (.pair .str .unit)))) .unit)))),
 (94,(.pair .str (.pair .bool (.pair .str .unit)))),
 (102,(.pair (.int .i64) (.pair (.int .i64) (.pair .str .unit)))),
 (106,(.pair (.int .i64) (.pair .str .unit))),
 (120,(.pair (.int .i64) (.pair (.int .i64) (.pair .str (.pair .str (.pair (.int .i64) (.pair (.int .i64) .unit))))))),
 (170,(.pair (.int .i64) (.pair (.int .i64) (.pair (.int .i64) (.pair (.pair (.int .i64) (.pair (.int .i64) (.pair .str (.pair .str (.pair (.int .i64) (.pair (.int .i64) .unit)))))) .unit))))),
 (109,(.slice (.pair (.int .i64) (.pair (.int .i64) (.pair (.int .i64) (.pair (.pair (.int .i64) (.pair (.int .i64) (.pair .str (.pair .str (.pair (.int .i64) (.pair (.int .i64) .unit)))))) .unit)))))),
 (168,(.pair (.int .i64) (.pair (.int .i64) (.pair (.pair (.int .i64) (.pair (.int .i64) (.pair .str (.pair .str (.pair (.int .i64) (.pair (.int .i64) .unit)))))) .unit)))),
 (110,(.slice (.pair (.int .i64) (.pair (.int .i64) (.pair (.pair (.int .i64) (.pair (.int .i64) (.pair .str (.pair .str (.pair (.int .i64) (.pair (.int .i64) .unit)))))) .unit))))),
 (114,(.pair (.slice (.pair .str (.pair (.int .i64) (.pair (.int .i64) (.pair (.int .i64) (.pair (.int .i64) .unit)))))) (.pair (.int .i64) (.pair (.int .i64) .unit)))),
 (115,(.pair (.slice (.pair .str (.pair (.int .i64) (.pair (.int .i64) (.pair (.int .i64) (.pair (.int .i64) .unit)))))) (.pair (.int .i64) (.pair (.int .i64) .unit)))),
 (117,(.pair .str (.pair (.int .i64) (.pair (.int .i64) (.pair (.int .i64) (.pair (.int .i64) .unit)))))),
 (119,(.pair (.int .i64) (.pair (.int .i64) (.pair .str (.pair .str (.pair (.int .i64) (.pair (.int .i64) .unit))))))),
 (123,(.pair .str (.pair .str (.pair (.int .i64) .unit)))),
 (131,(.pair (.slice (.int .u8)) (.pair (.int .i64) (.pair (.int .i64) .unit)))),
 (132,(.pair (.slice (.int .u8)) (.pair (.int .i64) (.pair (.int .i64) .unit)))),
 (142,(.pair (.int .i64) (.pair (.int .i64) (.pair (.slice (.pair .str (.pair (.int .i64) (.pair (.int .i64) (.pair (.int .i64) (.pair (.int .i64) .unit)))))) .unit)))),
 (143,(.pair (.int .i64) (.pair (.int .i64) (.pair (.slice (.pair .str (.pair (.int .i64) (.pair (.int .i64) (.pair (.int .i64) (.pair (.int .i64) .unit)))))) .unit)))),
 (152,(.pair .str (.pair .str (.pair (.int .i64) .unit)))),
 (167,(.pair (.int .i64) (.pair (.int .i64) (.pair (.pair (.int .i64) (.pair (.int .i64) (.pair .str (.pair .str (.pair (.int .i64) (.pair (.int .i64) .unit)))))) .unit)))),
 (169,(.pair (.int .i64) (.pair (.int .i64) (.pair (.int .i64) (.pair (.pair (.int .i64) (.pair (.int .i64) (.pair .str (.pair .str (.pair (.int .i64) (.pair (.int .i64) .unit)))))) .unit))))),
 (177,(.pair (.int .i64) (.pair (.slice (.pair .str (.pair .bool (.pair .str .unit)))) .unit))),
 (179,(.slice .bool)),
 (181,(.int .u64)),
 (202,(.pair .str (.pair (.int .i64) .unit))),
 (206,.opq),
 (207,(.pair .str (.pair .bool .unit))),
 (208,(.pair .str (.pair .bool .unit))),
 (214,(.slice (.pair (.int .i64) (.pair (.int .i64) (.pair .str (.pair .str (.pair (.int .i64) (.pair (.int .i64) .unit)))))))),
 (216,.opq),
 (235,(.int .u32)),
 (239,(.int .u64)),
 (260,.opq)],
 [(52,[(0,1),(1,1),(2,1),(3,1),(4,1)]),(25,[(0,1),(1,1),(2,1)]),(26,[(0,1),(1,1),(2,1)]),(29,[(0,1),(1,1)]),(30,[(0,1),(1,1)]),(118,[(0,1),(1,1),(2,1),(3,1),(4,1)]),(32,[(0,2),(2,1),(3,1),(4,1),(5,1)]),(33,[(0,2),(2,1),(3,1),(4,1),(5,1)]),(153,[(0,1),(1,1),(2,1)]),(35,[(0,1),(1,1),(2,1),(3,1)]),(36,[(0,1),(1,1),(2,1),(3,1)]),(203,[(0,1),(1,1)]),(95,[(0,1),(1,1),(2,1)]),(93,[(0,1),(1,1),(2,1)]),(38,[(0,1),(1,6),(7,4),(11,1)]),(39,[(0,1),(1,6),(7,4),(11,1)]),(107,[(0,1),(1,1)]),(44,[(0,1),(1,1)]),(45,[(0,1),(1,1)]),(47,[(0,1),(1,1),(2,1)]),(48,[(0,1),(1,1),(2,1)]),(51,[(0,1),(1,1),(2,1),(3,1),(4,1)]),(103,[(0,1),(1,1),(2,1)]),(55,[(0,1),(1,1)]),(56,[(0,1),(1,1)]),(124,[(0,1),(1,1),(2,1)]),(178,[(0,1),(1,1)]),(71,[(0,12),(12,1),(13,1),(14,1)]),(72,[(0,12),(12,1),(13,1),(14,1)]),(92,[(0,1),(1,1),(2,1)]),(94,[(0,1),(1,1),(2,1)]),(102,[(0,1),(1,1),(2,1)]),(106,[(0,1),(1,1)]),(120,[(0,1),(1,1),(2,1),(3,1),(4,1),(5,1)]),(170,[(0,1),(1,1),(2,1),(3,6)]),(168,[(0,1),(1,1),(2,6)]),(114,[(0,1),(1,1),(2,1)]),(115,[(0,1),(1,1),(2,1)]),(117,[(0,1),(1,1),(2,1),(3,1),(4,1)]),(119,[(0,1),(1,1),(2,1),(3,1),(4,1),(5,1)]),(123,[(0,1),(1,1),(2,1)]),(131,[(0,1),(1,1),(2,1)]),(132,[(0,1),(1,1),(2,1)]),(142,[(0,1),(1,1),(2,1)]),(143,[(0,1),(1,1),(2,1)]),(152,[(0,1),(1,1),(2,1)]),(167,[(0,1),(1,1),(2,6)]),(169,[(0,1),(1,1),(2,1),(3,6)]),(177,[(0,1),(1,1)]),(202,[(0,1),(1,1)]),(207,[(0,1),(1,1)]),(208,[(0,1),(1,1)])],
 [(52,[(.int .i64),(.int .i64),.str,.str,(.int .i64)]),(118,[.str,(.int .i64),(.int .i64),(.int .i64),(.int .i64)]),(153,[.str,.str,(.int .i64)]),(203,[.str,(.int .i64)]),(95,[.str,.bool,.str]),(107,[(.int .i64),.str]),(51,[(.int .i64),(.int .i64),.str,.str,(.int .i64)]),(103,[(.int .i64),(.int .i64),.str]),(124,[.str,.str,(.int .i64)]),(94,[.str,.bool,.str]),(102,[(.int .i64),(.int .i64),.str]),(106,[(.int .i64),.str]),(120,[(.int .i64),(.int .i64),.str,.str,(.int .i64),(.int .i64)]),(117,[.str,(.int .i64),(.int .i64),(.int .i64),(.int .i64)]),(119,[(.int .i64),(.int .i64),.str,.str,(.int .i64),(.int .i64)]),(123,[.str,.str,(.int .i64)]),(152,[.str,.str,(.int .i64)]),(202,[.str,(.int .i64)]),(207,[.str,.bool]),(208,[.str,.bool])],
 [(52,[3,3,9,9,3]),(25,[3,3,24]),(26,[3,3,24]),(29,[3,28]),(30,[3,28]),(118,[9,3,3,3,3]),(32,[30,31,3,3,3]),(33,[30,31,3,3,3]),(153,[9,9,3]),(35,[34,3,3,4]),(36,[34,3,3,4]),(203,[9,3]),(95,[9,4,9]),(93,[4,91,70]),(38,[4,33,36,37]),(39,[4,33,36,37]),(107,[3,9]),(44,[3,43]),(45,[3,43]),(47,[3,9,46]),(48,[3,9,46]),(51,[3,3,9,9,3]),(103,[3,3,9]),(55,[3,54]),(56,[3,54]),(124,[9,9,3]),(178,[3,70]),(71,[39,68,69,70]),(72,[39,68,69,70]),(92,[4,91,70]),(94,[9,4,9]),(102,[3,3,9]),(106,[3,9]),(120,[3,3,9,9,3,3]),(170,[3,3,3,120]),(168,[3,3,120]),(114,[31,3,3]),(115,[31,3,3]),(117,[9,3,3,3,3]),(119,[3,3,9,9,3,3]),(123,[9,9,3]),(131,[22,3,3]),(132,[22,3,3]),(142,[3,3,31]),(143,[3,3,31]),(152,[9,9,3]),(167,[3,3,120]),(169,[3,3,3,120]),(177,[3,70]),(202,[9,3]),(207,[9,4]),(208,[9,4])]⟩
theorem H5:cN Tryz.prog tb=true:=by kernel_rfl
theorem I6:lV tb=true:=by kernel_rfl
theorem HS:Ao Tryz.prog tb=true:=by kernel_rfl
theorem mixed:Tryz.prog.follows .mixedOrders=true:=by kernel_rfl
theorem KD:Tryz.prog.globalNamed "internal/strconv.uint64pow10" = some 0:=by kernel_rfl
theorem F3 {P:Program} {w w':World} {name:String} {i n:Nat} (hg:P.globalNamed name=some i) (hi:i<n) (h:∀ k,k<n→w'.heap[k]?=w.heap[k]?):w'.var? P name=w.var? P name:=by
 unfold World.var?
 rw [hg,Option.bind_some,Option.bind_some,h i hi]
def J:Gl where
 n:=1
 ok:=fun w=>1≤w.heap.size∧Lib.TabIs Tryz.prog w "internal/strconv.uint64pow10" .u64 Lib.pow10Tab∧True
 lt:=fun w h=>h.1
 frame:=fun w w' h hb hs=>⟨Nat.le_trans h.1 hs,(by unfold Lib.TabIs;rw [F3 KD (by decide) hb];exact h.2.1),trivial⟩
def bt:Nat→Nat→List Bool
 | 0,_=>[]
 | d+1,n=>(n % 2==1)::bt d (n/2)
noncomputable def KO {R:Type} (E:dO) (c:Code) (g:Nat) (lv:List Nat) (K:Ex→St→Option R) (n:Nat):Ex→St→Option R:=fun e st=>match e with
 | .normal=>ao (bo E c) (ak g lv) K n (ak g lv st)
 | .ret=>K .ret st
 | .exit j=>K (.exit j) st
theorem aY {α:Type} {V l:Nat→α} {b:α→α} (h0:V 0=l 0) (hs:∀ n,V (n+1)=b (V n)) (hl:∀ n,l (n+1)=b (l n)):V=l :=
 funext fun n=>by
  induction n with
  | zero=>exact h0
  | succ n ih=>rw [hs,hl,ih]
def J1 (P:Program) (ct:List (Nat × Cn)):Prop:=∀ g c,V.look ct g=some c→DV J P g c
theorem J1.nil {P:Program}:J1 P []:=fun g c h=>by cases h
theorem J1.cons {P:Program} {f:Nat} {c:Cn} {ct:List (Nat × Cn)} (h:DV J P f c) (t:J1 P ct):J1 P ((f,c)::ct):=fun g d q=>by
 simp only [V.look] at q
 cases hb:Nat.beq f g with
 | true=>rw [hb] at q;cases q;rw [← Nat.eq_of_beq_eq_true hb];exact h
 | false=>rw [hb] at q;exact t g d q
structure Ce where
 f:Nat
 c:Cn
 h:DV J Tryz.prog f c
def q {f:Nat} {c:Cn} (h:DV J Tryz.prog f c):Ce:=⟨f,c,h⟩
def K9:List Ce→List (Nat × Cn)
 | []=>[]
 | e::l=>(e.f,e.c)::K9 l
theorem HV:∀ l:List Ce,J1 Tryz.prog (K9 l)
 | []=>J1.nil
 | e::l=>J1.cons e.h (HV l)
def en (D:List Ce) (lv:List (Nat × List Nat)) (g:Nat) (jn:List (Nat × List Nat)) (k:Nat):dO:=⟨tb,K9 D,lv,k,g,jn⟩
noncomputable def eK (E:dO) (f:Func) (c:Cn) (x:(tup (nA c.A)).d):Ex→St→Option (tup (fw c.A++c.R)).d:=Ki E f.results.toList c.A x c.R c.fresh c.al
noncomputable def eB (E:dO) (f:Func) (c:Cn) (x:(tup (nA c.A)).d):Ex→St→Option (tup (fw c.A++c.R)).d:=Kl E f.results.toList c.A x c.R
noncomputable def rn (E:dO) (f:Func) (c:Cn) (x:(tup (nA c.A)).d):Option (tup (fw c.A++c.R)).d:=run E f c.A c.R c.fresh c.al x
noncomputable def rb (E:dO) (f:Func) (c:Cn) (x:(tup (nA c.A)).d):Option (tup (fw c.A++c.R)).d:=Je E f c.A c.R x
abbrev Cp (f:Nat) (c:Cn):Prop:=DV J Tryz.prog f c
theorem rc {f:Nat} {fn:Func} {b:Code} {c:Cn} {lv jn:List (Nat × List Nat)} {g k:Nat} (hbx:qp c.R=false) (D:List Ce) (hEg:g=cI c.A) (hf:Tryz.prog.funcs[f]?=some fn) (hname:(fn.name == "runtime.NumGoroutine")=false) (hb:fn.body=some b)
 (hg:∀ x r,c.fn x=some r→rn (en D lv g jn k) fn c x=some r):Cp f c:=by
 obtain ⟨A,R,fr,al,fn'⟩:=c
 exact I1 (E:=en D lv g jn k) hbx mixed H5 (Dg HS) (HV D) hEg hf hname hb hg
theorem LH {f:Nat} {fn:Func} {b:Code} {c:Cn} {lv jn:List (Nat × List Nat)} {g k:Nat} (hfr:c.fresh=false) (hal:c.al=true) (hbx:qp c.R=true) (D:List Ce) (hEg:g=cI c.A) (hf:Tryz.prog.funcs[f]?=some fn) (hname:(fn.name == "runtime.NumGoroutine")=false) (hb:fn.body=some b)
 (hg:∀ x r,c.fn x=some r→rb (en D lv g jn k) fn c x=some r):Cp f c:=by
 obtain ⟨A,R,fr,al,fn'⟩:=c
 cases hfr
 cases hal
 exact I2 (E:=en D lv g jn k) hbx mixed H5 (Dg HS) (HV D) hEg hf hname hb hg
end Go.Proofs.YtnpijgnfpdcjbaaGreatDoor.G
