/- V's table of the types of this seat, and its checks. -/
import Derived.Test.YtdbekilnpjmeaaaGreatDoorProg
import Derived.Test.YtdbekilnpjmeaaaGreatDoorVS9
import Derived.Test.YtdbekilnpjmeaaaGreatDoorVS10
import Derived.Lib.LaidTab
import Derived.Lib.ItoaNum
set_option maxRecDepth 100000
namespace Go.Proofs.YtdbekilnpjmeaaaGreatDoor.G
open Go.V
def tb:lM:=⟨[(2,(.int .i64)),
 (3,(.int .i64)),
 (4,.bool),
 (5,(.int .u8)),
 (9,.str),
 (12,(.int .u64)),
 (21,(.int .i32)),
 (22,(.slice (.int .u8))),
 (24,(.slice (.int .i64))),
 (25,(.pair (.int .i64) (.pair (.slice (.int .i64)) .unit))),
 (26,(.pair (.int .i64) (.pair (.slice (.int .i64)) .unit))),
 (69,(.pair .str (.pair (.int .i64) (.pair (.int .i64) (.pair (.int .i64) (.pair (.int .i64) .unit)))))),
 (27,(.slice (.pair .str (.pair (.int .i64) (.pair (.int .i64) (.pair (.int .i64) (.pair (.int .i64) .unit))))))),
 (28,(.pair (.pair (.int .i64) (.pair (.slice (.int .i64)) .unit)) (.pair (.slice (.pair .str (.pair (.int .i64) (.pair (.int .i64) (.pair (.int .i64) (.pair (.int .i64) .unit)))))) (.pair (.int .i64) (.pair (.int .i64) (.pair (.int .i64) .unit)))))),
 (29,(.pair (.pair (.int .i64) (.pair (.slice (.int .i64)) .unit)) (.pair (.slice (.pair .str (.pair (.int .i64) (.pair (.int .i64) (.pair (.int .i64) (.pair (.int .i64) .unit)))))) (.pair (.int .i64) (.pair (.int .i64) (.pair (.int .i64) .unit)))))),
 (67,(.pair .str (.pair .str (.pair (.int .i64) .unit)))),
 (30,(.slice (.pair .str (.pair .str (.pair (.int .i64) .unit))))),
 (31,(.pair (.slice (.pair .str (.pair .str (.pair (.int .i64) .unit)))) (.pair (.int .i64) (.pair (.int .i64) (.pair .bool .unit))))),
 (32,(.pair (.slice (.pair .str (.pair .str (.pair (.int .i64) .unit)))) (.pair (.int .i64) (.pair (.int .i64) (.pair .bool .unit))))),
 (77,(.pair .str (.pair .bool (.pair .str .unit)))),
 (33,(.slice (.pair .str (.pair .bool (.pair .str .unit))))),
 (71,(.pair .str (.pair .str (.pair (.int .i64) .unit)))),
 (41,(.slice (.pair .str (.pair .str (.pair (.int .i64) .unit))))),
 (47,(.pair (.int .i64) (.pair (.int .i64) .unit))),
 (48,(.pair (.int .i64) (.pair (.int .i64) .unit))),
 (50,(.slice .str)),
 (53,.opq),
 (59,.opq),
 (61,(.pair (.pair (.slice (.pair .str (.pair .str (.pair (.int .i64) .unit)))) (.pair (.int .i64) (.pair (.int .i64) (.pair .bool .unit)))) (.pair (.int .i64) .unit))),
 (62,(.pair (.pair (.slice (.pair .str (.pair .str (.pair (.int .i64) .unit)))) (.pair (.int .i64) (.pair (.int .i64) (.pair .bool .unit)))) (.pair (.int .i64) .unit))),
 (66,(.pair .str (.pair .str (.pair (.int .i64) .unit)))),
 (68,(.pair .str (.pair (.int .i64) (.pair (.int .i64) (.pair (.int .i64) (.pair (.int .i64) .unit)))))),
 (70,(.pair .str (.pair .str (.pair (.int .i64) .unit)))),
 (76,(.pair .str (.pair .bool (.pair .str .unit)))),
 (89,(.pair (.int .i64) (.pair (.int .i64) (.pair .str (.pair .str (.pair (.int .i64) (.pair (.int .i64) .unit))))))),
 (134,(.pair (.int .i64) (.pair (.int .i64) (.pair (.pair (.int .i64) (.pair (.int .i64) (.pair .str (.pair .str (.pair (.int .i64) (.pair (.int .i64) .unit)))))) .unit)))),
 (85,(.slice (.pair (.int .i64) (.pair (.int .i64) (.pair (.pair (.int .i64) (.pair (.int .i64) (.pair .str (.pair .str (.pair (.int .i64) (.pair (.int .i64) .unit)))))) .unit))))),
 (88,(.pair (.int .i64) (.pair (.int .i64) (.pair .str (.pair .str (.pair (.int .i64) (.pair (.int .i64) .unit))))))),
 (92,(.slice (.pair (.int .i64) (.pair (.int .i64) (.pair .str (.pair .str (.pair (.int .i64) (.pair (.int .i64) .unit)))))))),
 (98,(.pair (.slice (.int .u8)) (.pair (.int .i64) (.pair (.int .i64) .unit)))),
 (99,(.pair (.slice (.int .u8)) (.pair (.int .i64) (.pair (.int .i64) .unit)))),
 (109,.opq),
 (116,(.pair (.int .i64) (.pair (.int .i64) (.pair (.int .i64) (.pair (.pair (.int .i64) (.pair (.int .i64) (.pair .str (.pair .str (.pair (.int .i64) (.pair (.int .i64) .unit)))))) .unit))))),
 (117,(.pair (.int .i64) (.pair (.int .i64) (.pair (.int .i64) (.pair (.pair (.int .i64) (.pair (.int .i64) (.pair .str (.pair .str (.pair (.int .i64) (.pair (.int .i64) .unit)))))) .unit))))),
 (133,(.pair (.int .i64) (.pair (.int .i64) (.pair (.pair (.int .i64) (.pair (.int .i64) (.pair .str (.pair .str (.pair (.int .i64) (.pair (.int .i64) .unit)))))) .unit)))),
 (159,(.int .u32)),
 (160,(.int .u64)),
 (164,(.pair (.slice (.pair .str (.pair (.int .i64) (.pair (.int .i64) (.pair (.int .i64) (.pair (.int .i64) .unit)))))) (.pair (.int .i64) (.pair (.int .i64) .unit)))),
 (165,(.pair (.slice (.pair .str (.pair (.int .i64) (.pair (.int .i64) (.pair (.int .i64) (.pair (.int .i64) .unit)))))) (.pair (.int .i64) (.pair (.int .i64) .unit)))),
 (166,(.slice (.pair (.int .i64) (.pair (.int .i64) (.pair (.int .i64) (.pair (.pair (.int .i64) (.pair (.int .i64) (.pair .str (.pair .str (.pair (.int .i64) (.pair (.int .i64) .unit)))))) .unit)))))),
 (167,(.pair (.int .i64) (.pair (.int .i64) (.pair (.slice (.pair .str (.pair (.int .i64) (.pair (.int .i64) (.pair (.int .i64) (.pair (.int .i64) .unit)))))) .unit)))),
 (168,(.pair (.int .i64) (.pair (.int .i64) (.pair (.slice (.pair .str (.pair (.int .i64) (.pair (.int .i64) (.pair (.int .i64) (.pair (.int .i64) .unit)))))) .unit)))),
 (176,.opq),
 (177,(.pair .str (.pair .bool .unit))),
 (178,(.pair .str (.pair .bool .unit))),
 (183,.opq),
 (205,(.int .u64)),
 (226,.opq)],
 [(25,[(0,1),(1,1)]),(26,[(0,1),(1,1)]),(69,[(0,1),(1,1),(2,1),(3,1),(4,1)]),(28,[(0,2),(2,1),(3,1),(4,1),(5,1)]),(29,[(0,2),(2,1),(3,1),(4,1),(5,1)]),(67,[(0,1),(1,1),(2,1)]),(31,[(0,1),(1,1),(2,1),(3,1)]),(32,[(0,1),(1,1),(2,1),(3,1)]),(77,[(0,1),(1,1),(2,1)]),(71,[(0,1),(1,1),(2,1)]),(47,[(0,1),(1,1)]),(48,[(0,1),(1,1)]),(61,[(0,4),(4,1)]),(62,[(0,4),(4,1)]),(66,[(0,1),(1,1),(2,1)]),(68,[(0,1),(1,1),(2,1),(3,1),(4,1)]),(70,[(0,1),(1,1),(2,1)]),(76,[(0,1),(1,1),(2,1)]),(89,[(0,1),(1,1),(2,1),(3,1),(4,1),(5,1)]),(134,[(0,1),(1,1),(2,6)]),(88,[(0,1),(1,1),(2,1),(3,1),(4,1),(5,1)]),(98,[(0,1),(1,1),(2,1)]),(99,[(0,1),(1,1),(2,1)]),(116,[(0,1),(1,1),(2,1),(3,6)]),(117,[(0,1),(1,1),(2,1),(3,6)]),(133,[(0,1),(1,1),(2,6)]),(164,[(0,1),(1,1),(2,1)]),(165,[(0,1),(1,1),(2,1)]),(167,[(0,1),(1,1),(2,1)]),(168,[(0,1),(1,1),(2,1)]),(177,[(0,1),(1,1)]),(178,[(0,1),(1,1)])],
 [(69,[.str,(.int .i64),(.int .i64),(.int .i64),(.int .i64)]),(67,[.str,.str,(.int .i64)]),(77,[.str,.bool,.str]),(71,[.str,.str,(.int .i64)]),(47,[(.int .i64),(.int .i64)]),(48,[(.int .i64),(.int .i64)]),(66,[.str,.str,(.int .i64)]),(68,[.str,(.int .i64),(.int .i64),(.int .i64),(.int .i64)]),(70,[.str,.str,(.int .i64)]),(76,[.str,.bool,.str]),(89,[(.int .i64),(.int .i64),.str,.str,(.int .i64),(.int .i64)]),(88,[(.int .i64),(.int .i64),.str,.str,(.int .i64),(.int .i64)]),(177,[.str,.bool]),(178,[.str,.bool])],
 [(25,[3,24]),(26,[3,24]),(69,[9,3,3,3,3]),(28,[26,27,3,3,3]),(29,[26,27,3,3,3]),(67,[9,9,3]),(31,[30,3,3,4]),(32,[30,3,3,4]),(77,[9,4,9]),(71,[9,9,3]),(47,[3,3]),(48,[3,3]),(61,[32,3]),(62,[32,3]),(66,[9,9,3]),(68,[9,3,3,3,3]),(70,[9,9,3]),(76,[9,4,9]),(89,[3,3,9,9,3,3]),(134,[3,3,89]),(88,[3,3,9,9,3,3]),(98,[22,3,3]),(99,[22,3,3]),(116,[3,3,3,89]),(117,[3,3,3,89]),(133,[3,3,89]),(164,[27,3,3]),(165,[27,3,3]),(167,[3,3,27]),(168,[3,3,27]),(177,[9,4]),(178,[9,4])]⟩
theorem Gs:cR Tryz.prog tb=true:=by kernel_rfl
theorem I0:lw tb=true:=by kernel_rfl
theorem G0:C9 Tryz.prog tb=true:=by kernel_rfl
theorem mixed:Tryz.prog.follows .mixedOrders=true:=by kernel_rfl
theorem Jq:Tryz.prog.globalNamed "internal/strconv.uint64pow10" = some 0:=by kernel_rfl
theorem Eo {P:Program} {w w':World} {name:String} {i n:Nat} (hg:P.globalNamed name=some i) (hi:i<n) (h:∀ k,k<n→w'.heap[k]?=w.heap[k]?):w'.var? P name=w.var? P name:=by
 unfold World.var?
 rw [hg,Option.bind_some,Option.bind_some,h i hi]
def J:Gl where
 n:=1
 ok:=fun w=>1≤w.heap.size∧Lib.TabIs Tryz.prog w "internal/strconv.uint64pow10" .u64 Lib.pow10Tab∧True
 lt:=fun w h=>h.1
 frame:=fun w w' h hb hs=>⟨Nat.le_trans h.1 hs,(by unfold Lib.TabIs;rw [Eo Jq (by decide) hb];exact h.2.1),trivial⟩
def bt:Nat→Nat→List Bool
 | 0,_=>[]
 | d+1,n=>(n % 2==1)::bt d (n/2)
noncomputable def KY {R:Type} (E:cC) (c:Code) (g:Nat) (lv:List Nat) (K:Ex→St→Option R) (n:Nat):Ex→St→Option R:=fun e st=>match e with
 | .normal=>ak (bf E c) (ai g lv) K n (ai g lv st)
 | .ret=>K .ret st
 | .exit j=>K (.exit j) st
theorem aW {α:Type} {V l:Nat→α} {b:α→α} (h0:V 0=l 0) (hs:∀ n,V (n+1)=b (V n)) (hl:∀ n,l (n+1)=b (l n)):V=l :=
 funext fun n=>by
  induction n with
  | zero=>exact h0
  | succ n ih=>rw [hs,hl,ih]
def J8 (P:Program) (ct:List (Nat × Cn)):Prop:=∀ g c,V.look ct g=some c→EG J P g c
theorem J8.nil {P:Program}:J8 P []:=fun g c h=>by cases h
theorem J8.cons {P:Program} {f:Nat} {c:Cn} {ct:List (Nat × Cn)} (h:EG J P f c) (t:J8 P ct):J8 P ((f,c)::ct):=fun g d q=>by
 simp only [V.look] at q
 cases hb:Nat.beq f g with
 | true=>rw [hb] at q;cases q;rw [← Nat.eq_of_beq_eq_true hb];exact h
 | false=>rw [hb] at q;exact t g d q
structure Ce where
 f:Nat
 c:Cn
 h:EG J Tryz.prog f c
def q {f:Nat} {c:Cn} (h:EG J Tryz.prog f c):Ce:=⟨f,c,h⟩
def JT:List Ce→List (Nat × Cn)
 | []=>[]
 | e::l=>(e.f,e.c)::JT l
theorem GD:∀ l:List Ce,J8 Tryz.prog (JT l)
 | []=>J8.nil
 | e::l=>J8.cons e.h (GD l)
def en (D:List Ce) (lv:List (Nat × List Nat)) (g:Nat) (jn:List (Nat × List Nat)) (k:Nat):cC:=⟨tb,JT D,lv,k,g,jn⟩
noncomputable def eK (E:cC) (f:Func) (c:Cn) (x:(tup (nh c.A)).den):Ex→St→Option (tup (gG c.A++c.R)).den:=KM E f.results.toList c.A x c.R c.fresh c.al
noncomputable def eB (E:cC) (f:Func) (c:Cn) (x:(tup (nh c.A)).den):Ex→St→Option (tup (gG c.A++c.R)).den:=KP E f.results.toList c.A x c.R
noncomputable def rn (E:cC) (f:Func) (c:Cn) (x:(tup (nh c.A)).den):Option (tup (gG c.A++c.R)).den:=run E f c.A c.R c.fresh c.al x
noncomputable def rb (E:cC) (f:Func) (c:Cn) (x:(tup (nh c.A)).den):Option (tup (gG c.A++c.R)).den:=Jz E f c.A c.R x
abbrev Cp (f:Nat) (c:Cn):Prop:=EG J Tryz.prog f c
theorem rc {f:Nat} {fn:Func} {b:Code} {c:Cn} {lv jn:List (Nat × List Nat)} {g k:Nat} (hbx:rJ c.R=false) (D:List Ce) (hEg:g=cK c.A) (hf:Tryz.prog.funcs[f]?=some fn) (hname:(fn.name == "runtime.NumGoroutine")=false) (hb:fn.body=some b)
 (hg:∀ x r,c.fn x=some r→rn (en D lv g jn k) fn c x=some r):Cp f c:=by
 obtain ⟨A,R,fr,al,fn'⟩:=c
 exact IE (E:=en D lv g jn k) hbx mixed Gs (Du G0) (GD D) hEg hf hname hb hg
theorem Kw {f:Nat} {fn:Func} {b:Code} {c:Cn} {lv jn:List (Nat × List Nat)} {g k:Nat} (hfr:c.fresh=false) (hal:c.al=true) (hbx:rJ c.R=true) (D:List Ce) (hEg:g=cK c.A) (hf:Tryz.prog.funcs[f]?=some fn) (hname:(fn.name == "runtime.NumGoroutine")=false) (hb:fn.body=some b)
 (hg:∀ x r,c.fn x=some r→rb (en D lv g jn k) fn c x=some r):Cp f c:=by
 obtain ⟨A,R,fr,al,fn'⟩:=c
 cases hfr
 cases hal
 exact IF (E:=en D lv g jn k) hbx mixed Gs (Du G0) (GD D) hEg hf hname hb hg
end Go.Proofs.YtdbekilnpjmeaaaGreatDoor.G
