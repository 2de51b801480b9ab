/- V's table of the types of this seat, and its checks. -/
import Derived.Test.YthjppgafienaoaaGreatDoorProg
import Derived.Test.YthjppgafienaoaaGreatDoorVS9
import Derived.Test.YthjppgafienaoaaGreatDoorVS10
import Derived.Lib.LaidTab
import Derived.Lib.ItoaNum
set_option maxRecDepth 100000
namespace Go.Proofs.YthjppgafienaoaaGreatDoor.G
open Go.V
def tb:mS:=⟨[(2,(.int .i64)),
 (3,(.int .i64)),
 (4,.bool),
 (5,(.int .u8)),
 (9,.str),
 (12,(.int .u64)),
 (21,(.int .i32)),
 (22,(.slice (.int .u8))),
 (24,(.slice (.int .i64))),
 (25,(.pair (.int .i64) (.pair (.slice (.int .i64)) .unit))),
 (26,(.pair (.int .i64) (.pair (.slice (.int .i64)) .unit))),
 (101,(.pair .str (.pair (.int .i64) (.pair (.int .i64) (.pair (.int .i64) (.pair (.int .i64) .unit)))))),
 (27,(.slice (.pair .str (.pair (.int .i64) (.pair (.int .i64) (.pair (.int .i64) (.pair (.int .i64) .unit))))))),
 (28,(.pair (.pair (.int .i64) (.pair (.slice (.int .i64)) .unit)) (.pair (.slice (.pair .str (.pair (.int .i64) (.pair (.int .i64) (.pair (.int .i64) (.pair (.int .i64) .unit)))))) (.pair (.int .i64) (.pair (.int .i64) (.pair (.int .i64) .unit)))))),
 (29,(.pair (.pair (.int .i64) (.pair (.slice (.int .i64)) .unit)) (.pair (.slice (.pair .str (.pair (.int .i64) (.pair (.int .i64) (.pair (.int .i64) (.pair (.int .i64) .unit)))))) (.pair (.int .i64) (.pair (.int .i64) (.pair (.int .i64) .unit)))))),
 (77,(.pair .str (.pair .str (.pair (.int .i64) .unit)))),
 (30,(.slice (.pair .str (.pair .str (.pair (.int .i64) .unit))))),
 (31,(.pair (.slice (.pair .str (.pair .str (.pair (.int .i64) .unit)))) (.pair (.int .i64) (.pair (.int .i64) (.pair .bool .unit))))),
 (32,(.pair (.slice (.pair .str (.pair .str (.pair (.int .i64) .unit)))) (.pair (.int .i64) (.pair (.int .i64) (.pair .bool .unit))))),
 (165,(.pair .str (.pair (.int .i64) .unit))),
 (41,(.slice (.pair .str (.pair (.int .i64) .unit)))),
 (71,(.pair .str (.pair .bool (.pair .str .unit)))),
 (42,(.slice (.pair .str (.pair .bool (.pair .str .unit))))),
 (44,(.pair .bool (.pair (.slice (.pair .str (.pair (.int .i64) .unit))) (.pair (.slice (.pair .str (.pair .bool (.pair .str .unit)))) .unit)))),
 (33,(.slice (.pair .bool (.pair (.slice (.pair .str (.pair (.int .i64) .unit))) (.pair (.slice (.pair .str (.pair .bool (.pair .str .unit)))) .unit))))),
 (34,(.pair .bool (.pair (.pair (.pair (.int .i64) (.pair (.slice (.int .i64)) .unit)) (.pair (.slice (.pair .str (.pair (.int .i64) (.pair (.int .i64) (.pair (.int .i64) (.pair (.int .i64) .unit)))))) (.pair (.int .i64) (.pair (.int .i64) (.pair (.int .i64) .unit))))) (.pair (.pair (.slice (.pair .str (.pair .str (.pair (.int .i64) .unit)))) (.pair (.int .i64) (.pair (.int .i64) (.pair .bool .unit)))) (.pair (.slice (.pair .bool (.pair (.slice (.pair .str (.pair (.int .i64) .unit))) (.pair (.slice (.pair .str (.pair .bool (.pair .str .unit)))) .unit)))) .unit))))),
 (35,(.pair .bool (.pair (.pair (.pair (.int .i64) (.pair (.slice (.int .i64)) .unit)) (.pair (.slice (.pair .str (.pair (.int .i64) (.pair (.int .i64) (.pair (.int .i64) (.pair (.int .i64) .unit)))))) (.pair (.int .i64) (.pair (.int .i64) (.pair (.int .i64) .unit))))) (.pair (.pair (.slice (.pair .str (.pair .str (.pair (.int .i64) .unit)))) (.pair (.int .i64) (.pair (.int .i64) (.pair .bool .unit)))) (.pair (.slice (.pair .bool (.pair (.slice (.pair .str (.pair (.int .i64) .unit))) (.pair (.slice (.pair .str (.pair .bool (.pair .str .unit)))) .unit)))) .unit))))),
 (36,(.pair (.int .i64) (.pair (.int .i64) (.pair .str (.pair .str (.pair (.int .i64) .unit)))))),
 (37,(.pair (.int .i64) (.pair (.int .i64) (.pair .str (.pair .str (.pair (.int .i64) .unit)))))),
 (43,(.pair .bool (.pair (.slice (.pair .str (.pair (.int .i64) .unit))) (.pair (.slice (.pair .str (.pair .bool (.pair .str .unit)))) .unit)))),
 (45,(.slice .str)),
 (46,(.pair (.int .i64) (.pair .str (.pair (.slice .str) .unit)))),
 (47,(.pair (.int .i64) (.pair .str (.pair (.slice .str) .unit)))),
 (51,(.slice (.pair (.int .i64) (.pair .str (.pair (.slice .str) .unit))))),
 (54,.opq),
 (70,(.pair .str (.pair .bool (.pair .str .unit)))),
 (76,(.pair .str (.pair .str (.pair (.int .i64) .unit)))),
 (79,(.pair (.slice (.int .u8)) (.pair (.int .i64) (.pair (.int .i64) .unit)))),
 (80,(.pair (.slice (.int .u8)) (.pair (.int .i64) (.pair (.int .i64) .unit)))),
 (82,(.slice (.pair (.int .i64) (.pair (.int .i64) (.pair .str (.pair .str (.pair (.int .i64) .unit))))))),
 (91,.opq),
 (105,(.pair .str (.pair .str (.pair (.int .i64) .unit)))),
 (96,(.slice (.pair .str (.pair .str (.pair (.int .i64) .unit))))),
 (100,(.pair .str (.pair (.int .i64) (.pair (.int .i64) (.pair (.int .i64) (.pair (.int .i64) .unit)))))),
 (104,(.pair .str (.pair .str (.pair (.int .i64) .unit)))),
 (113,(.slice .bool)),
 (115,(.int .u64)),
 (118,.opq),
 (119,(.pair (.pair (.slice (.pair .str (.pair .str (.pair (.int .i64) .unit)))) (.pair (.int .i64) (.pair (.int .i64) (.pair .bool .unit)))) (.pair (.int .i64) .unit))),
 (120,(.pair (.pair (.slice (.pair .str (.pair .str (.pair (.int .i64) .unit)))) (.pair (.int .i64) (.pair (.int .i64) (.pair .bool .unit)))) (.pair (.int .i64) .unit))),
 (123,.opq),
 (152,(.pair (.int .i64) (.pair (.int .i64) (.pair .str (.pair .str (.pair (.int .i64) (.pair (.int .i64) .unit))))))),
 (191,(.pair (.int .i64) (.pair (.int .i64) (.pair (.pair (.int .i64) (.pair (.int .i64) (.pair .str (.pair .str (.pair (.int .i64) (.pair (.int .i64) .unit)))))) .unit)))),
 (131,(.slice (.pair (.int .i64) (.pair (.int .i64) (.pair (.pair (.int .i64) (.pair (.int .i64) (.pair .str (.pair .str (.pair (.int .i64) (.pair (.int .i64) .unit)))))) .unit))))),
 (138,(.pair (.slice (.pair .str (.pair (.int .i64) (.pair (.int .i64) (.pair (.int .i64) (.pair (.int .i64) .unit)))))) (.pair (.int .i64) (.pair (.int .i64) .unit)))),
 (139,(.pair (.slice (.pair .str (.pair (.int .i64) (.pair (.int .i64) (.pair (.int .i64) (.pair (.int .i64) .unit)))))) (.pair (.int .i64) (.pair (.int .i64) .unit)))),
 (198,(.pair (.int .i64) (.pair (.int .i64) (.pair (.int .i64) (.pair (.pair (.int .i64) (.pair (.int .i64) (.pair .str (.pair .str (.pair (.int .i64) (.pair (.int .i64) .unit)))))) .unit))))),
 (140,(.slice (.pair (.int .i64) (.pair (.int .i64) (.pair (.int .i64) (.pair (.pair (.int .i64) (.pair (.int .i64) (.pair .str (.pair .str (.pair (.int .i64) (.pair (.int .i64) .unit)))))) .unit)))))),
 (141,(.pair (.int .i64) (.pair (.int .i64) (.pair (.slice (.pair .str (.pair (.int .i64) (.pair (.int .i64) (.pair (.int .i64) (.pair (.int .i64) .unit)))))) .unit)))),
 (142,(.pair (.int .i64) (.pair (.int .i64) (.pair (.slice (.pair .str (.pair (.int .i64) (.pair (.int .i64) (.pair (.int .i64) (.pair (.int .i64) .unit)))))) .unit)))),
 (151,(.pair (.int .i64) (.pair (.int .i64) (.pair .str (.pair .str (.pair (.int .i64) (.pair (.int .i64) .unit))))))),
 (164,(.pair .str (.pair (.int .i64) .unit))),
 (170,.opq),
 (172,(.slice (.pair (.int .i64) (.pair (.int .i64) (.pair .str (.pair .str (.pair (.int .i64) (.pair (.int .i64) .unit)))))))),
 (190,(.pair (.int .i64) (.pair (.int .i64) (.pair (.pair (.int .i64) (.pair (.int .i64) (.pair .str (.pair .str (.pair (.int .i64) (.pair (.int .i64) .unit)))))) .unit)))),
 (197,(.pair (.int .i64) (.pair (.int .i64) (.pair (.int .i64) (.pair (.pair (.int .i64) (.pair (.int .i64) (.pair .str (.pair .str (.pair (.int .i64) (.pair (.int .i64) .unit)))))) .unit))))),
 (217,(.slice (.slice (.pair (.int .i64) (.pair (.int .i64) (.pair (.int .i64) (.pair (.pair (.int .i64) (.pair (.int .i64) (.pair .str (.pair .str (.pair (.int .i64) (.pair (.int .i64) .unit)))))) .unit))))))),
 (236,.opq),
 (237,(.pair .str (.pair .bool .unit))),
 (238,(.pair .str (.pair .bool .unit))),
 (242,.opq),
 (243,.opq),
 (249,.opq),
 (252,(.int .u32)),
 (262,(.int .u64)),
 (267,(.int .i64)),
 (270,.opq),
 (285,.opq),
 (286,.opq),
 (287,(.pair .str .unit)),
 (288,(.pair .str .unit))],
 [(25,[(0,1),(1,1)]),(26,[(0,1),(1,1)]),(101,[(0,1),(1,1),(2,1),(3,1),(4,1)]),(28,[(0,2),(2,1),(3,1),(4,1),(5,1)]),(29,[(0,2),(2,1),(3,1),(4,1),(5,1)]),(77,[(0,1),(1,1),(2,1)]),(31,[(0,1),(1,1),(2,1),(3,1)]),(32,[(0,1),(1,1),(2,1),(3,1)]),(165,[(0,1),(1,1)]),(71,[(0,1),(1,1),(2,1)]),(44,[(0,1),(1,1),(2,1)]),(34,[(0,1),(1,6),(7,4),(11,1)]),(35,[(0,1),(1,6),(7,4),(11,1)]),(36,[(0,1),(1,1),(2,1),(3,1),(4,1)]),(37,[(0,1),(1,1),(2,1),(3,1),(4,1)]),(43,[(0,1),(1,1),(2,1)]),(46,[(0,1),(1,1),(2,1)]),(47,[(0,1),(1,1),(2,1)]),(70,[(0,1),(1,1),(2,1)]),(76,[(0,1),(1,1),(2,1)]),(79,[(0,1),(1,1),(2,1)]),(80,[(0,1),(1,1),(2,1)]),(105,[(0,1),(1,1),(2,1)]),(100,[(0,1),(1,1),(2,1),(3,1),(4,1)]),(104,[(0,1),(1,1),(2,1)]),(119,[(0,4),(4,1)]),(120,[(0,4),(4,1)]),(152,[(0,1),(1,1),(2,1),(3,1),(4,1),(5,1)]),(191,[(0,1),(1,1),(2,6)]),(138,[(0,1),(1,1),(2,1)]),(139,[(0,1),(1,1),(2,1)]),(198,[(0,1),(1,1),(2,1),(3,6)]),(141,[(0,1),(1,1),(2,1)]),(142,[(0,1),(1,1),(2,1)]),(151,[(0,1),(1,1),(2,1),(3,1),(4,1),(5,1)]),(164,[(0,1),(1,1)]),(190,[(0,1),(1,1),(2,6)]),(197,[(0,1),(1,1),(2,1),(3,6)]),(237,[(0,1),(1,1)]),(238,[(0,1),(1,1)]),(287,[(0,1)]),(288,[(0,1)])],
 [(101,[.str,(.int .i64),(.int .i64),(.int .i64),(.int .i64)]),(77,[.str,.str,(.int .i64)]),(165,[.str,(.int .i64)]),(71,[.str,.bool,.str]),(36,[(.int .i64),(.int .i64),.str,.str,(.int .i64)]),(37,[(.int .i64),(.int .i64),.str,.str,(.int .i64)]),(70,[.str,.bool,.str]),(76,[.str,.str,(.int .i64)]),(105,[.str,.str,(.int .i64)]),(100,[.str,(.int .i64),(.int .i64),(.int .i64),(.int .i64)]),(104,[.str,.str,(.int .i64)]),(152,[(.int .i64),(.int .i64),.str,.str,(.int .i64),(.int .i64)]),(151,[(.int .i64),(.int .i64),.str,.str,(.int .i64),(.int .i64)]),(164,[.str,(.int .i64)]),(237,[.str,.bool]),(238,[.str,.bool]),(287,[.str]),(288,[.str])],
 [(25,[3,24]),(26,[3,24]),(101,[9,3,3,3,3]),(28,[26,27,3,3,3]),(29,[26,27,3,3,3]),(77,[9,9,3]),(31,[30,3,3,4]),(32,[30,3,3,4]),(165,[9,3]),(71,[9,4,9]),(44,[4,41,42]),(34,[4,29,32,33]),(35,[4,29,32,33]),(36,[3,3,9,9,3]),(37,[3,3,9,9,3]),(43,[4,41,42]),(46,[3,9,45]),(47,[3,9,45]),(70,[9,4,9]),(76,[9,9,3]),(79,[22,3,3]),(80,[22,3,3]),(105,[9,9,3]),(100,[9,3,3,3,3]),(104,[9,9,3]),(119,[32,3]),(120,[32,3]),(152,[3,3,9,9,3,3]),(191,[3,3,152]),(138,[27,3,3]),(139,[27,3,3]),(198,[3,3,3,152]),(141,[3,3,27]),(142,[3,3,27]),(151,[3,3,9,9,3,3]),(164,[9,3]),(190,[3,3,152]),(197,[3,3,3,152]),(237,[9,4]),(238,[9,4]),(287,[9]),(288,[9])],
 []⟩
theorem Da:ch Tryz.prog tb=true:=by kernel_rfl
theorem KY:nQ tb=true:=by kernel_rfl
theorem Bl:Cv Tryz.prog tb=true:=by kernel_rfl
theorem mixed:Tryz.prog.follows .mixedOrders=true:=by kernel_rfl
theorem NA:Tryz.prog.globalNamed "internal/strconv.uint64pow10" = some 0:=by kernel_rfl
theorem N3:Tryz.prog.globalNamed "strconv.ErrSyntax" = some 1:=by kernel_rfl
theorem MM:Tryz.prog.globalNamed "strconv.ErrRange" = some 2:=by kernel_rfl
theorem vK {P:Program} {w w':World} {name:String} {i n:Nat} (hg:P.globalNamed name=some i) (hi:i<n) (h:∀ k,k<n→w'.heap[k]?=w.heap[k]?):w'.var? P name=w.var? P name:=by
 unfold World.var?
 rw [hg,Option.bind_some,Option.bind_some,h i hi]
def J:Gl where
 n:=3
 ok:=fun w=>3≤w.heap.size∧Lib.TabIs Tryz.prog w "internal/strconv.uint64pow10" .u64 Lib.pow10Tab∧(∃ t p,w.var? Tryz.prog "strconv.ErrSyntax" = some #[.iface t p])∧(∃ t p,w.var? Tryz.prog "strconv.ErrRange" = some #[.iface t p])∧True
 lt:=fun w h=>h.1
 frame:=fun w w' h hb hs=>⟨Nat.le_trans h.1 hs,(by unfold Lib.TabIs;rw [vK NA (by decide) hb];exact h.2.1),(by rw [vK N3 (by decide) hb];exact h.2.2.1),(by rw [vK MM (by decide) hb];exact h.2.2.2.1),trivial⟩
def bt:Nat→Nat→List Bool
 | 0,_=>[]
 | d+1,n=>(n % 2==1)::bt d (n/2)
noncomputable def Ly {R:Type} (E:gD) (c:Code) (g:Nat) (lv:List Nat) (K:Ex→St→Option R) (n:Nat):Ex→St→Option R:=fun e st=>match e with
 | .normal=>ag (bC E c) (ae g lv) K n (ae g lv st)
 | .ret=>K .ret st
 | .exit j=>K (.exit j) st
theorem aM {α:Type} {V l:Nat→α} {b:α→α} (h0:V 0=l 0) (hs:∀ n,V (n+1)=b (V n)) (hl:∀ n,l (n+1)=b (l n)):V=l :=
 funext fun n=>by
  induction n with
  | zero=>exact h0
  | succ n ih=>rw [hs,hl,ih]
def LU (P:Program) (ct:List (Nat × Cn)):Prop:=∀ g c,V.look ct g=some c→Ew J P g c
theorem LU.nil {P:Program}:LU P []:=fun g c h=>by cases h
theorem LU.cons {P:Program} {f:Nat} {c:Cn} {ct:List (Nat × Cn)} (h:Ew J P f c) (t:LU P ct):LU P ((f,c)::ct):=fun g d q=>by
 simp only [V.look] at q
 cases hb:Nat.beq f g with
 | true=>rw [hb] at q;cases q;rw [← Nat.eq_of_beq_eq_true hb];exact h
 | false=>rw [hb] at q;exact t g d q
structure Ce where
 f:Nat
 c:Cn
 h:Ew J Tryz.prog f c
def q {f:Nat} {c:Cn} (h:Ew J Tryz.prog f c):Ce:=⟨f,c,h⟩
def Mc:List Ce→List (Nat × Cn)
 | []=>[]
 | e::l=>(e.f,e.c)::Mc l
theorem Ej:∀ l:List Ce,LU Tryz.prog (Mc l)
 | []=>LU.nil
 | e::l=>LU.cons e.h (Ej l)
def en (D:List Ce) (lv:List (Nat × List Nat)) (g:Nat) (jn:List (Nat × List Nat)) (k:Nat):gD:=⟨tb,Mc D,lv,k,g,jn⟩
noncomputable def eK (E:gD) (f:Func) (c:Cn) (x:(tup (p6 c.A)).d):Ex→St→Option (tup (gh c.A++c.R)).d:=N6 E f.results.toList c.A x c.R c.fresh c.al
noncomputable def eB (E:gD) (f:Func) (c:Cn) (x:(tup (p6 c.A)).d):Ex→St→Option (tup (gh c.A++c.R)).d:=NJ E f.results.toList c.A x c.R
noncomputable def rn (E:gD) (f:Func) (c:Cn) (x:(tup (p6 c.A)).d):Option (tup (gh c.A++c.R)).d:=run E f c.A c.R c.fresh c.al x
noncomputable def rb (E:gD) (f:Func) (c:Cn) (x:(tup (p6 c.A)).d):Option (tup (gh c.A++c.R)).d:=Ml E f c.A c.R x
abbrev Cp (f:Nat) (c:Cn):Prop:=Ew J Tryz.prog f c
theorem NI:Tryz.prog.funcs.toList.all (fun g=>!(g.name == "runtime.NumGoroutine"))=true:=by kernel_rfl
theorem nm {f:Nat} {fn:Func} (hf:Tryz.prog.funcs[f]?=some fn):(fn.name == "runtime.NumGoroutine")=false:=by
 have h:=List.all_eq_true.1 NI fn (List.mem_of_getElem? (by rw [Array.getElem?_toList];exact hf))
 simpa using h
def bV (f:Func) (d n:Nat):Code:=at_ (bt d n) (body f)
theorem ry {f:Nat} {fn:Func} {b:Code} {c:Cn} {lv jn:List (Nat × List Nat)} {k:Nat} (D:List Ce) {E:gD} (hE:E=en D lv (cI c.A) jn k) (hbx:q9 c.R=false) (hf:Tryz.prog.funcs[f]?=some fn) (hb:fn.body=some b)
 (hg:∀ x,rn E fn c x=c.fn x):Cp f c:=by
 obtain ⟨A,R,fr,al,fn'⟩:=c
 subst hE
 exact H7 (E:=en D lv (cI A) jn k) hbx mixed Da (xC Bl) (Ej D) rfl hf (nm hf) hb fun x r h=>(hg x).trans h
theorem rz {f:Nat} {fn:Func} {b:Code} {c:Cn} (k:Nat) (hbx:q9 c.R=false) (D:List Ce) (hf:Tryz.prog.funcs[f]?=some fn) (hb:fn.body=some b) (hg:∀ x,rn (en D [] (cI c.A) [] k) fn c x=c.fn x):Cp f c:=ry D rfl hbx hf hb hg
theorem Nn {f:Nat} {fn:Func} {b:Code} {c:Cn} {lv jn:List (Nat × List Nat)} {k:Nat} (hfr:c.fresh=false) (hal:c.al=true) (D:List Ce) {E:gD} (hE:E=en D lv (cI c.A) jn k) (hbx:q9 c.R=true) (hf:Tryz.prog.funcs[f]?=some fn) (hb:fn.body=some b)
 (hg:∀ x,rb E fn c x=c.fn x):Cp f c:=by
 obtain ⟨A,R,fr,al,fn'⟩:=c
 cases hfr
 cases hal
 subst hE
 exact Gh (E:=en D lv (cI A) jn k) hbx mixed Da (xC Bl) (Ej D) rfl hf (nm hf) hb fun x r h=>(hg x).trans h
end Go.Proofs.YthjppgafienaoaaGreatDoor.G
