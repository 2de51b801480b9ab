/- V's table of the types of this seat, and its checks. -/
import Derived.Test.YtohaanhjddohmaaGreatDoorProg
import Derived.Test.YtohaanhjddohmaaGreatDoorVS9
import Derived.Test.YtohaanhjddohmaaGreatDoorVS10
import Derived.Lib.LaidTab
import Derived.Lib.ItoaNum
set_option maxRecDepth 100000
namespace Go.Proofs.YtohaanhjddohmaaGreatDoor.G
open Go.V
def tb:l_:=⟨[(2,(.int .i64)),
 (3,(.int .i64)),
 (4,.bool),
 (5,(.int .u8)),
 (9,.str),
 (12,(.int .u64)),
 (21,(.int .i32)),
 (22,(.slice (.int .u8))),
 (24,(.slice (.int .i64))),
 (25,(.pair (.int .i64) (.pair (.slice (.int .i64)) .unit))),
 (26,(.pair (.int .i64) (.pair (.slice (.int .i64)) .unit))),
 (104,(.pair .str (.pair (.int .i64) (.pair (.int .i64) (.pair (.int .i64) (.pair (.int .i64) .unit)))))),
 (27,(.slice (.pair .str (.pair (.int .i64) (.pair (.int .i64) (.pair (.int .i64) (.pair (.int .i64) .unit))))))),
 (28,(.pair (.pair (.int .i64) (.pair (.slice (.int .i64)) .unit)) (.pair (.slice (.pair .str (.pair (.int .i64) (.pair (.int .i64) (.pair (.int .i64) (.pair (.int .i64) .unit)))))) (.pair (.int .i64) (.pair (.int .i64) (.pair (.int .i64) .unit)))))),
 (29,(.pair (.pair (.int .i64) (.pair (.slice (.int .i64)) .unit)) (.pair (.slice (.pair .str (.pair (.int .i64) (.pair (.int .i64) (.pair (.int .i64) (.pair (.int .i64) .unit)))))) (.pair (.int .i64) (.pair (.int .i64) (.pair (.int .i64) .unit)))))),
 (86,(.pair .str (.pair .str (.pair (.int .i64) .unit)))),
 (30,(.slice (.pair .str (.pair .str (.pair (.int .i64) .unit))))),
 (31,(.pair (.slice (.pair .str (.pair .str (.pair (.int .i64) .unit)))) (.pair (.int .i64) (.pair (.int .i64) (.pair .bool .unit))))),
 (32,(.pair (.slice (.pair .str (.pair .str (.pair (.int .i64) .unit)))) (.pair (.int .i64) (.pair (.int .i64) (.pair .bool .unit))))),
 (62,(.pair .str (.pair .str (.pair (.int .i64) .unit)))),
 (38,(.slice (.pair .str (.pair .str (.pair (.int .i64) .unit))))),
 (41,(.pair .bool (.pair (.int .i64) (.pair (.int .i64) (.pair (.int .i64) (.pair (.int .i64) (.pair (.int .i64) (.pair (.int .i64) .unit)))))))),
 (42,(.pair .bool (.pair (.int .i64) (.pair (.int .i64) (.pair (.int .i64) (.pair (.int .i64) (.pair (.int .i64) (.pair (.int .i64) .unit)))))))),
 (49,.opq),
 (53,.opq),
 (55,(.pair (.pair (.slice (.pair .str (.pair .str (.pair (.int .i64) .unit)))) (.pair (.int .i64) (.pair (.int .i64) (.pair .bool .unit)))) (.pair (.int .i64) .unit))),
 (56,(.pair (.pair (.slice (.pair .str (.pair .str (.pair (.int .i64) .unit)))) (.pair (.int .i64) (.pair (.int .i64) (.pair .bool .unit)))) (.pair (.int .i64) .unit))),
 (61,(.pair .str (.pair .str (.pair (.int .i64) .unit)))),
 (67,(.slice .str)),
 (76,(.pair (.int .i64) (.pair (.int .i64) (.pair .str (.pair .str (.pair (.int .i64) (.pair (.int .i64) .unit))))))),
 (78,(.pair (.int .i64) (.pair (.int .i64) (.pair (.int .i64) (.pair (.pair (.int .i64) (.pair (.int .i64) (.pair .str (.pair .str (.pair (.int .i64) (.pair (.int .i64) .unit)))))) .unit))))),
 (69,(.slice (.pair (.int .i64) (.pair (.int .i64) (.pair (.int .i64) (.pair (.pair (.int .i64) (.pair (.int .i64) (.pair .str (.pair .str (.pair (.int .i64) (.pair (.int .i64) .unit)))))) .unit)))))),
 (128,(.pair (.int .i64) (.pair (.int .i64) (.pair (.pair (.int .i64) (.pair (.int .i64) (.pair .str (.pair .str (.pair (.int .i64) (.pair (.int .i64) .unit)))))) .unit)))),
 (70,(.slice (.pair (.int .i64) (.pair (.int .i64) (.pair (.pair (.int .i64) (.pair (.int .i64) (.pair .str (.pair .str (.pair (.int .i64) (.pair (.int .i64) .unit)))))) .unit))))),
 (75,(.pair (.int .i64) (.pair (.int .i64) (.pair .str (.pair .str (.pair (.int .i64) (.pair (.int .i64) .unit))))))),
 (77,(.pair (.int .i64) (.pair (.int .i64) (.pair (.int .i64) (.pair (.pair (.int .i64) (.pair (.int .i64) (.pair .str (.pair .str (.pair (.int .i64) (.pair (.int .i64) .unit)))))) .unit))))),
 (85,(.pair .str (.pair .str (.pair (.int .i64) .unit)))),
 (91,(.pair (.slice (.int .u8)) (.pair (.int .i64) (.pair (.int .i64) .unit)))),
 (92,(.pair (.slice (.int .u8)) (.pair (.int .i64) (.pair (.int .i64) .unit)))),
 (103,(.pair .str (.pair (.int .i64) (.pair (.int .i64) (.pair (.int .i64) (.pair (.int .i64) .unit)))))),
 (107,.opq),
 (109,(.slice (.pair (.int .i64) (.pair (.int .i64) (.pair .str (.pair .str (.pair (.int .i64) (.pair (.int .i64) .unit)))))))),
 (119,.opq),
 (120,(.pair .str (.pair .bool .unit))),
 (121,(.pair .str (.pair .bool .unit))),
 (127,(.pair (.int .i64) (.pair (.int .i64) (.pair (.pair (.int .i64) (.pair (.int .i64) (.pair .str (.pair .str (.pair (.int .i64) (.pair (.int .i64) .unit)))))) .unit)))),
 (137,(.pair (.int .i64) (.pair (.int .i64) (.pair (.slice (.pair .str (.pair (.int .i64) (.pair (.int .i64) (.pair (.int .i64) (.pair (.int .i64) .unit)))))) .unit)))),
 (138,(.pair (.int .i64) (.pair (.int .i64) (.pair (.slice (.pair .str (.pair (.int .i64) (.pair (.int .i64) (.pair (.int .i64) (.pair (.int .i64) .unit)))))) .unit)))),
 (146,(.slice (.slice (.pair (.int .i64) (.pair (.int .i64) (.pair (.int .i64) (.pair (.pair (.int .i64) (.pair (.int .i64) (.pair .str (.pair .str (.pair (.int .i64) (.pair (.int .i64) .unit)))))) .unit))))))),
 (151,(.pair (.slice (.pair .str (.pair (.int .i64) (.pair (.int .i64) (.pair (.int .i64) (.pair (.int .i64) .unit)))))) (.pair (.int .i64) (.pair (.int .i64) .unit)))),
 (152,(.pair (.slice (.pair .str (.pair (.int .i64) (.pair (.int .i64) (.pair (.int .i64) (.pair (.int .i64) .unit)))))) (.pair (.int .i64) (.pair (.int .i64) .unit)))),
 (197,(.pair .str (.pair .bool (.pair .str .unit)))),
 (160,(.slice (.pair .str (.pair .bool (.pair .str .unit))))),
 (183,.opq),
 (184,.opq),
 (196,(.pair .str (.pair .bool (.pair .str .unit)))),
 (198,(.int .u64)),
 (200,(.int .u32)),
 (206,.opq),
 (223,(.int .i64)),
 (226,.opq),
 (230,(.int .u64)),
 (242,.opq),
 (243,.opq),
 (244,(.pair .str .unit)),
 (245,(.pair .str .unit))],
 [(25,[(0,1),(1,1)]),(26,[(0,1),(1,1)]),(104,[(0,1),(1,1),(2,1),(3,1),(4,1)]),(28,[(0,2),(2,1),(3,1),(4,1),(5,1)]),(29,[(0,2),(2,1),(3,1),(4,1),(5,1)]),(86,[(0,1),(1,1),(2,1)]),(31,[(0,1),(1,1),(2,1),(3,1)]),(32,[(0,1),(1,1),(2,1),(3,1)]),(62,[(0,1),(1,1),(2,1)]),(41,[(0,1),(1,1),(2,1),(3,1),(4,1),(5,1),(6,1)]),(42,[(0,1),(1,1),(2,1),(3,1),(4,1),(5,1),(6,1)]),(55,[(0,4),(4,1)]),(56,[(0,4),(4,1)]),(61,[(0,1),(1,1),(2,1)]),(76,[(0,1),(1,1),(2,1),(3,1),(4,1),(5,1)]),(78,[(0,1),(1,1),(2,1),(3,6)]),(128,[(0,1),(1,1),(2,6)]),(75,[(0,1),(1,1),(2,1),(3,1),(4,1),(5,1)]),(77,[(0,1),(1,1),(2,1),(3,6)]),(85,[(0,1),(1,1),(2,1)]),(91,[(0,1),(1,1),(2,1)]),(92,[(0,1),(1,1),(2,1)]),(103,[(0,1),(1,1),(2,1),(3,1),(4,1)]),(120,[(0,1),(1,1)]),(121,[(0,1),(1,1)]),(127,[(0,1),(1,1),(2,6)]),(137,[(0,1),(1,1),(2,1)]),(138,[(0,1),(1,1),(2,1)]),(151,[(0,1),(1,1),(2,1)]),(152,[(0,1),(1,1),(2,1)]),(197,[(0,1),(1,1),(2,1)]),(196,[(0,1),(1,1),(2,1)]),(244,[(0,1)]),(245,[(0,1)])],
 [(104,[.str,(.int .i64),(.int .i64),(.int .i64),(.int .i64)]),(86,[.str,.str,(.int .i64)]),(62,[.str,.str,(.int .i64)]),(41,[.bool,(.int .i64),(.int .i64),(.int .i64),(.int .i64),(.int .i64),(.int .i64)]),(42,[.bool,(.int .i64),(.int .i64),(.int .i64),(.int .i64),(.int .i64),(.int .i64)]),(61,[.str,.str,(.int .i64)]),(76,[(.int .i64),(.int .i64),.str,.str,(.int .i64),(.int .i64)]),(75,[(.int .i64),(.int .i64),.str,.str,(.int .i64),(.int .i64)]),(85,[.str,.str,(.int .i64)]),(103,[.str,(.int .i64),(.int .i64),(.int .i64),(.int .i64)]),(120,[.str,.bool]),(121,[.str,.bool]),(197,[.str,.bool,.str]),(196,[.str,.bool,.str]),(244,[.str]),(245,[.str])],
 [(25,[3,24]),(26,[3,24]),(104,[9,3,3,3,3]),(28,[26,27,3,3,3]),(29,[26,27,3,3,3]),(86,[9,9,3]),(31,[30,3,3,4]),(32,[30,3,3,4]),(62,[9,9,3]),(41,[4,3,3,3,3,3,3]),(42,[4,3,3,3,3,3,3]),(55,[32,3]),(56,[32,3]),(61,[9,9,3]),(76,[3,3,9,9,3,3]),(78,[3,3,3,76]),(128,[3,3,76]),(75,[3,3,9,9,3,3]),(77,[3,3,3,76]),(85,[9,9,3]),(91,[22,3,3]),(92,[22,3,3]),(103,[9,3,3,3,3]),(120,[9,4]),(121,[9,4]),(127,[3,3,76]),(137,[3,3,27]),(138,[3,3,27]),(151,[27,3,3]),(152,[27,3,3]),(197,[9,4,9]),(196,[9,4,9]),(244,[9]),(245,[9])]⟩
theorem GX:cP Tryz.prog tb=true:=by kernel_rfl
theorem HG:lV tb=true:=by kernel_rfl
theorem Fz:CF Tryz.prog tb=true:=by kernel_rfl
theorem mixed:Tryz.prog.follows .mixedOrders=true:=by kernel_rfl
theorem J0:Tryz.prog.globalNamed "internal/strconv.uint64pow10" = some 2:=by kernel_rfl
theorem Jj:Tryz.prog.globalNamed "strconv.ErrSyntax" = some 0:=by kernel_rfl
theorem Ji:Tryz.prog.globalNamed "strconv.ErrRange" = some 1:=by kernel_rfl
theorem tV {P:Program} {w w':World} {name:String} {i n:Nat} (hg:P.globalNamed name=some i) (hi:i<n) (h:∀ k,k<n→w'.heap[k]?=w.heap[k]?):w'.var? P name=w.var? P name:=by
 unfold World.var?
 rw [hg,Option.bind_some,Option.bind_some,h i hi]
def J:Gl where
 n:=3
 ok:=fun w=>3≤w.heap.size∧Lib.TabIs Tryz.prog w "internal/strconv.uint64pow10" .u64 Lib.pow10Tab∧(∃ t p,w.var? Tryz.prog "strconv.ErrSyntax" = some #[.iface t p])∧(∃ t p,w.var? Tryz.prog "strconv.ErrRange" = some #[.iface t p])∧True
 lt:=fun w h=>h.1
 frame:=fun w w' h hb hs=>⟨Nat.le_trans h.1 hs,(by unfold Lib.TabIs;rw [tV J0 (by decide) hb];exact h.2.1),(by rw [tV Jj (by decide) hb];exact h.2.2.1),(by rw [tV Ji (by decide) hb];exact h.2.2.2.1),trivial⟩
def bt:Nat→Nat→List Bool
 | 0,_=>[]
 | d+1,n=>(n % 2==1)::bt d (n/2)
noncomputable def Js {R:Type} (E:cE) (c:Code) (g:Nat) (lv:List Nat) (K:Ex→St→Option R) (n:Nat):Ex→St→Option R:=fun e st=>match e with
 | .normal=>am (bX E c) (ak g lv) K n (ak g lv st)
 | .ret=>K .ret st
 | .exit j=>K (.exit j) st
theorem aS {α:Type} {V l:Nat→α} {b:α→α} (h0:V 0=l 0) (hs:∀ n,V (n+1)=b (V n)) (hl:∀ n,l (n+1)=b (l n)):V=l :=
 funext fun n=>by
  induction n with
  | zero=>exact h0
  | succ n ih=>rw [hs,hl,ih]
def IH (P:Program) (ct:List (Nat × Cn)):Prop:=∀ g c,V.look ct g=some c→CJ J P g c
theorem IH.nil {P:Program}:IH P []:=fun g c h=>by cases h
theorem IH.cons {P:Program} {f:Nat} {c:Cn} {ct:List (Nat × Cn)} (h:CJ J P f c) (t:IH P ct):IH P ((f,c)::ct):=fun g d q=>by
 simp only [V.look] at q
 cases hb:Nat.beq f g with
 | true=>rw [hb] at q;cases q;rw [← Nat.eq_of_beq_eq_true hb];exact h
 | false=>rw [hb] at q;exact t g d q
structure Ce where
 f:Nat
 c:Cn
 h:CJ J Tryz.prog f c
def q {f:Nat} {c:Cn} (h:CJ J Tryz.prog f c):Ce:=⟨f,c,h⟩
def JP:List Ce→List (Nat × Cn)
 | []=>[]
 | e::l=>(e.f,e.c)::JP l
theorem Fv:∀ l:List Ce,IH Tryz.prog (JP l)
 | []=>IH.nil
 | e::l=>IH.cons e.h (Fv l)
def en (D:List Ce) (lv:List (Nat × List Nat)) (g:Nat) (jn:List (Nat × List Nat)) (k:Nat):cE:=⟨tb,JP D,lv,k,g,jn⟩
noncomputable def eK (E:cE) (f:Func) (c:Cn) (x:(tup (nT c.A)).den):Ex→St→Option (tup (g7 c.A++c.R)).den:=Jq E f.results.toList c.A x c.R c.fresh c.al
noncomputable def eB (E:cE) (f:Func) (c:Cn) (x:(tup (nT c.A)).den):Ex→St→Option (tup (g7 c.A++c.R)).den:=Jc E f.results.toList c.A x c.R
noncomputable def rn (E:cE) (f:Func) (c:Cn) (x:(tup (nT c.A)).den):Option (tup (g7 c.A++c.R)).den:=run E f c.A c.R c.fresh c.al x
noncomputable def rb (E:cE) (f:Func) (c:Cn) (x:(tup (nT c.A)).den):Option (tup (g7 c.A++c.R)).den:=JR E f c.A c.R x
abbrev Cp (f:Nat) (c:Cn):Prop:=CJ J Tryz.prog f c
theorem rc {f:Nat} {fn:Func} {b:Code} {c:Cn} {lv jn:List (Nat × List Nat)} {g k:Nat} (hbx:qt c.R=false) (D:List Ce) (hEg:g=cJ c.A) (hf:Tryz.prog.funcs[f]?=some fn) (hname:(fn.name == "runtime.NumGoroutine")=false) (hb:fn.body=some b)
 (hg:∀ x r,c.fn x=some r→rn (en D lv g jn k) fn c x=some r):Cp f c:=by
 obtain ⟨A,R,fr,al,fn'⟩:=c
 exact I0 (E:=en D lv g jn k) hbx mixed GX (Do Fz) (Fv D) hEg hf hname hb hg
theorem KM {f:Nat} {fn:Func} {b:Code} {c:Cn} {lv jn:List (Nat × List Nat)} {g k:Nat} (hfr:c.fresh=false) (hal:c.al=true) (hbx:qt c.R=true) (D:List Ce) (hEg:g=cJ c.A) (hf:Tryz.prog.funcs[f]?=some fn) (hname:(fn.name == "runtime.NumGoroutine")=false) (hb:fn.body=some b)
 (hg:∀ x r,c.fn x=some r→rb (en D lv g jn k) fn c x=some r):Cp f c:=by
 obtain ⟨A,R,fr,al,fn'⟩:=c
 cases hfr
 cases hal
 exact Hb (E:=en D lv g jn k) hbx mixed GX (Do Fz) (Fv D) hEg hf hname hb hg
end Go.Proofs.YtohaanhjddohmaaGreatDoor.G
