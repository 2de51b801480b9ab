/- V's table of the types of this seat, and its checks. -/
import Derived.Test.YtbgnhoggngbhhaaGreatDoorProg
import Derived.Test.YtbgnhoggngbhhaaGreatDoorVS9
import Derived.Test.YtbgnhoggngbhhaaGreatDoorVS10
import Derived.Lib.LaidTab
import Derived.Lib.ItoaNum
set_option maxRecDepth 100000
namespace Go.Proofs.YtbgnhoggngbhhaaGreatDoor.G
open Go.V
def tb:mJ:=⟨[(2,(.int .i64)),
 (3,(.int .i64)),
 (4,.bool),
 (5,(.int .u8)),
 (9,.str),
 (12,(.int .u64)),
 (21,(.int .i32)),
 (22,(.slice (.int .u8))),
 (41,(.pair (.int .i64) (.pair (.int .i64) (.pair .str (.pair .str (.pair (.int .i64) .unit)))))),
 (24,(.slice (.pair (.int .i64) (.pair (.int .i64) (.pair .str (.pair .str (.pair (.int .i64) .unit))))))),
 (76,(.pair .str (.pair .str (.pair (.int .i64) .unit)))),
 (26,(.slice (.pair .str (.pair .str (.pair (.int .i64) .unit))))),
 (142,(.pair .str (.pair (.int .i64) .unit))),
 (70,(.slice (.pair .str (.pair (.int .i64) .unit)))),
 (78,(.pair .str (.pair .bool (.pair .str .unit)))),
 (37,(.slice (.pair .str (.pair .bool (.pair .str .unit))))),
 (72,(.pair .bool (.pair (.slice (.pair .str (.pair (.int .i64) .unit))) (.pair (.slice (.pair .str (.pair .bool (.pair .str .unit)))) .unit)))),
 (27,(.slice (.pair .bool (.pair (.slice (.pair .str (.pair (.int .i64) .unit))) (.pair (.slice (.pair .str (.pair .bool (.pair .str .unit)))) .unit))))),
 (28,(.pair .bool (.pair (.slice (.pair .str (.pair .str (.pair (.int .i64) .unit)))) (.pair (.int .i64) (.pair (.slice (.pair .bool (.pair (.slice (.pair .str (.pair (.int .i64) .unit))) (.pair (.slice (.pair .str (.pair .bool (.pair .str .unit)))) .unit)))) .unit))))),
 (29,(.pair .bool (.pair (.slice (.pair .str (.pair .str (.pair (.int .i64) .unit)))) (.pair (.int .i64) (.pair (.slice (.pair .bool (.pair (.slice (.pair .str (.pair (.int .i64) .unit))) (.pair (.slice (.pair .str (.pair .bool (.pair .str .unit)))) .unit)))) .unit))))),
 (36,(.slice .str)),
 (43,(.pair (.int .i64) (.pair .str (.pair (.slice .str) .unit)))),
 (30,(.slice (.pair (.int .i64) (.pair .str (.pair (.slice .str) .unit))))),
 (39,(.pair (.int .i64) (.pair (.slice (.pair .str (.pair .str (.pair (.int .i64) .unit)))) (.pair (.slice .str) (.pair (.slice (.pair .str (.pair .bool (.pair .str .unit)))) .unit))))),
 (33,(.slice (.pair (.int .i64) (.pair (.slice (.pair .str (.pair .str (.pair (.int .i64) .unit)))) (.pair (.slice .str) (.pair (.slice (.pair .str (.pair .bool (.pair .str .unit)))) .unit)))))),
 (38,(.pair (.int .i64) (.pair (.slice (.pair .str (.pair .str (.pair (.int .i64) .unit)))) (.pair (.slice .str) (.pair (.slice (.pair .str (.pair .bool (.pair .str .unit)))) .unit))))),
 (40,(.pair (.int .i64) (.pair (.int .i64) (.pair .str (.pair .str (.pair (.int .i64) .unit)))))),
 (42,(.pair (.int .i64) (.pair .str (.pair (.slice .str) .unit)))),
 (45,(.slice (.int .i64))),
 (46,(.pair (.int .i64) (.pair (.slice (.int .i64)) .unit))),
 (47,(.pair (.int .i64) (.pair (.slice (.int .i64)) .unit))),
 (116,(.pair .str (.pair (.int .i64) (.pair (.int .i64) (.pair (.int .i64) (.pair (.int .i64) .unit)))))),
 (48,(.slice (.pair .str (.pair (.int .i64) (.pair (.int .i64) (.pair (.int .i64) (.pair (.int .i64) .unit))))))),
 (49,(.pair (.pair (.int .i64) (.pair (.slice (.int .i64)) .unit)) (.pair (.slice (.pair .str (.pair (.int .i64) (.pair (.int .i64) (.pair (.int .i64) (.pair (.int .i64) .unit)))))) (.pair (.int .i64) (.pair (.int .i64) (.pair (.int .i64) .unit)))))),
 (50,(.pair (.pair (.int .i64) (.pair (.slice (.int .i64)) .unit)) (.pair (.slice (.pair .str (.pair (.int .i64) (.pair (.int .i64) (.pair (.int .i64) (.pair (.int .i64) .unit)))))) (.pair (.int .i64) (.pair (.int .i64) (.pair (.int .i64) .unit)))))),
 (132,(.pair .str (.pair .str (.pair (.int .i64) .unit)))),
 (51,(.slice (.pair .str (.pair .str (.pair (.int .i64) .unit))))),
 (52,(.pair (.slice (.pair .str (.pair .str (.pair (.int .i64) .unit)))) (.pair (.int .i64) (.pair (.int .i64) (.pair .bool .unit))))),
 (53,(.pair (.slice (.pair .str (.pair .str (.pair (.int .i64) .unit)))) (.pair (.int .i64) (.pair (.int .i64) (.pair .bool .unit))))),
 (54,(.pair .bool (.pair (.pair (.pair (.int .i64) (.pair (.slice (.int .i64)) .unit)) (.pair (.slice (.pair .str (.pair (.int .i64) (.pair (.int .i64) (.pair (.int .i64) (.pair (.int .i64) .unit)))))) (.pair (.int .i64) (.pair (.int .i64) (.pair (.int .i64) .unit))))) (.pair (.pair (.slice (.pair .str (.pair .str (.pair (.int .i64) .unit)))) (.pair (.int .i64) (.pair (.int .i64) (.pair .bool .unit)))) (.pair (.slice (.pair .bool (.pair (.slice (.pair .str (.pair (.int .i64) .unit))) (.pair (.slice (.pair .str (.pair .bool (.pair .str .unit)))) .unit)))) .unit))))),
 (55,(.pair .bool (.pair (.pair (.pair (.int .i64) (.pair (.slice (.int .i64)) .unit)) (.pair (.slice (.pair .str (.pair (.int .i64) (.pair (.int .i64) (.pair (.int .i64) (.pair (.int .i64) .unit)))))) (.pair (.int .i64) (.pair (.int .i64) (.pair (.int .i64) .unit))))) (.pair (.pair (.slice (.pair .str (.pair .str (.pair (.int .i64) .unit)))) (.pair (.int .i64) (.pair (.int .i64) (.pair .bool .unit)))) (.pair (.slice (.pair .bool (.pair (.slice (.pair .str (.pair (.int .i64) .unit))) (.pair (.slice (.pair .str (.pair .bool (.pair .str .unit)))) .unit)))) .unit))))),
 (109,(.pair (.int .i64) (.pair (.slice (.pair .str (.pair .bool (.pair .str .unit)))) .unit))),
 (56,(.slice (.pair (.int .i64) (.pair (.slice (.pair .str (.pair .bool (.pair .str .unit)))) .unit)))),
 (57,(.pair (.pair .bool (.pair (.pair (.pair (.int .i64) (.pair (.slice (.int .i64)) .unit)) (.pair (.slice (.pair .str (.pair (.int .i64) (.pair (.int .i64) (.pair (.int .i64) (.pair (.int .i64) .unit)))))) (.pair (.int .i64) (.pair (.int .i64) (.pair (.int .i64) .unit))))) (.pair (.pair (.slice (.pair .str (.pair .str (.pair (.int .i64) .unit)))) (.pair (.int .i64) (.pair (.int .i64) (.pair .bool .unit)))) (.pair (.slice (.pair .bool (.pair (.slice (.pair .str (.pair (.int .i64) .unit))) (.pair (.slice (.pair .str (.pair .bool (.pair .str .unit)))) .unit)))) .unit)))) (.pair (.slice (.pair (.int .i64) (.pair .str (.pair (.slice .str) .unit)))) (.pair (.slice (.pair (.int .i64) (.pair (.slice (.pair .str (.pair .bool (.pair .str .unit)))) .unit))) (.pair (.slice (.pair .str (.pair .bool (.pair .str .unit)))) .unit))))),
 (58,(.pair (.pair .bool (.pair (.pair (.pair (.int .i64) (.pair (.slice (.int .i64)) .unit)) (.pair (.slice (.pair .str (.pair (.int .i64) (.pair (.int .i64) (.pair (.int .i64) (.pair (.int .i64) .unit)))))) (.pair (.int .i64) (.pair (.int .i64) (.pair (.int .i64) .unit))))) (.pair (.pair (.slice (.pair .str (.pair .str (.pair (.int .i64) .unit)))) (.pair (.int .i64) (.pair (.int .i64) (.pair .bool .unit)))) (.pair (.slice (.pair .bool (.pair (.slice (.pair .str (.pair (.int .i64) .unit))) (.pair (.slice (.pair .str (.pair .bool (.pair .str .unit)))) .unit)))) .unit)))) (.pair (.slice (.pair (.int .i64) (.pair .str (.pair (.slice .str) .unit)))) (.pair (.slice (.pair (.int .i64) (.pair (.slice (.pair .str (.pair .bool (.pair .str .unit)))) .unit))) (.pair (.slice (.pair .str (.pair .bool (.pair .str .unit)))) .unit))))),
 (60,(.pair (.int .i64) (.pair (.int .i64) (.pair (.slice (.pair (.int .i64) (.pair (.int .i64) (.pair .str (.pair .str (.pair (.int .i64) .unit)))))) .unit)))),
 (61,(.pair (.int .i64) (.pair (.int .i64) (.pair (.slice (.pair (.int .i64) (.pair (.int .i64) (.pair .str (.pair .str (.pair (.int .i64) .unit)))))) .unit)))),
 (63,.opq),
 (71,(.pair .bool (.pair (.slice (.pair .str (.pair (.int .i64) .unit))) (.pair (.slice (.pair .str (.pair .bool (.pair .str .unit)))) .unit)))),
 (75,(.pair .str (.pair .str (.pair (.int .i64) .unit)))),
 (77,(.pair .str (.pair .bool (.pair .str .unit)))),
 (85,(.pair (.slice (.int .u8)) (.pair (.int .i64) (.pair (.int .i64) .unit)))),
 (86,(.pair (.slice (.int .u8)) (.pair (.int .i64) (.pair (.int .i64) .unit)))),
 (87,(.slice .bool)),
 (108,(.pair (.int .i64) (.pair (.slice (.pair .str (.pair .bool (.pair .str .unit)))) .unit))),
 (115,(.pair .str (.pair (.int .i64) (.pair (.int .i64) (.pair (.int .i64) (.pair (.int .i64) .unit)))))),
 (124,.opq),
 (125,(.pair (.pair (.slice (.pair .str (.pair .str (.pair (.int .i64) .unit)))) (.pair (.int .i64) (.pair (.int .i64) (.pair .bool .unit)))) (.pair (.int .i64) .unit))),
 (126,(.pair (.pair (.slice (.pair .str (.pair .str (.pair (.int .i64) .unit)))) (.pair (.int .i64) (.pair (.int .i64) (.pair .bool .unit)))) (.pair (.int .i64) .unit))),
 (131,(.pair .str (.pair .str (.pair (.int .i64) .unit)))),
 (135,.opq),
 (138,(.int .u64)),
 (141,(.pair .str (.pair (.int .i64) .unit))),
 (198,(.pair (.int .i64) (.pair (.int .i64) (.pair .str (.pair .str (.pair (.int .i64) (.pair (.int .i64) .unit))))))),
 (200,(.pair (.int .i64) (.pair (.int .i64) (.pair (.int .i64) (.pair (.pair (.int .i64) (.pair (.int .i64) (.pair .str (.pair .str (.pair (.int .i64) (.pair (.int .i64) .unit)))))) .unit))))),
 (159,(.slice (.pair (.int .i64) (.pair (.int .i64) (.pair (.int .i64) (.pair (.pair (.int .i64) (.pair (.int .i64) (.pair .str (.pair .str (.pair (.int .i64) (.pair (.int .i64) .unit)))))) .unit)))))),
 (147,(.slice (.slice (.pair (.int .i64) (.pair (.int .i64) (.pair (.int .i64) (.pair (.pair (.int .i64) (.pair (.int .i64) (.pair .str (.pair .str (.pair (.int .i64) (.pair (.int .i64) .unit)))))) .unit))))))),
 (155,(.pair (.slice (.pair .str (.pair (.int .i64) (.pair (.int .i64) (.pair (.int .i64) (.pair (.int .i64) .unit)))))) (.pair (.int .i64) (.pair (.int .i64) .unit)))),
 (156,(.pair (.slice (.pair .str (.pair (.int .i64) (.pair (.int .i64) (.pair (.int .i64) (.pair (.int .i64) .unit)))))) (.pair (.int .i64) (.pair (.int .i64) .unit)))),
 (170,.opq),
 (176,.opq),
 (177,(.pair .str (.pair .bool .unit))),
 (178,(.pair .str (.pair .bool .unit))),
 (228,(.pair (.int .i64) (.pair (.int .i64) (.pair (.pair (.int .i64) (.pair (.int .i64) (.pair .str (.pair .str (.pair (.int .i64) (.pair (.int .i64) .unit)))))) .unit)))),
 (181,(.slice (.pair (.int .i64) (.pair (.int .i64) (.pair (.pair (.int .i64) (.pair (.int .i64) (.pair .str (.pair .str (.pair (.int .i64) (.pair (.int .i64) .unit)))))) .unit))))),
 (188,.opq),
 (189,.opq),
 (192,(.pair (.int .i64) (.pair (.int .i64) (.pair (.slice (.pair .str (.pair (.int .i64) (.pair (.int .i64) (.pair (.int .i64) (.pair (.int .i64) .unit)))))) .unit)))),
 (193,(.pair (.int .i64) (.pair (.int .i64) (.pair (.slice (.pair .str (.pair (.int .i64) (.pair (.int .i64) (.pair (.int .i64) (.pair (.int .i64) .unit)))))) .unit)))),
 (197,(.pair (.int .i64) (.pair (.int .i64) (.pair .str (.pair .str (.pair (.int .i64) (.pair (.int .i64) .unit))))))),
 (199,(.pair (.int .i64) (.pair (.int .i64) (.pair (.int .i64) (.pair (.pair (.int .i64) (.pair (.int .i64) (.pair .str (.pair .str (.pair (.int .i64) (.pair (.int .i64) .unit)))))) .unit))))),
 (211,.opq),
 (213,(.slice (.pair (.int .i64) (.pair (.int .i64) (.pair .str (.pair .str (.pair (.int .i64) (.pair (.int .i64) .unit)))))))),
 (227,(.pair (.int .i64) (.pair (.int .i64) (.pair (.pair (.int .i64) (.pair (.int .i64) (.pair .str (.pair .str (.pair (.int .i64) (.pair (.int .i64) .unit)))))) .unit)))),
 (235,.opq),
 (254,(.int .u32)),
 (263,(.int .u64)),
 (268,(.int .i64)),
 (271,.opq),
 (286,.opq),
 (287,.opq),
 (288,(.pair .str .unit)),
 (289,(.pair .str .unit))],
 [(41,[(0,1),(1,1),(2,1),(3,1),(4,1)]),(76,[(0,1),(1,1),(2,1)]),(142,[(0,1),(1,1)]),(78,[(0,1),(1,1),(2,1)]),(72,[(0,1),(1,1),(2,1)]),(28,[(0,1),(1,1),(2,1),(3,1)]),(29,[(0,1),(1,1),(2,1),(3,1)]),(43,[(0,1),(1,1),(2,1)]),(39,[(0,1),(1,1),(2,1),(3,1)]),(38,[(0,1),(1,1),(2,1),(3,1)]),(40,[(0,1),(1,1),(2,1),(3,1),(4,1)]),(42,[(0,1),(1,1),(2,1)]),(46,[(0,1),(1,1)]),(47,[(0,1),(1,1)]),(116,[(0,1),(1,1),(2,1),(3,1),(4,1)]),(49,[(0,2),(2,1),(3,1),(4,1),(5,1)]),(50,[(0,2),(2,1),(3,1),(4,1),(5,1)]),(132,[(0,1),(1,1),(2,1)]),(52,[(0,1),(1,1),(2,1),(3,1)]),(53,[(0,1),(1,1),(2,1),(3,1)]),(54,[(0,1),(1,6),(7,4),(11,1)]),(55,[(0,1),(1,6),(7,4),(11,1)]),(109,[(0,1),(1,1)]),(57,[(0,12),(12,1),(13,1),(14,1)]),(58,[(0,12),(12,1),(13,1),(14,1)]),(60,[(0,1),(1,1),(2,1)]),(61,[(0,1),(1,1),(2,1)]),(71,[(0,1),(1,1),(2,1)]),(75,[(0,1),(1,1),(2,1)]),(77,[(0,1),(1,1),(2,1)]),(85,[(0,1),(1,1),(2,1)]),(86,[(0,1),(1,1),(2,1)]),(108,[(0,1),(1,1)]),(115,[(0,1),(1,1),(2,1),(3,1),(4,1)]),(125,[(0,4),(4,1)]),(126,[(0,4),(4,1)]),(131,[(0,1),(1,1),(2,1)]),(141,[(0,1),(1,1)]),(198,[(0,1),(1,1),(2,1),(3,1),(4,1),(5,1)]),(200,[(0,1),(1,1),(2,1),(3,6)]),(155,[(0,1),(1,1),(2,1)]),(156,[(0,1),(1,1),(2,1)]),(177,[(0,1),(1,1)]),(178,[(0,1),(1,1)]),(228,[(0,1),(1,1),(2,6)]),(192,[(0,1),(1,1),(2,1)]),(193,[(0,1),(1,1),(2,1)]),(197,[(0,1),(1,1),(2,1),(3,1),(4,1),(5,1)]),(199,[(0,1),(1,1),(2,1),(3,6)]),(227,[(0,1),(1,1),(2,6)]),(288,[(0,1)]),(289,[(0,1)])],
 [(41,[(.int .i64),(.int .i64),.str,.str,(.int .i64)]),(76,[.str,.str,(.int .i64)]),(142,[.str,(.int .i64)]),(78,[.str,.bool,.str]),(40,[(.int .i64),(.int .i64),.str,.str,(.int .i64)]),(116,[.str,(.int .i64),(.int .i64),(.int .i64),(.int .i64)]),(132,[.str,.str,(.int .i64)]),(75,[.str,.str,(.int .i64)]),(77,[.str,.bool,.str]),(115,[.str,(.int .i64),(.int .i64),(.int .i64),(.int .i64)]),(131,[.str,.str,(.int .i64)]),(141,[.str,(.int .i64)]),(198,[(.int .i64),(.int .i64),.str,.str,(.int .i64),(.int .i64)]),(177,[.str,.bool]),(178,[.str,.bool]),(197,[(.int .i64),(.int .i64),.str,.str,(.int .i64),(.int .i64)]),(288,[.str]),(289,[.str])],
 [(41,[3,3,9,9,3]),(76,[9,9,3]),(142,[9,3]),(78,[9,4,9]),(72,[4,70,37]),(28,[4,26,3,27]),(29,[4,26,3,27]),(43,[3,9,36]),(39,[3,26,36,37]),(38,[3,26,36,37]),(40,[3,3,9,9,3]),(42,[3,9,36]),(46,[3,45]),(47,[3,45]),(116,[9,3,3,3,3]),(49,[47,48,3,3,3]),(50,[47,48,3,3,3]),(132,[9,9,3]),(52,[51,3,3,4]),(53,[51,3,3,4]),(54,[4,50,53,27]),(55,[4,50,53,27]),(109,[3,37]),(57,[55,30,56,37]),(58,[55,30,56,37]),(60,[3,3,24]),(61,[3,3,24]),(71,[4,70,37]),(75,[9,9,3]),(77,[9,4,9]),(85,[22,3,3]),(86,[22,3,3]),(108,[3,37]),(115,[9,3,3,3,3]),(125,[53,3]),(126,[53,3]),(131,[9,9,3]),(141,[9,3]),(198,[3,3,9,9,3,3]),(200,[3,3,3,198]),(155,[48,3,3]),(156,[48,3,3]),(177,[9,4]),(178,[9,4]),(228,[3,3,198]),(192,[3,3,48]),(193,[3,3,48]),(197,[3,3,9,9,3,3]),(199,[3,3,3,198]),(227,[3,3,198]),(288,[9]),(289,[9])],
 []⟩
theorem Fz:cg Tryz.prog tb=true:=by kernel_rfl
theorem NG:nH tb=true:=by kernel_rfl
theorem D3:EO Tryz.prog tb=true:=by kernel_rfl
theorem mixed:Tryz.prog.follows .mixedOrders=true:=by kernel_rfl
theorem Q7:Tryz.prog.globalNamed "internal/strconv.uint64pow10" = some 0:=by kernel_rfl
theorem Pr:Tryz.prog.globalNamed "strconv.ErrSyntax" = some 1:=by kernel_rfl
theorem P4:Tryz.prog.globalNamed "strconv.ErrRange" = some 2:=by kernel_rfl
theorem wI {P:Program} {w w':World} {name:String} {i n:Nat} (hg:P.globalNamed name=some i) (hi:i<n) (h:∀ k,k<n→w'.heap[k]?=w.heap[k]?):w'.var? P name=w.var? P name:=by
 unfold World.var?
 rw [hg,Option.bind_some,Option.bind_some,h i hi]
def J:Gl where
 n:=3
 ok:=fun w=>3≤w.heap.size∧Lib.TabIs Tryz.prog w "internal/strconv.uint64pow10" .u64 Lib.pow10Tab∧(∃ t p,w.var? Tryz.prog "strconv.ErrSyntax" = some #[.iface t p])∧(∃ t p,w.var? Tryz.prog "strconv.ErrRange" = some #[.iface t p])∧True
 lt:=fun w h=>h.1
 frame:=fun w w' h hb hs=>⟨Nat.le_trans h.1 hs,(by unfold Lib.TabIs;rw [wI Q7 (by decide) hb];exact h.2.1),(by rw [wI Pr (by decide) hb];exact h.2.2.1),(by rw [wI P4 (by decide) hb];exact h.2.2.2.1),trivial⟩
def bt:Nat→Nat→List Bool
 | 0,_=>[]
 | d+1,n=>(n % 2==1)::bt d (n/2)
noncomputable def QN {R:Type} (E:jF) (c:Code) (g:Nat) (lv:List Nat) (K:Ex→St→Option R) (n:Nat):Ex→St→Option R:=fun e st=>match e with
 | .normal=>bU (cH E c) (bH g lv) K n (bH g lv st)
 | .ret=>K .ret st
 | .exit j=>K (.exit j) st
theorem ap {α:Type} {V l:Nat→α} {b:α→α} (h0:V 0=l 0) (hs:∀ n,V (n+1)=b (V n)) (hl:∀ n,l (n+1)=b (l n)):V=l :=
 funext fun n=>by
  induction n with
  | zero=>exact h0
  | succ n ih=>rw [hs,hl,ih]
def Nx (P:Program) (ct:List (Nat × Cn)):Prop:=∀ g c,V.look ct g=some c→GF J P g c
theorem Nx.nil {P:Program}:Nx P []:=fun g c h=>by cases h
theorem Nx.cons {P:Program} {f:Nat} {c:Cn} {ct:List (Nat × Cn)} (h:GF J P f c) (t:Nx P ct):Nx P ((f,c)::ct):=fun g d q=>by
 simp only [V.look] at q
 cases hb:Nat.beq f g with
 | true=>rw [hb] at q;cases q;rw [← Nat.eq_of_beq_eq_true hb];exact h
 | false=>rw [hb] at q;exact t g d q
structure Ce where
 f:Nat
 c:Cn
 h:GF J Tryz.prog f c
def q {f:Nat} {c:Cn} (h:GF J Tryz.prog f c):Ce:=⟨f,c,h⟩
def PZ:List Ce→List (Nat × Cn)
 | []=>[]
 | e::l=>(e.f,e.c)::PZ l
theorem Ew:∀ l:List Ce,Nx Tryz.prog (PZ l)
 | []=>Nx.nil
 | e::l=>Nx.cons e.h (Ew l)
def en (D:List Ce) (lv:List (Nat × List Nat)) (g:Nat) (jn:List (Nat × List Nat)) (k:Nat):jF:=⟨tb,PZ D,lv,k,g,jn⟩
noncomputable def eK (E:jF) (f:Func) (c:Cn) (x:(tup (pC c.A)).d):Ex→St→Option (tup (gk c.A++c.R)).d:=Q0 E f.results.toList c.A x c.R c.fresh c.al
noncomputable def eB (E:jF) (f:Func) (c:Cn) (x:(tup (pC c.A)).d):Ex→St→Option (tup (gk c.A++c.R)).d:=QJ E f.results.toList c.A x c.R
noncomputable def rn (E:jF) (f:Func) (c:Cn) (x:(tup (pC c.A)).d):Option (tup (gk c.A++c.R)).d:=run E f c.A c.R c.fresh c.al x
noncomputable def rb (E:jF) (f:Func) (c:Cn) (x:(tup (pC c.A)).d):Option (tup (gk c.A++c.R)).d:=PN E f c.A c.R x
abbrev Cp (f:Nat) (c:Cn):Prop:=GF J Tryz.prog f c
theorem Q8:Tryz.prog.funcs.toList.all (fun g=>!(g.name == "runtime.NumGoroutine"))=true:=by kernel_rfl
theorem nm {f:Nat} {fn:Func} (hf:Tryz.prog.funcs[f]?=some fn):(fn.name == "runtime.NumGoroutine")=false:=by
 have h:=List.all_eq_true.1 Q8 fn (List.mem_of_getElem? (by rw [Array.getElem?_toList];exact hf))
 simpa using h
def dU (f:Func) (d n:Nat):Code:=at_ (bt d n) (body f)
theorem ry {f:Nat} {fn:Func} {b:Code} {c:Cn} {lv jn:List (Nat × List Nat)} {k:Nat} (D:List Ce) {E:jF} (hE:E=en D lv (cR c.A) jn k) (hbx:q_ c.R=false) (hf:Tryz.prog.funcs[f]?=some fn) (hb:fn.body=some b)
 (hg:∀ x,rn E fn c x=c.fn x):Cp f c:=by
 obtain ⟨A,R,fr,al,fn'⟩:=c
 subst hE
 exact I2 (E:=en D lv (cR A) jn k) hbx mixed Fz (yN D3) (Ew D) rfl hf (nm hf) hb fun x r h=>(hg x).trans h
theorem rz {f:Nat} {fn:Func} {b:Code} {c:Cn} (k:Nat) (hbx:q_ c.R=false) (D:List Ce) (hf:Tryz.prog.funcs[f]?=some fn) (hb:fn.body=some b) (hg:∀ x,rn (en D [] (cR c.A) [] k) fn c x=c.fn x):Cp f c:=ry D rfl hbx hf hb hg
theorem Ql {f:Nat} {fn:Func} {b:Code} {c:Cn} {lv jn:List (Nat × List Nat)} {k:Nat} (hfr:c.fresh=false) (hal:c.al=true) (D:List Ce) {E:jF} (hE:E=en D lv (cR c.A) jn k) (hbx:q_ c.R=true) (hf:Tryz.prog.funcs[f]?=some fn) (hb:fn.body=some b)
 (hg:∀ x,rb E fn c x=c.fn x):Cp f c:=by
 obtain ⟨A,R,fr,al,fn'⟩:=c
 cases hfr
 cases hal
 subst hE
 exact IH (E:=en D lv (cR A) jn k) hbx mixed Fz (yN D3) (Ew D) rfl hf (nm hf) hb fun x r h=>(hg x).trans h
end Go.Proofs.YtbgnhoggngbhhaaGreatDoor.G
