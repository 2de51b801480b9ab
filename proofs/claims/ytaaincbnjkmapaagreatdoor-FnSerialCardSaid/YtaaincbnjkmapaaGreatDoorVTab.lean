/- V's table of the types of this seat, and its checks. -/
import Derived.Test.YtaaincbnjkmapaaGreatDoorProg
import Derived.Test.YtaaincbnjkmapaaGreatDoorVS9
import Derived.Test.YtaaincbnjkmapaaGreatDoorVS10
import Derived.Lib.LaidTab
import Derived.Lib.ItoaNum
set_option maxRecDepth 100000
namespace Go.Proofs.YtaaincbnjkmapaaGreatDoor.G
open Go.V
def tb:ma:=⟨[(2,(.int .i64)),
 (3,(.int .i64)),
 (4,.bool),
 (5,(.int .u8)),
 (9,.str),
 (12,(.int .u64)),
 (21,(.int .i32)),
 (22,(.slice (.int .u8))),
 (53,(.pair (.int .i64) (.pair (.int .i64) (.pair .str (.pair .str (.pair (.int .i64) .unit)))))),
 (24,(.slice (.pair (.int .i64) (.pair (.int .i64) (.pair .str (.pair .str (.pair (.int .i64) .unit))))))),
 (26,(.slice (.int .i64))),
 (27,(.pair (.int .i64) (.pair (.slice (.int .i64)) .unit))),
 (28,(.pair (.int .i64) (.pair (.slice (.int .i64)) .unit))),
 (136,(.pair .str (.pair (.int .i64) (.pair (.int .i64) (.pair (.int .i64) (.pair (.int .i64) .unit)))))),
 (29,(.slice (.pair .str (.pair (.int .i64) (.pair (.int .i64) (.pair (.int .i64) (.pair (.int .i64) .unit))))))),
 (30,(.pair (.pair (.int .i64) (.pair (.slice (.int .i64)) .unit)) (.pair (.slice (.pair .str (.pair (.int .i64) (.pair (.int .i64) (.pair (.int .i64) (.pair (.int .i64) .unit)))))) (.pair (.int .i64) (.pair (.int .i64) (.pair (.int .i64) .unit)))))),
 (31,(.pair (.pair (.int .i64) (.pair (.slice (.int .i64)) .unit)) (.pair (.slice (.pair .str (.pair (.int .i64) (.pair (.int .i64) (.pair (.int .i64) (.pair (.int .i64) .unit)))))) (.pair (.int .i64) (.pair (.int .i64) (.pair (.int .i64) .unit)))))),
 (127,(.pair .str (.pair .str (.pair (.int .i64) .unit)))),
 (32,(.slice (.pair .str (.pair .str (.pair (.int .i64) .unit))))),
 (33,(.pair (.slice (.pair .str (.pair .str (.pair (.int .i64) .unit)))) (.pair (.int .i64) (.pair (.int .i64) (.pair .bool .unit))))),
 (34,(.pair (.slice (.pair .str (.pair .str (.pair (.int .i64) .unit)))) (.pair (.int .i64) (.pair (.int .i64) (.pair .bool .unit))))),
 (219,(.pair .str (.pair (.int .i64) .unit))),
 (105,(.slice (.pair .str (.pair (.int .i64) .unit)))),
 (102,(.pair .str (.pair .bool (.pair .str .unit)))),
 (40,(.slice (.pair .str (.pair .bool (.pair .str .unit))))),
 (107,(.pair .bool (.pair (.slice (.pair .str (.pair (.int .i64) .unit))) (.pair (.slice (.pair .str (.pair .bool (.pair .str .unit)))) .unit)))),
 (35,(.slice (.pair .bool (.pair (.slice (.pair .str (.pair (.int .i64) .unit))) (.pair (.slice (.pair .str (.pair .bool (.pair .str .unit)))) .unit))))),
 (36,(.pair .bool (.pair (.pair (.pair (.int .i64) (.pair (.slice (.int .i64)) .unit)) (.pair (.slice (.pair .str (.pair (.int .i64) (.pair (.int .i64) (.pair (.int .i64) (.pair (.int .i64) .unit)))))) (.pair (.int .i64) (.pair (.int .i64) (.pair (.int .i64) .unit))))) (.pair (.pair (.slice (.pair .str (.pair .str (.pair (.int .i64) .unit)))) (.pair (.int .i64) (.pair (.int .i64) (.pair .bool .unit)))) (.pair (.slice (.pair .bool (.pair (.slice (.pair .str (.pair (.int .i64) .unit))) (.pair (.slice (.pair .str (.pair .bool (.pair .str .unit)))) .unit)))) .unit))))),
 (37,(.pair .bool (.pair (.pair (.pair (.int .i64) (.pair (.slice (.int .i64)) .unit)) (.pair (.slice (.pair .str (.pair (.int .i64) (.pair (.int .i64) (.pair (.int .i64) (.pair (.int .i64) .unit)))))) (.pair (.int .i64) (.pair (.int .i64) (.pair (.int .i64) .unit))))) (.pair (.pair (.slice (.pair .str (.pair .str (.pair (.int .i64) .unit)))) (.pair (.int .i64) (.pair (.int .i64) (.pair .bool .unit)))) (.pair (.slice (.pair .bool (.pair (.slice (.pair .str (.pair (.int .i64) .unit))) (.pair (.slice (.pair .str (.pair .bool (.pair .str .unit)))) .unit)))) .unit))))),
 (54,(.slice .str)),
 (56,(.pair (.int .i64) (.pair .str (.pair (.slice .str) .unit)))),
 (38,(.slice (.pair (.int .i64) (.pair .str (.pair (.slice .str) .unit))))),
 (87,(.pair (.int .i64) (.pair (.slice (.pair .str (.pair .bool (.pair .str .unit)))) .unit))),
 (39,(.slice (.pair (.int .i64) (.pair (.slice (.pair .str (.pair .bool (.pair .str .unit)))) .unit)))),
 (41,(.pair (.pair .bool (.pair (.pair (.pair (.int .i64) (.pair (.slice (.int .i64)) .unit)) (.pair (.slice (.pair .str (.pair (.int .i64) (.pair (.int .i64) (.pair (.int .i64) (.pair (.int .i64) .unit)))))) (.pair (.int .i64) (.pair (.int .i64) (.pair (.int .i64) .unit))))) (.pair (.pair (.slice (.pair .str (.pair .str (.pair (.int .i64) .unit)))) (.pair (.int .i64) (.pair (.int .i64) (.pair .bool .unit)))) (.pair (.slice (.pair .bool (.pair (.slice (.pair .str (.pair (.int .i64) .unit))) (.pair (.slice (.pair .str (.pair .bool (.pair .str .unit)))) .unit)))) .unit)))) (.pair (.slice (.pair (.int .i64) (.pair .str (.pair (.slice .str) .unit)))) (.pair (.slice (.pair (.int .i64) (.pair (.slice (.pair .str (.pair .bool (.pair .str .unit)))) .unit))) (.pair (.slice (.pair .str (.pair .bool (.pair .str .unit)))) .unit))))),
 (42,(.pair (.pair .bool (.pair (.pair (.pair (.int .i64) (.pair (.slice (.int .i64)) .unit)) (.pair (.slice (.pair .str (.pair (.int .i64) (.pair (.int .i64) (.pair (.int .i64) (.pair (.int .i64) .unit)))))) (.pair (.int .i64) (.pair (.int .i64) (.pair (.int .i64) .unit))))) (.pair (.pair (.slice (.pair .str (.pair .str (.pair (.int .i64) .unit)))) (.pair (.int .i64) (.pair (.int .i64) (.pair .bool .unit)))) (.pair (.slice (.pair .bool (.pair (.slice (.pair .str (.pair (.int .i64) .unit))) (.pair (.slice (.pair .str (.pair .bool (.pair .str .unit)))) .unit)))) .unit)))) (.pair (.slice (.pair (.int .i64) (.pair .str (.pair (.slice .str) .unit)))) (.pair (.slice (.pair (.int .i64) (.pair (.slice (.pair .str (.pair .bool (.pair .str .unit)))) .unit))) (.pair (.slice (.pair .str (.pair .bool (.pair .str .unit)))) .unit))))),
 (44,(.pair (.int .i64) (.pair (.int .i64) (.pair (.slice (.pair (.int .i64) (.pair (.int .i64) (.pair .str (.pair .str (.pair (.int .i64) .unit)))))) .unit)))),
 (45,(.pair (.int .i64) (.pair (.int .i64) (.pair (.slice (.pair (.int .i64) (.pair (.int .i64) (.pair .str (.pair .str (.pair (.int .i64) .unit)))))) .unit)))),
 (81,(.pair .str (.pair .str (.pair (.int .i64) .unit)))),
 (49,(.slice (.pair .str (.pair .str (.pair (.int .i64) .unit))))),
 (77,(.pair (.int .i64) (.pair (.slice (.pair .str (.pair .str (.pair (.int .i64) .unit)))) (.pair (.slice .str) (.pair (.slice (.pair .str (.pair .bool (.pair .str .unit)))) .unit))))),
 (47,(.slice (.pair (.int .i64) (.pair (.slice (.pair .str (.pair .str (.pair (.int .i64) .unit)))) (.pair (.slice .str) (.pair (.slice (.pair .str (.pair .bool (.pair .str .unit)))) .unit)))))),
 (52,(.pair (.int .i64) (.pair (.int .i64) (.pair .str (.pair .str (.pair (.int .i64) .unit)))))),
 (55,(.pair (.int .i64) (.pair .str (.pair (.slice .str) .unit)))),
 (62,.opq),
 (71,(.pair .bool (.pair (.slice (.pair .str (.pair .str (.pair (.int .i64) .unit)))) (.pair (.slice .str) (.pair (.slice (.pair .str (.pair .bool (.pair .str .unit)))) .unit))))),
 (72,(.pair .bool (.pair (.slice (.pair .str (.pair .str (.pair (.int .i64) .unit)))) (.pair (.slice .str) (.pair (.slice (.pair .str (.pair .bool (.pair .str .unit)))) .unit))))),
 (73,(.pair (.pair .bool (.pair (.slice (.pair .str (.pair .str (.pair (.int .i64) .unit)))) (.pair (.slice .str) (.pair (.slice (.pair .str (.pair .bool (.pair .str .unit)))) .unit)))) (.pair (.pair .bool (.pair (.slice (.pair .str (.pair .str (.pair (.int .i64) .unit)))) (.pair (.slice .str) (.pair (.slice (.pair .str (.pair .bool (.pair .str .unit)))) .unit)))) (.pair (.pair .bool (.pair (.slice (.pair .str (.pair .str (.pair (.int .i64) .unit)))) (.pair (.slice .str) (.pair (.slice (.pair .str (.pair .bool (.pair .str .unit)))) .unit)))) .unit)))),
 (74,.opq),
 (76,(.pair (.int .i64) (.pair (.slice (.pair .str (.pair .str (.pair (.int .i64) .unit)))) (.pair (.slice .str) (.pair (.slice (.pair .str (.pair .bool (.pair .str .unit)))) .unit))))),
 (80,(.pair .str (.pair .str (.pair (.int .i64) .unit)))),
 (86,(.pair (.int .i64) (.pair (.slice (.pair .str (.pair .bool (.pair .str .unit)))) .unit))),
 (88,(.pair (.slice (.int .u8)) (.pair (.int .i64) (.pair (.int .i64) .unit)))),
 (89,(.pair (.slice (.int .u8)) (.pair (.int .i64) (.pair (.int .i64) .unit)))),
 (90,(.slice .bool)),
 (101,(.pair .str (.pair .bool (.pair .str .unit)))),
 (106,(.pair .bool (.pair (.slice (.pair .str (.pair (.int .i64) .unit))) (.pair (.slice (.pair .str (.pair .bool (.pair .str .unit)))) .unit)))),
 (119,.opq),
 (120,(.pair (.pair (.slice (.pair .str (.pair .str (.pair (.int .i64) .unit)))) (.pair (.int .i64) (.pair (.int .i64) (.pair .bool .unit)))) (.pair (.int .i64) .unit))),
 (121,(.pair (.pair (.slice (.pair .str (.pair .str (.pair (.int .i64) .unit)))) (.pair (.int .i64) (.pair (.int .i64) (.pair .bool .unit)))) (.pair (.int .i64) .unit))),
 (126,(.pair .str (.pair .str (.pair (.int .i64) .unit)))),
 (132,.opq),
 (135,(.pair .str (.pair (.int .i64) (.pair (.int .i64) (.pair (.int .i64) (.pair (.int .i64) .unit)))))),
 (140,(.pair (.int .i64) (.pair (.int .i64) (.pair .str (.pair .str (.pair (.int .i64) (.pair (.int .i64) .unit))))))),
 (141,(.pair (.int .i64) (.pair (.int .i64) (.pair .str (.pair .str (.pair (.int .i64) (.pair (.int .i64) .unit))))))),
 (144,(.int .u64)),
 (198,(.pair (.int .i64) (.pair (.int .i64) (.pair (.int .i64) (.pair (.pair (.int .i64) (.pair (.int .i64) (.pair .str (.pair .str (.pair (.int .i64) (.pair (.int .i64) .unit)))))) .unit))))),
 (159,(.slice (.pair (.int .i64) (.pair (.int .i64) (.pair (.int .i64) (.pair (.pair (.int .i64) (.pair (.int .i64) (.pair .str (.pair .str (.pair (.int .i64) (.pair (.int .i64) .unit)))))) .unit)))))),
 (148,(.slice (.slice (.pair (.int .i64) (.pair (.int .i64) (.pair (.int .i64) (.pair (.pair (.int .i64) (.pair (.int .i64) (.pair .str (.pair .str (.pair (.int .i64) (.pair (.int .i64) .unit)))))) .unit))))))),
 (155,(.pair (.slice (.pair .str (.pair (.int .i64) (.pair (.int .i64) (.pair (.int .i64) (.pair (.int .i64) .unit)))))) (.pair (.int .i64) (.pair (.int .i64) .unit)))),
 (156,(.pair (.slice (.pair .str (.pair (.int .i64) (.pair (.int .i64) (.pair (.int .i64) (.pair (.int .i64) .unit)))))) (.pair (.int .i64) (.pair (.int .i64) .unit)))),
 (168,.opq),
 (177,.opq),
 (178,(.pair .str (.pair .bool .unit))),
 (179,(.pair .str (.pair .bool .unit))),
 (231,(.pair (.int .i64) (.pair (.int .i64) (.pair (.pair (.int .i64) (.pair (.int .i64) (.pair .str (.pair .str (.pair (.int .i64) (.pair (.int .i64) .unit)))))) .unit)))),
 (182,(.slice (.pair (.int .i64) (.pair (.int .i64) (.pair (.pair (.int .i64) (.pair (.int .i64) (.pair .str (.pair .str (.pair (.int .i64) (.pair (.int .i64) .unit)))))) .unit))))),
 (188,.opq),
 (189,.opq),
 (192,(.pair (.int .i64) (.pair (.int .i64) (.pair (.slice (.pair .str (.pair (.int .i64) (.pair (.int .i64) (.pair (.int .i64) (.pair (.int .i64) .unit)))))) .unit)))),
 (193,(.pair (.int .i64) (.pair (.int .i64) (.pair (.slice (.pair .str (.pair (.int .i64) (.pair (.int .i64) (.pair (.int .i64) (.pair (.int .i64) .unit)))))) .unit)))),
 (197,(.pair (.int .i64) (.pair (.int .i64) (.pair (.int .i64) (.pair (.pair (.int .i64) (.pair (.int .i64) (.pair .str (.pair .str (.pair (.int .i64) (.pair (.int .i64) .unit)))))) .unit))))),
 (206,.opq),
 (208,(.slice (.pair (.int .i64) (.pair (.int .i64) (.pair .str (.pair .str (.pair (.int .i64) (.pair (.int .i64) .unit)))))))),
 (218,(.pair .str (.pair (.int .i64) .unit))),
 (230,(.pair (.int .i64) (.pair (.int .i64) (.pair (.pair (.int .i64) (.pair (.int .i64) (.pair .str (.pair .str (.pair (.int .i64) (.pair (.int .i64) .unit)))))) .unit)))),
 (237,.opq),
 (255,(.int .u32)),
 (264,(.int .u64)),
 (269,(.int .i64)),
 (272,.opq),
 (287,.opq),
 (288,.opq),
 (289,(.pair .str .unit)),
 (290,(.pair .str .unit))],
 [(53,[(0,1),(1,1),(2,1),(3,1),(4,1)]),(27,[(0,1),(1,1)]),(28,[(0,1),(1,1)]),(136,[(0,1),(1,1),(2,1),(3,1),(4,1)]),(30,[(0,2),(2,1),(3,1),(4,1),(5,1)]),(31,[(0,2),(2,1),(3,1),(4,1),(5,1)]),(127,[(0,1),(1,1),(2,1)]),(33,[(0,1),(1,1),(2,1),(3,1)]),(34,[(0,1),(1,1),(2,1),(3,1)]),(219,[(0,1),(1,1)]),(102,[(0,1),(1,1),(2,1)]),(107,[(0,1),(1,1),(2,1)]),(36,[(0,1),(1,6),(7,4),(11,1)]),(37,[(0,1),(1,6),(7,4),(11,1)]),(56,[(0,1),(1,1),(2,1)]),(87,[(0,1),(1,1)]),(41,[(0,12),(12,1),(13,1),(14,1)]),(42,[(0,12),(12,1),(13,1),(14,1)]),(44,[(0,1),(1,1),(2,1)]),(45,[(0,1),(1,1),(2,1)]),(81,[(0,1),(1,1),(2,1)]),(77,[(0,1),(1,1),(2,1),(3,1)]),(52,[(0,1),(1,1),(2,1),(3,1),(4,1)]),(55,[(0,1),(1,1),(2,1)]),(71,[(0,1),(1,1),(2,1),(3,1)]),(72,[(0,1),(1,1),(2,1),(3,1)]),(76,[(0,1),(1,1),(2,1),(3,1)]),(80,[(0,1),(1,1),(2,1)]),(86,[(0,1),(1,1)]),(88,[(0,1),(1,1),(2,1)]),(89,[(0,1),(1,1),(2,1)]),(101,[(0,1),(1,1),(2,1)]),(106,[(0,1),(1,1),(2,1)]),(120,[(0,4),(4,1)]),(121,[(0,4),(4,1)]),(126,[(0,1),(1,1),(2,1)]),(135,[(0,1),(1,1),(2,1),(3,1),(4,1)]),(140,[(0,1),(1,1),(2,1),(3,1),(4,1),(5,1)]),(141,[(0,1),(1,1),(2,1),(3,1),(4,1),(5,1)]),(198,[(0,1),(1,1),(2,1),(3,6)]),(155,[(0,1),(1,1),(2,1)]),(156,[(0,1),(1,1),(2,1)]),(178,[(0,1),(1,1)]),(179,[(0,1),(1,1)]),(231,[(0,1),(1,1),(2,6)]),(192,[(0,1),(1,1),(2,1)]),(193,[(0,1),(1,1),(2,1)]),(197,[(0,1),(1,1),(2,1),(3,6)]),(218,[(0,1),(1,1)]),(230,[(0,1),(1,1),(2,6)]),(289,[(0,1)]),(290,[(0,1)])],
 [(53,[(.int .i64),(.int .i64),.str,.str,(.int .i64)]),(136,[.str,(.int .i64),(.int .i64),(.int .i64),(.int .i64)]),(127,[.str,.str,(.int .i64)]),(219,[.str,(.int .i64)]),(102,[.str,.bool,.str]),(81,[.str,.str,(.int .i64)]),(52,[(.int .i64),(.int .i64),.str,.str,(.int .i64)]),(80,[.str,.str,(.int .i64)]),(101,[.str,.bool,.str]),(126,[.str,.str,(.int .i64)]),(135,[.str,(.int .i64),(.int .i64),(.int .i64),(.int .i64)]),(140,[(.int .i64),(.int .i64),.str,.str,(.int .i64),(.int .i64)]),(141,[(.int .i64),(.int .i64),.str,.str,(.int .i64),(.int .i64)]),(178,[.str,.bool]),(179,[.str,.bool]),(218,[.str,(.int .i64)]),(289,[.str]),(290,[.str])],
 [(53,[3,3,9,9,3]),(27,[3,26]),(28,[3,26]),(136,[9,3,3,3,3]),(30,[28,29,3,3,3]),(31,[28,29,3,3,3]),(127,[9,9,3]),(33,[32,3,3,4]),(34,[32,3,3,4]),(219,[9,3]),(102,[9,4,9]),(107,[4,105,40]),(36,[4,31,34,35]),(37,[4,31,34,35]),(56,[3,9,54]),(87,[3,40]),(41,[37,38,39,40]),(42,[37,38,39,40]),(44,[3,3,24]),(45,[3,3,24]),(81,[9,9,3]),(77,[3,49,54,40]),(52,[3,3,9,9,3]),(55,[3,9,54]),(71,[4,49,54,40]),(72,[4,49,54,40]),(76,[3,49,54,40]),(80,[9,9,3]),(86,[3,40]),(88,[22,3,3]),(89,[22,3,3]),(101,[9,4,9]),(106,[4,105,40]),(120,[34,3]),(121,[34,3]),(126,[9,9,3]),(135,[9,3,3,3,3]),(140,[3,3,9,9,3,3]),(141,[3,3,9,9,3,3]),(198,[3,3,3,141]),(155,[29,3,3]),(156,[29,3,3]),(178,[9,4]),(179,[9,4]),(231,[3,3,141]),(192,[3,3,29]),(193,[3,3,29]),(197,[3,3,3,141]),(218,[9,3]),(230,[3,3,141]),(289,[9]),(290,[9])],
 [(73,(3,4))]⟩
theorem IZ:cX Tryz.prog tb=true:=by kernel_rfl
def Rn:ma:=⟨tb.ty.filter fun p=>(V.look tb.arr p.1).isNone,tb.off,tb.eqs,tb.fty,[]⟩
theorem QH:cX Tryz.prog Rn=true:=by kernel_rfl
theorem O6:nZ Rn=true:=by kernel_rfl
theorem EH:F5 Tryz.prog tb=true:=by kernel_rfl
theorem mixed:Tryz.prog.follows .mixedOrders=true:=by kernel_rfl
theorem Qp:Tryz.prog.globalNamed "internal/strconv.uint64pow10" = some 0:=by kernel_rfl
theorem Qy:Tryz.prog.globalNamed "strconv.ErrSyntax" = some 1:=by kernel_rfl
theorem Ph:Tryz.prog.globalNamed "strconv.ErrRange" = some 2:=by kernel_rfl
theorem wv {P:Program} {w w':World} {name:String} {i n:Nat} (hg:P.globalNamed name=some i) (hi:i<n) (h:∀ k,k<n→w'.heap[k]?=w.heap[k]?):w'.var? P name=w.var? P name:=by
 unfold World.var?
 rw [hg,Option.bind_some,Option.bind_some,h i hi]
def J:Gl where
 n:=3
 ok:=fun w=>3≤w.heap.size∧Lib.TabIs Tryz.prog w "internal/strconv.uint64pow10" .u64 Lib.pow10Tab∧(∃ t p,w.var? Tryz.prog "strconv.ErrSyntax" = some #[.iface t p])∧(∃ t p,w.var? Tryz.prog "strconv.ErrRange" = some #[.iface t p])∧True
 lt:=fun w h=>h.1
 frame:=fun w w' h hb hs=>⟨Nat.le_trans h.1 hs,(by unfold Lib.TabIs;rw [wv Qp (by decide) hb];exact h.2.1),(by rw [wv Qy (by decide) hb];exact h.2.2.1),(by rw [wv Ph (by decide) hb];exact h.2.2.2.1),trivial⟩
def bt:Nat→Nat→List Bool
 | 0,_=>[]
 | d+1,n=>(n % 2==1)::bt d (n/2)
noncomputable def Qn {R:Type} (E:jj) (c:Code) (g:Nat) (lv:List Nat) (K:Ex→St→Option R) (n:Nat):Ex→St→Option R:=fun e st=>match e with
 | .normal=>bX (cG E c) (bL g lv) K n (bL g lv st)
 | .ret=>K .ret st
 | .exit j=>K (.exit j) st
theorem an {α:Type} {V l:Nat→α} {b:α→α} (h0:V 0=l 0) (hs:∀ n,V (n+1)=b (V n)) (hl:∀ n,l (n+1)=b (l n)):V=l :=
 funext fun n=>by
  induction n with
  | zero=>exact h0
  | succ n ih=>rw [hs,hl,ih]
def Ou (P:Program) (ct:List (Nat × Cn)):Prop:=∀ g c,V.look ct g=some c→H5 J P (g % 100000) c
theorem Ou.nil {P:Program}:Ou P []:=fun g c h=>by cases h
theorem Ou.cons {P:Program} {f o:Nat} {c:Cn} {ct:List (Nat × Cn)} (h:H5 J P f c) (hf:f<100000) (t:Ou P ct):Ou P ((f+100000*o,c)::ct):=fun g d q=>by
 simp only [V.look] at q
 cases hb:Nat.beq (f+100000*o) g with
 | true=>rw [hb] at q;cases q;rw [← Nat.eq_of_beq_eq_true hb,show (f+100000*o) % 100000=f by omega];exact h
 | false=>rw [hb] at q;exact t g d q
structure Ce where
 f:Nat
 c:Cn
 h:H5 J Tryz.prog f c
def q {f:Nat} {c:Cn} (h:H5 J Tryz.prog f c):Ce:=⟨f,c,h⟩
def N3:List Ce→List (Nat × Cn)
 | []=>[]
 | e::l=>bif Nat.blt e.f 100000 then (e.f+100000*R8 e.c.A,e.c)::N3 l else N3 l
theorem CF:∀ l:List Ce,Ou Tryz.prog (N3 l)
 | []=>Ou.nil
 | e::l=>by
  unfold N3
  cases hb:Nat.blt e.f 100000 with
  | true=>exact Ou.cons e.h (by simpa using hb) (CF l)
  | false=>exact CF l
def en (D:List Ce) (lv:List (Nat × List Nat)) (g:Nat) (jn:List (Nat × List Nat)) (k:Nat):jj:=⟨tb,N3 D,lv,k,g,jn⟩
noncomputable def eK (E:jj) (f:Func) (c:Cn) (x:(tup (pT c.A)).d):Ex→St→Option (tup (hZ c.A++c.R)).d:=R3 E f.results.toList c.A x c.R c.fresh c.al
noncomputable def eB (E:jj) (f:Func) (c:Cn) (x:(tup (pT c.A)).d):Ex→St→Option (tup (hZ c.A++c.R)).d:=R9 E f.results.toList c.A x c.R
noncomputable def rn (E:jj) (f:Func) (c:Cn) (x:(tup (pT c.A)).d):Option (tup (hZ c.A++c.R)).d:=run E f c.A c.R c.fresh c.al x
noncomputable def rb (E:jj) (f:Func) (c:Cn) (x:(tup (pT c.A)).d):Option (tup (hZ c.A++c.R)).d:=Px E f c.A c.R x
abbrev Cp (f:Nat) (c:Cn):Prop:=H5 J Tryz.prog f c
theorem rc {f:Nat} {fn:Func} {b:Code} {c:Cn} {lv jn:List (Nat × List Nat)} {g k:Nat} (hbx:qk c.R=false) (D:List Ce) (hEg:g=cR c.A) (hf:Tryz.prog.funcs[f]?=some fn) (hname:(fn.name == "runtime.NumGoroutine")=false) (hb:fn.body=some b)
 (hg:∀ x r,c.fn x=some r→rn (en D lv g jn k) fn c x=some r):Cp f c:=by
 obtain ⟨A,R,fr,al,fn'⟩:=c
 exact JY (E:=en D lv g jn k) hbx mixed IZ (yp EH) (CF D) hEg hf hname hb hg
theorem Qo:Tryz.prog.funcs.toList.all (fun g=>!(g.name == "runtime.NumGoroutine"))=true:=by kernel_rfl
theorem nm {f:Nat} {fn:Func} (hf:Tryz.prog.funcs[f]?=some fn):(fn.name == "runtime.NumGoroutine")=false:=by
 have h:=List.all_eq_true.1 Qo fn (List.mem_of_getElem? (by rw [Array.getElem?_toList];exact hf))
 simpa using h
def dS (f:Func) (d n:Nat):Code:=at_ (bt d n) (body f)
theorem ry {f:Nat} {fn:Func} {b:Code} {c:Cn} {lv jn:List (Nat × List Nat)} {k:Nat} (D:List Ce) {E:jj} (hE:E=en D lv (cR c.A) jn k) (hbx:qk c.R=false) (hf:Tryz.prog.funcs[f]?=some fn) (hb:fn.body=some b)
 (hg:∀ x,rn E fn c x=c.fn x):Cp f c:=by
 obtain ⟨A,R,fr,al,fn'⟩:=c
 subst hE
 exact JY (E:=en D lv (cR A) jn k) hbx mixed IZ (yp EH) (CF D) rfl hf (nm hf) hb fun x r h=>(hg x).trans h
theorem rz {f:Nat} {fn:Func} {b:Code} {c:Cn} (k:Nat) (hbx:qk c.R=false) (D:List Ce) (hf:Tryz.prog.funcs[f]?=some fn) (hb:fn.body=some b) (hg:∀ x,rn (en D [] (cR c.A) [] k) fn c x=c.fn x):Cp f c:=ry D rfl hbx hf hb hg
theorem Rp {f:Nat} {fn:Func} {b:Code} {c:Cn} {lv jn:List (Nat × List Nat)} {k:Nat} (hfr:c.fresh=false) (hal:c.al=true) (D:List Ce) {E:jj} (hE:E=en D lv (cR c.A) jn k) (hbx:qk c.R=true) (hf:Tryz.prog.funcs[f]?=some fn) (hb:fn.body=some b)
 (hg:∀ x,rb E fn c x=c.fn x):Cp f c:=by
 obtain ⟨A,R,fr,al,fn'⟩:=c
 cases hfr
 cases hal
 subst hE
 exact JM (E:=en D lv (cR A) jn k) hbx mixed IZ (yp EH) (CF D) rfl hf (nm hf) hb fun x r h=>(hg x).trans h
end Go.Proofs.YtaaincbnjkmapaaGreatDoor.G
