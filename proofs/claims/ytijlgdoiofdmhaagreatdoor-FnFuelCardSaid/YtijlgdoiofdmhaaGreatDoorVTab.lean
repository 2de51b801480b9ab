/- V's table of the types of this seat, and its checks. -/
import Derived.Test.YtijlgdoiofdmhaaGreatDoorProg
import Derived.Test.YtijlgdoiofdmhaaGreatDoorVS9
import Derived.Test.YtijlgdoiofdmhaaGreatDoorVS10
import Derived.Lib.LaidTab
import Derived.Lib.ItoaNum
set_option maxRecDepth 100000
namespace Go.Proofs.YtijlgdoiofdmhaaGreatDoor.G
open Go.V
def tb:mh:=⟨[(2,(.int .i64)),
 (3,(.int .i64)),
 (4,.bool),
 (5,(.int .u8)),
 (9,.str),
 (12,(.int .u64)),
 (21,(.int .i32)),
 (22,(.slice (.int .u8))),
 (68,(.pair (.int .i64) (.pair (.int .i64) (.pair .str (.pair .str (.pair (.int .i64) .unit)))))),
 (24,(.slice (.pair (.int .i64) (.pair (.int .i64) (.pair .str (.pair .str (.pair (.int .i64) .unit))))))),
 (25,(.pair (.int .i64) (.pair (.int .i64) (.pair (.slice (.pair (.int .i64) (.pair (.int .i64) (.pair .str (.pair .str (.pair (.int .i64) .unit)))))) .unit)))),
 (26,(.pair (.int .i64) (.pair (.int .i64) (.pair (.slice (.pair (.int .i64) (.pair (.int .i64) (.pair .str (.pair .str (.pair (.int .i64) .unit)))))) .unit)))),
 (29,(.slice (.int .i64))),
 (30,(.pair (.int .i64) (.pair (.slice (.int .i64)) .unit))),
 (31,(.pair (.int .i64) (.pair (.slice (.int .i64)) .unit))),
 (154,(.pair .str (.pair (.int .i64) (.pair (.int .i64) (.pair (.int .i64) (.pair (.int .i64) .unit)))))),
 (32,(.slice (.pair .str (.pair (.int .i64) (.pair (.int .i64) (.pair (.int .i64) (.pair (.int .i64) .unit))))))),
 (33,(.pair (.pair (.int .i64) (.pair (.slice (.int .i64)) .unit)) (.pair (.slice (.pair .str (.pair (.int .i64) (.pair (.int .i64) (.pair (.int .i64) (.pair (.int .i64) .unit)))))) (.pair (.int .i64) (.pair (.int .i64) (.pair (.int .i64) .unit)))))),
 (34,(.pair (.pair (.int .i64) (.pair (.slice (.int .i64)) .unit)) (.pair (.slice (.pair .str (.pair (.int .i64) (.pair (.int .i64) (.pair (.int .i64) (.pair (.int .i64) .unit)))))) (.pair (.int .i64) (.pair (.int .i64) (.pair (.int .i64) .unit)))))),
 (96,(.pair .str (.pair .str (.pair (.int .i64) .unit)))),
 (35,(.slice (.pair .str (.pair .str (.pair (.int .i64) .unit))))),
 (36,(.pair (.slice (.pair .str (.pair .str (.pair (.int .i64) .unit)))) (.pair (.int .i64) (.pair (.int .i64) (.pair .bool .unit))))),
 (37,(.pair (.slice (.pair .str (.pair .str (.pair (.int .i64) .unit)))) (.pair (.int .i64) (.pair (.int .i64) (.pair .bool .unit))))),
 (221,(.pair .str (.pair (.int .i64) .unit))),
 (79,(.slice (.pair .str (.pair (.int .i64) .unit)))),
 (127,(.pair .str (.pair .bool (.pair .str .unit)))),
 (43,(.slice (.pair .str (.pair .bool (.pair .str .unit))))),
 (81,(.pair .bool (.pair (.slice (.pair .str (.pair (.int .i64) .unit))) (.pair (.slice (.pair .str (.pair .bool (.pair .str .unit)))) .unit)))),
 (38,(.slice (.pair .bool (.pair (.slice (.pair .str (.pair (.int .i64) .unit))) (.pair (.slice (.pair .str (.pair .bool (.pair .str .unit)))) .unit))))),
 (39,(.pair .bool (.pair (.pair (.pair (.int .i64) (.pair (.slice (.int .i64)) .unit)) (.pair (.slice (.pair .str (.pair (.int .i64) (.pair (.int .i64) (.pair (.int .i64) (.pair (.int .i64) .unit)))))) (.pair (.int .i64) (.pair (.int .i64) (.pair (.int .i64) .unit))))) (.pair (.pair (.slice (.pair .str (.pair .str (.pair (.int .i64) .unit)))) (.pair (.int .i64) (.pair (.int .i64) (.pair .bool .unit)))) (.pair (.slice (.pair .bool (.pair (.slice (.pair .str (.pair (.int .i64) .unit))) (.pair (.slice (.pair .str (.pair .bool (.pair .str .unit)))) .unit)))) .unit))))),
 (40,(.pair .bool (.pair (.pair (.pair (.int .i64) (.pair (.slice (.int .i64)) .unit)) (.pair (.slice (.pair .str (.pair (.int .i64) (.pair (.int .i64) (.pair (.int .i64) (.pair (.int .i64) .unit)))))) (.pair (.int .i64) (.pair (.int .i64) (.pair (.int .i64) .unit))))) (.pair (.pair (.slice (.pair .str (.pair .str (.pair (.int .i64) .unit)))) (.pair (.int .i64) (.pair (.int .i64) (.pair .bool .unit)))) (.pair (.slice (.pair .bool (.pair (.slice (.pair .str (.pair (.int .i64) .unit))) (.pair (.slice (.pair .str (.pair .bool (.pair .str .unit)))) .unit)))) .unit))))),
 (47,(.slice .str)),
 (49,(.pair (.int .i64) (.pair .str (.pair (.slice .str) .unit)))),
 (41,(.slice (.pair (.int .i64) (.pair .str (.pair (.slice .str) .unit))))),
 (78,(.pair (.int .i64) (.pair (.slice (.pair .str (.pair .bool (.pair .str .unit)))) .unit))),
 (42,(.slice (.pair (.int .i64) (.pair (.slice (.pair .str (.pair .bool (.pair .str .unit)))) .unit)))),
 (44,(.pair (.pair .bool (.pair (.pair (.pair (.int .i64) (.pair (.slice (.int .i64)) .unit)) (.pair (.slice (.pair .str (.pair (.int .i64) (.pair (.int .i64) (.pair (.int .i64) (.pair (.int .i64) .unit)))))) (.pair (.int .i64) (.pair (.int .i64) (.pair (.int .i64) .unit))))) (.pair (.pair (.slice (.pair .str (.pair .str (.pair (.int .i64) .unit)))) (.pair (.int .i64) (.pair (.int .i64) (.pair .bool .unit)))) (.pair (.slice (.pair .bool (.pair (.slice (.pair .str (.pair (.int .i64) .unit))) (.pair (.slice (.pair .str (.pair .bool (.pair .str .unit)))) .unit)))) .unit)))) (.pair (.slice (.pair (.int .i64) (.pair .str (.pair (.slice .str) .unit)))) (.pair (.slice (.pair (.int .i64) (.pair (.slice (.pair .str (.pair .bool (.pair .str .unit)))) .unit))) (.pair (.slice (.pair .str (.pair .bool (.pair .str .unit)))) .unit))))),
 (45,(.pair (.pair .bool (.pair (.pair (.pair (.int .i64) (.pair (.slice (.int .i64)) .unit)) (.pair (.slice (.pair .str (.pair (.int .i64) (.pair (.int .i64) (.pair (.int .i64) (.pair (.int .i64) .unit)))))) (.pair (.int .i64) (.pair (.int .i64) (.pair (.int .i64) .unit))))) (.pair (.pair (.slice (.pair .str (.pair .str (.pair (.int .i64) .unit)))) (.pair (.int .i64) (.pair (.int .i64) (.pair .bool .unit)))) (.pair (.slice (.pair .bool (.pair (.slice (.pair .str (.pair (.int .i64) .unit))) (.pair (.slice (.pair .str (.pair .bool (.pair .str .unit)))) .unit)))) .unit)))) (.pair (.slice (.pair (.int .i64) (.pair .str (.pair (.slice .str) .unit)))) (.pair (.slice (.pair (.int .i64) (.pair (.slice (.pair .str (.pair .bool (.pair .str .unit)))) .unit))) (.pair (.slice (.pair .str (.pair .bool (.pair .str .unit)))) .unit))))),
 (48,(.pair (.int .i64) (.pair .str (.pair (.slice .str) .unit)))),
 (51,.opq),
 (64,(.pair (.slice (.int .u8)) (.pair (.int .i64) (.pair (.int .i64) .unit)))),
 (65,(.pair (.slice (.int .u8)) (.pair (.int .i64) (.pair (.int .i64) .unit)))),
 (67,(.pair (.int .i64) (.pair (.int .i64) (.pair .str (.pair .str (.pair (.int .i64) .unit)))))),
 (77,(.pair (.int .i64) (.pair (.slice (.pair .str (.pair .bool (.pair .str .unit)))) .unit))),
 (80,(.pair .bool (.pair (.slice (.pair .str (.pair (.int .i64) .unit))) (.pair (.slice (.pair .str (.pair .bool (.pair .str .unit)))) .unit)))),
 (85,(.slice .bool)),
 (87,(.int .u64)),
 (88,.opq),
 (89,(.pair (.pair (.slice (.pair .str (.pair .str (.pair (.int .i64) .unit)))) (.pair (.int .i64) (.pair (.int .i64) (.pair .bool .unit)))) (.pair (.int .i64) .unit))),
 (90,(.pair (.pair (.slice (.pair .str (.pair .str (.pair (.int .i64) .unit)))) (.pair (.int .i64) (.pair (.int .i64) (.pair .bool .unit)))) (.pair (.int .i64) .unit))),
 (95,(.pair .str (.pair .str (.pair (.int .i64) .unit)))),
 (100,.opq),
 (167,(.pair (.int .i64) (.pair (.int .i64) (.pair .str (.pair .str (.pair (.int .i64) (.pair (.int .i64) .unit))))))),
 (171,(.pair (.int .i64) (.pair (.int .i64) (.pair (.pair (.int .i64) (.pair (.int .i64) (.pair .str (.pair .str (.pair (.int .i64) (.pair (.int .i64) .unit)))))) .unit)))),
 (107,(.slice (.pair (.int .i64) (.pair (.int .i64) (.pair (.pair (.int .i64) (.pair (.int .i64) (.pair .str (.pair .str (.pair (.int .i64) (.pair (.int .i64) .unit)))))) .unit))))),
 (114,(.pair (.slice (.pair .str (.pair (.int .i64) (.pair (.int .i64) (.pair (.int .i64) (.pair (.int .i64) .unit)))))) (.pair (.int .i64) (.pair (.int .i64) .unit)))),
 (115,(.pair (.slice (.pair .str (.pair (.int .i64) (.pair (.int .i64) (.pair (.int .i64) (.pair (.int .i64) .unit)))))) (.pair (.int .i64) (.pair (.int .i64) .unit)))),
 (181,(.pair (.int .i64) (.pair (.int .i64) (.pair (.int .i64) (.pair (.pair (.int .i64) (.pair (.int .i64) (.pair .str (.pair .str (.pair (.int .i64) (.pair (.int .i64) .unit)))))) .unit))))),
 (116,(.slice (.pair (.int .i64) (.pair (.int .i64) (.pair (.int .i64) (.pair (.pair (.int .i64) (.pair (.int .i64) (.pair .str (.pair .str (.pair (.int .i64) (.pair (.int .i64) .unit)))))) .unit)))))),
 (117,(.pair (.int .i64) (.pair (.int .i64) (.pair (.slice (.pair .str (.pair (.int .i64) (.pair (.int .i64) (.pair (.int .i64) (.pair (.int .i64) .unit)))))) .unit)))),
 (118,(.pair (.int .i64) (.pair (.int .i64) (.pair (.slice (.pair .str (.pair (.int .i64) (.pair (.int .i64) (.pair (.int .i64) (.pair (.int .i64) .unit)))))) .unit)))),
 (126,(.pair .str (.pair .bool (.pair .str .unit)))),
 (137,(.slice (.slice (.pair (.int .i64) (.pair (.int .i64) (.pair (.int .i64) (.pair (.pair (.int .i64) (.pair (.int .i64) (.pair .str (.pair .str (.pair (.int .i64) (.pair (.int .i64) .unit)))))) .unit))))))),
 (189,(.pair .str (.pair .str (.pair (.int .i64) .unit)))),
 (148,(.slice (.pair .str (.pair .str (.pair (.int .i64) .unit))))),
 (153,(.pair .str (.pair (.int .i64) (.pair (.int .i64) (.pair (.int .i64) (.pair (.int .i64) .unit)))))),
 (156,.opq),
 (166,(.pair (.int .i64) (.pair (.int .i64) (.pair .str (.pair .str (.pair (.int .i64) (.pair (.int .i64) .unit))))))),
 (170,(.pair (.int .i64) (.pair (.int .i64) (.pair (.pair (.int .i64) (.pair (.int .i64) (.pair .str (.pair .str (.pair (.int .i64) (.pair (.int .i64) .unit)))))) .unit)))),
 (180,(.pair (.int .i64) (.pair (.int .i64) (.pair (.int .i64) (.pair (.pair (.int .i64) (.pair (.int .i64) (.pair .str (.pair .str (.pair (.int .i64) (.pair (.int .i64) .unit)))))) .unit))))),
 (188,(.pair .str (.pair .str (.pair (.int .i64) .unit)))),
 (194,.opq),
 (195,(.pair .str (.pair .bool .unit))),
 (196,(.pair .str (.pair .bool .unit))),
 (202,.opq),
 (203,.opq),
 (210,.opq),
 (212,(.slice (.pair (.int .i64) (.pair (.int .i64) (.pair .str (.pair .str (.pair (.int .i64) (.pair (.int .i64) .unit)))))))),
 (220,(.pair .str (.pair (.int .i64) .unit))),
 (246,.opq),
 (261,(.int .u32)),
 (270,(.int .u64)),
 (275,(.int .i64)),
 (278,.opq),
 (293,.opq),
 (294,.opq),
 (295,(.pair .str .unit)),
 (296,(.pair .str .unit))],
 [(68,[(0,1),(1,1),(2,1),(3,1),(4,1)]),(25,[(0,1),(1,1),(2,1)]),(26,[(0,1),(1,1),(2,1)]),(30,[(0,1),(1,1)]),(31,[(0,1),(1,1)]),(154,[(0,1),(1,1),(2,1),(3,1),(4,1)]),(33,[(0,2),(2,1),(3,1),(4,1),(5,1)]),(34,[(0,2),(2,1),(3,1),(4,1),(5,1)]),(96,[(0,1),(1,1),(2,1)]),(36,[(0,1),(1,1),(2,1),(3,1)]),(37,[(0,1),(1,1),(2,1),(3,1)]),(221,[(0,1),(1,1)]),(127,[(0,1),(1,1),(2,1)]),(81,[(0,1),(1,1),(2,1)]),(39,[(0,1),(1,6),(7,4),(11,1)]),(40,[(0,1),(1,6),(7,4),(11,1)]),(49,[(0,1),(1,1),(2,1)]),(78,[(0,1),(1,1)]),(44,[(0,12),(12,1),(13,1),(14,1)]),(45,[(0,12),(12,1),(13,1),(14,1)]),(48,[(0,1),(1,1),(2,1)]),(64,[(0,1),(1,1),(2,1)]),(65,[(0,1),(1,1),(2,1)]),(67,[(0,1),(1,1),(2,1),(3,1),(4,1)]),(77,[(0,1),(1,1)]),(80,[(0,1),(1,1),(2,1)]),(89,[(0,4),(4,1)]),(90,[(0,4),(4,1)]),(95,[(0,1),(1,1),(2,1)]),(167,[(0,1),(1,1),(2,1),(3,1),(4,1),(5,1)]),(171,[(0,1),(1,1),(2,6)]),(114,[(0,1),(1,1),(2,1)]),(115,[(0,1),(1,1),(2,1)]),(181,[(0,1),(1,1),(2,1),(3,6)]),(117,[(0,1),(1,1),(2,1)]),(118,[(0,1),(1,1),(2,1)]),(126,[(0,1),(1,1),(2,1)]),(189,[(0,1),(1,1),(2,1)]),(153,[(0,1),(1,1),(2,1),(3,1),(4,1)]),(166,[(0,1),(1,1),(2,1),(3,1),(4,1),(5,1)]),(170,[(0,1),(1,1),(2,6)]),(180,[(0,1),(1,1),(2,1),(3,6)]),(188,[(0,1),(1,1),(2,1)]),(195,[(0,1),(1,1)]),(196,[(0,1),(1,1)]),(220,[(0,1),(1,1)]),(295,[(0,1)]),(296,[(0,1)])],
 [(68,[(.int .i64),(.int .i64),.str,.str,(.int .i64)]),(154,[.str,(.int .i64),(.int .i64),(.int .i64),(.int .i64)]),(96,[.str,.str,(.int .i64)]),(221,[.str,(.int .i64)]),(127,[.str,.bool,.str]),(67,[(.int .i64),(.int .i64),.str,.str,(.int .i64)]),(95,[.str,.str,(.int .i64)]),(167,[(.int .i64),(.int .i64),.str,.str,(.int .i64),(.int .i64)]),(126,[.str,.bool,.str]),(189,[.str,.str,(.int .i64)]),(153,[.str,(.int .i64),(.int .i64),(.int .i64),(.int .i64)]),(166,[(.int .i64),(.int .i64),.str,.str,(.int .i64),(.int .i64)]),(188,[.str,.str,(.int .i64)]),(195,[.str,.bool]),(196,[.str,.bool]),(220,[.str,(.int .i64)]),(295,[.str]),(296,[.str])],
 [(68,[3,3,9,9,3]),(25,[3,3,24]),(26,[3,3,24]),(30,[3,29]),(31,[3,29]),(154,[9,3,3,3,3]),(33,[31,32,3,3,3]),(34,[31,32,3,3,3]),(96,[9,9,3]),(36,[35,3,3,4]),(37,[35,3,3,4]),(221,[9,3]),(127,[9,4,9]),(81,[4,79,43]),(39,[4,34,37,38]),(40,[4,34,37,38]),(49,[3,9,47]),(78,[3,43]),(44,[40,41,42,43]),(45,[40,41,42,43]),(48,[3,9,47]),(64,[22,3,3]),(65,[22,3,3]),(67,[3,3,9,9,3]),(77,[3,43]),(80,[4,79,43]),(89,[37,3]),(90,[37,3]),(95,[9,9,3]),(167,[3,3,9,9,3,3]),(171,[3,3,167]),(114,[32,3,3]),(115,[32,3,3]),(181,[3,3,3,167]),(117,[3,3,32]),(118,[3,3,32]),(126,[9,4,9]),(189,[9,9,3]),(153,[9,3,3,3,3]),(166,[3,3,9,9,3,3]),(170,[3,3,167]),(180,[3,3,3,167]),(188,[9,9,3]),(195,[9,4]),(196,[9,4]),(220,[9,3]),(295,[9]),(296,[9])],
 []⟩
theorem Hk:cX Tryz.prog tb=true:=by kernel_rfl
def Oa:mh:=⟨tb.ty.filter fun p=>(V.look tb.arr p.1).isNone,tb.off,tb.eqs,tb.fty,[]⟩
theorem N0:cX Tryz.prog Oa=true:=by kernel_rfl
theorem Lm:ni Oa=true:=by kernel_rfl
theorem Dw:EU Tryz.prog tb=true:=by kernel_rfl
theorem mixed:Tryz.prog.follows .mixedOrders=true:=by kernel_rfl
theorem OA:Tryz.prog.globalNamed "internal/strconv.uint64pow10" = some 0:=by kernel_rfl
theorem Nq:Tryz.prog.globalNamed "strconv.ErrSyntax" = some 1:=by kernel_rfl
theorem NC:Tryz.prog.globalNamed "strconv.ErrRange" = some 2:=by kernel_rfl
theorem xD {P:Program} {w w':World} {name:String} {i n:Nat} (hg:P.globalNamed name=some i) (hi:i<n) (h:∀ k,k<n→w'.heap[k]?=w.heap[k]?):w'.var? P name=w.var? P name:=by
 unfold World.var?
 rw [hg,Option.bind_some,Option.bind_some,h i hi]
def J:Gl where
 n:=3
 ok:=fun w=>3≤w.heap.size∧Lib.TabIs Tryz.prog w "internal/strconv.uint64pow10" .u64 Lib.pow10Tab∧(∃ t p,w.var? Tryz.prog "strconv.ErrSyntax" = some #[.iface t p])∧(∃ t p,w.var? Tryz.prog "strconv.ErrRange" = some #[.iface t p])∧True
 lt:=fun w h=>h.1
 frame:=fun w w' h hb hs=>⟨Nat.le_trans h.1 hs,(by unfold Lib.TabIs;rw [xD OA (by decide) hb];exact h.2.1),(by rw [xD Nq (by decide) hb];exact h.2.2.1),(by rw [xD NC (by decide) hb];exact h.2.2.2.1),trivial⟩
def bt:Nat→Nat→List Bool
 | 0,_=>[]
 | d+1,n=>(n % 2==1)::bt d (n/2)
noncomputable def NQ {R:Type} (E:gq) (c:Code) (g:Nat) (lv:List Nat) (K:Ex→St→Option R) (n:Nat):Ex→St→Option R:=fun e st=>match e with
 | .normal=>an (bP E c) (ae g lv) K n (ae g lv st)
 | .ret=>K .ret st
 | .exit j=>K (.exit j) st
theorem aR {α:Type} {V l:Nat→α} {b:α→α} (h0:V 0=l 0) (hs:∀ n,V (n+1)=b (V n)) (hl:∀ n,l (n+1)=b (l n)):V=l :=
 funext fun n=>by
  induction n with
  | zero=>exact h0
  | succ n ih=>rw [hs,hl,ih]
def MK (P:Program) (ct:List (Nat × Cn)):Prop:=∀ g c,V.look ct g=some c→G3 J P (g % 100000) c
theorem MK.nil {P:Program}:MK P []:=fun g c h=>by cases h
theorem MK.cons {P:Program} {f o:Nat} {c:Cn} {ct:List (Nat × Cn)} (h:G3 J P f c) (hf:f<100000) (t:MK P ct):MK P ((f+100000*o,c)::ct):=fun g d q=>by
 simp only [V.look] at q
 cases hb:Nat.beq (f+100000*o) g with
 | true=>rw [hb] at q;cases q;rw [← Nat.eq_of_beq_eq_true hb,show (f+100000*o) % 100000=f by omega];exact h
 | false=>rw [hb] at q;exact t g d q
structure Ce where
 f:Nat
 c:Cn
 h:G3 J Tryz.prog f c
def q {f:Nat} {c:Cn} (h:G3 J Tryz.prog f c):Ce:=⟨f,c,h⟩
def KZ:List Ce→List (Nat × Cn)
 | []=>[]
 | e::l=>bif Nat.blt e.f 100000 then (e.f+100000*OE e.c.A,e.c)::KZ l else KZ l
theorem Bc:∀ l:List Ce,MK Tryz.prog (KZ l)
 | []=>MK.nil
 | e::l=>by
  unfold KZ
  cases hb:Nat.blt e.f 100000 with
  | true=>exact MK.cons e.h (by simpa using hb) (Bc l)
  | false=>exact Bc l
def en (D:List Ce) (lv:List (Nat × List Nat)) (g:Nat) (jn:List (Nat × List Nat)) (k:Nat):gq:=⟨tb,KZ D,lv,k,g,jn⟩
noncomputable def eK (E:gq) (f:Func) (c:Cn) (x:(tup (pn c.A)).d):Ex→St→Option (tup (iG c.A++c.R)).d:=O5 E f.results.toList c.A x c.R c.fresh c.al
noncomputable def eB (E:gq) (f:Func) (c:Cn) (x:(tup (pn c.A)).d):Ex→St→Option (tup (iG c.A++c.R)).d:=O0 E f.results.toList c.A x c.R
noncomputable def rn (E:gq) (f:Func) (c:Cn) (x:(tup (pn c.A)).d):Option (tup (iG c.A++c.R)).d:=run E f c.A c.R c.fresh c.al x
noncomputable def rb (E:gq) (f:Func) (c:Cn) (x:(tup (pn c.A)).d):Option (tup (iG c.A++c.R)).d:=Mc E f c.A c.R x
abbrev Cp (f:Nat) (c:Cn):Prop:=G3 J Tryz.prog f c
theorem Ni:Tryz.prog.funcs.toList.all (fun g=>!(g.name == "runtime.NumGoroutine"))=true:=by kernel_rfl
theorem nm {f:Nat} {fn:Func} (hf:Tryz.prog.funcs[f]?=some fn):(fn.name == "runtime.NumGoroutine")=false:=by
 have h:=List.all_eq_true.1 Ni fn (List.mem_of_getElem? (by rw [Array.getElem?_toList];exact hf))
 simpa using h
def bh (f:Func) (d n:Nat):Code:=at_ (bt d n) (body f)
theorem ry {f:Nat} {fn:Func} {b:Code} {c:Cn} {lv jn:List (Nat × List Nat)} {k:Nat} (D:List Ce) {E:gq} (hE:E=en D lv (cS c.A) jn k) (hbx:rA c.R=false) (hf:Tryz.prog.funcs[f]?=some fn) (hb:fn.body=some b)
 (hg:∀ x,rn E fn c x=c.fn x):Cp f c:=by
 obtain ⟨A,R,fr,al,fn'⟩:=c
 subst hE
 exact Hh (E:=en D lv (cS A) jn k) hbx mixed Hk (yZ Dw) (Bc D) rfl hf (nm hf) hb fun x r h=>(hg x).trans h
theorem rz {f:Nat} {fn:Func} {b:Code} {c:Cn} (k:Nat) (hbx:rA c.R=false) (D:List Ce) (hf:Tryz.prog.funcs[f]?=some fn) (hb:fn.body=some b) (hg:∀ x,rn (en D [] (cS c.A) [] k) fn c x=c.fn x):Cp f c:=ry D rfl hbx hf hb hg
theorem Ob {f:Nat} {fn:Func} {b:Code} {c:Cn} {lv jn:List (Nat × List Nat)} {k:Nat} (hfr:c.fresh=false) (hal:c.al=true) (D:List Ce) {E:gq} (hE:E=en D lv (cS c.A) jn k) (hbx:rA c.R=true) (hf:Tryz.prog.funcs[f]?=some fn) (hb:fn.body=some b)
 (hg:∀ x,rb E fn c x=c.fn x):Cp f c:=by
 obtain ⟨A,R,fr,al,fn'⟩:=c
 cases hfr
 cases hal
 subst hE
 exact Hi (E:=en D lv (cS A) jn k) hbx mixed Hk (yZ Dw) (Bc D) rfl hf (nm hf) hb fun x r h=>(hg x).trans h
end Go.Proofs.YtijlgdoiofdmhaaGreatDoor.G
