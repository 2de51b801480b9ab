/- V's table of the types of this seat, and its checks. -/
import Derived.Test.YtgnakpiicdfpkaaGreatDoorProg
import Derived.Test.YtgnakpiicdfpkaaGreatDoorVS9
import Derived.Test.YtgnakpiicdfpkaaGreatDoorVS10
import Derived.Lib.LaidTab
import Derived.Lib.ItoaNum
set_option maxRecDepth 100000
namespace Go.Proofs.YtgnakpiicdfpkaaGreatDoor.G
open Go.V
def tb:m5:=⟨[(2,(.int .i64)),
 (3,(.int .i64)),
 (4,.bool),
 (5,(.int .u8)),
 (9,.str),
 (12,(.int .u64)),
 (21,(.int .i32)),
 (22,(.slice (.int .u8))),
 (61,(.pair .str (.pair .str (.pair (.int .i64) .unit)))),
 (24,(.slice (.pair .str (.pair .str (.pair (.int .i64) .unit))))),
 (25,(.pair (.slice (.pair .str (.pair .str (.pair (.int .i64) .unit)))) (.pair (.int .i64) (.pair (.int .i64) (.pair .bool .unit))))),
 (26,(.pair (.slice (.pair .str (.pair .str (.pair (.int .i64) .unit)))) (.pair (.int .i64) (.pair (.int .i64) (.pair .bool .unit))))),
 (27,(.slice (.int .i64))),
 (94,(.pair .str (.pair .str (.pair (.int .i64) .unit)))),
 (30,(.slice (.pair .str (.pair .str (.pair (.int .i64) .unit))))),
 (34,(.pair (.int .i64) (.pair (.slice (.int .i64)) .unit))),
 (35,(.pair (.int .i64) (.pair (.slice (.int .i64)) .unit))),
 (142,(.pair .str (.pair (.int .i64) (.pair (.int .i64) (.pair (.int .i64) (.pair (.int .i64) .unit)))))),
 (36,(.slice (.pair .str (.pair (.int .i64) (.pair (.int .i64) (.pair (.int .i64) (.pair (.int .i64) .unit))))))),
 (37,(.pair (.pair (.int .i64) (.pair (.slice (.int .i64)) .unit)) (.pair (.slice (.pair .str (.pair (.int .i64) (.pair (.int .i64) (.pair (.int .i64) (.pair (.int .i64) .unit)))))) (.pair (.int .i64) (.pair (.int .i64) (.pair (.int .i64) .unit)))))),
 (38,(.pair (.pair (.int .i64) (.pair (.slice (.int .i64)) .unit)) (.pair (.slice (.pair .str (.pair (.int .i64) (.pair (.int .i64) (.pair (.int .i64) (.pair (.int .i64) .unit)))))) (.pair (.int .i64) (.pair (.int .i64) (.pair (.int .i64) .unit)))))),
 (45,.opq),
 (269,(.pair .str (.pair (.int .i64) .unit))),
 (264,(.slice (.pair .str (.pair (.int .i64) .unit)))),
 (196,(.pair .str (.pair .bool (.pair .str .unit)))),
 (161,(.slice (.pair .str (.pair .bool (.pair .str .unit))))),
 (266,(.pair .bool (.pair (.slice (.pair .str (.pair (.int .i64) .unit))) (.pair (.slice (.pair .str (.pair .bool (.pair .str .unit)))) .unit)))),
 (52,(.slice (.pair .bool (.pair (.slice (.pair .str (.pair (.int .i64) .unit))) (.pair (.slice (.pair .str (.pair .bool (.pair .str .unit)))) .unit))))),
 (53,(.pair .bool (.pair (.pair (.pair (.int .i64) (.pair (.slice (.int .i64)) .unit)) (.pair (.slice (.pair .str (.pair (.int .i64) (.pair (.int .i64) (.pair (.int .i64) (.pair (.int .i64) .unit)))))) (.pair (.int .i64) (.pair (.int .i64) (.pair (.int .i64) .unit))))) (.pair (.pair (.slice (.pair .str (.pair .str (.pair (.int .i64) .unit)))) (.pair (.int .i64) (.pair (.int .i64) (.pair .bool .unit)))) (.pair (.slice (.pair .bool (.pair (.slice (.pair .str (.pair (.int .i64) .unit))) (.pair (.slice (.pair .str (.pair .bool (.pair .str .unit)))) .unit)))) .unit))))),
 (54,(.pair .bool (.pair (.pair (.pair (.int .i64) (.pair (.slice (.int .i64)) .unit)) (.pair (.slice (.pair .str (.pair (.int .i64) (.pair (.int .i64) (.pair (.int .i64) (.pair (.int .i64) .unit)))))) (.pair (.int .i64) (.pair (.int .i64) (.pair (.int .i64) .unit))))) (.pair (.pair (.slice (.pair .str (.pair .str (.pair (.int .i64) .unit)))) (.pair (.int .i64) (.pair (.int .i64) (.pair .bool .unit)))) (.pair (.slice (.pair .bool (.pair (.slice (.pair .str (.pair (.int .i64) .unit))) (.pair (.slice (.pair .str (.pair .bool (.pair .str .unit)))) .unit)))) .unit))))),
 (60,(.pair .str (.pair .str (.pair (.int .i64) .unit)))),
 (62,.opq),
 (63,(.pair (.pair (.slice (.pair .str (.pair .str (.pair (.int .i64) .unit)))) (.pair (.int .i64) (.pair (.int .i64) (.pair .bool .unit)))) (.pair (.int .i64) .unit))),
 (64,(.pair (.pair (.slice (.pair .str (.pair .str (.pair (.int .i64) .unit)))) (.pair (.int .i64) (.pair (.int .i64) (.pair .bool .unit)))) (.pair (.int .i64) .unit))),
 (104,(.pair (.int .i64) (.pair (.int .i64) (.pair .str (.pair .str (.pair (.int .i64) (.pair (.int .i64) .unit))))))),
 (135,(.pair (.int .i64) (.pair (.int .i64) (.pair (.pair (.int .i64) (.pair (.int .i64) (.pair .str (.pair .str (.pair (.int .i64) (.pair (.int .i64) .unit)))))) .unit)))),
 (72,(.slice (.pair (.int .i64) (.pair (.int .i64) (.pair (.pair (.int .i64) (.pair (.int .i64) (.pair .str (.pair .str (.pair (.int .i64) (.pair (.int .i64) .unit)))))) .unit))))),
 (79,(.pair (.slice (.pair .str (.pair (.int .i64) (.pair (.int .i64) (.pair (.int .i64) (.pair (.int .i64) .unit)))))) (.pair (.int .i64) (.pair (.int .i64) .unit)))),
 (80,(.pair (.slice (.pair .str (.pair (.int .i64) (.pair (.int .i64) (.pair (.int .i64) (.pair (.int .i64) .unit)))))) (.pair (.int .i64) (.pair (.int .i64) .unit)))),
 (106,(.pair (.int .i64) (.pair (.int .i64) (.pair (.int .i64) (.pair (.pair (.int .i64) (.pair (.int .i64) (.pair .str (.pair .str (.pair (.int .i64) (.pair (.int .i64) .unit)))))) .unit))))),
 (81,(.slice (.pair (.int .i64) (.pair (.int .i64) (.pair (.int .i64) (.pair (.pair (.int .i64) (.pair (.int .i64) (.pair .str (.pair .str (.pair (.int .i64) (.pair (.int .i64) .unit)))))) .unit)))))),
 (82,(.pair (.int .i64) (.pair (.int .i64) (.pair (.slice (.pair .str (.pair (.int .i64) (.pair (.int .i64) (.pair (.int .i64) (.pair (.int .i64) .unit)))))) .unit)))),
 (83,(.pair (.int .i64) (.pair (.int .i64) (.pair (.slice (.pair .str (.pair (.int .i64) (.pair (.int .i64) (.pair (.int .i64) (.pair (.int .i64) .unit)))))) .unit)))),
 (92,.opq),
 (93,(.pair .str (.pair .str (.pair (.int .i64) .unit)))),
 (95,(.pair (.slice (.int .u8)) (.pair (.int .i64) (.pair (.int .i64) .unit)))),
 (96,(.pair (.slice (.int .u8)) (.pair (.int .i64) (.pair (.int .i64) .unit)))),
 (103,(.pair (.int .i64) (.pair (.int .i64) (.pair .str (.pair .str (.pair (.int .i64) (.pair (.int .i64) .unit))))))),
 (105,(.pair (.int .i64) (.pair (.int .i64) (.pair (.int .i64) (.pair (.pair (.int .i64) (.pair (.int .i64) (.pair .str (.pair .str (.pair (.int .i64) (.pair (.int .i64) .unit)))))) .unit))))),
 (120,(.slice (.slice (.pair (.int .i64) (.pair (.int .i64) (.pair (.int .i64) (.pair (.pair (.int .i64) (.pair (.int .i64) (.pair .str (.pair .str (.pair (.int .i64) (.pair (.int .i64) .unit)))))) .unit))))))),
 (134,(.pair (.int .i64) (.pair (.int .i64) (.pair (.pair (.int .i64) (.pair (.int .i64) (.pair .str (.pair .str (.pair (.int .i64) (.pair (.int .i64) .unit)))))) .unit)))),
 (141,(.pair .str (.pair (.int .i64) (.pair (.int .i64) (.pair (.int .i64) (.pair (.int .i64) .unit)))))),
 (147,(.slice .str)),
 (149,(.slice (.pair (.int .i64) (.pair (.int .i64) (.pair .str (.pair .str (.pair (.int .i64) (.pair (.int .i64) .unit)))))))),
 (168,.opq),
 (169,(.pair .str (.pair .bool .unit))),
 (170,(.pair .str (.pair .bool .unit))),
 (175,.opq),
 (188,(.int .u64)),
 (195,(.pair .str (.pair .bool (.pair .str .unit)))),
 (201,.opq),
 (214,(.int .u32)),
 (223,(.int .u64)),
 (228,(.int .i64)),
 (231,.opq),
 (246,.opq),
 (247,.opq),
 (248,(.pair .str .unit)),
 (249,(.pair .str .unit)),
 (265,(.pair .bool (.pair (.slice (.pair .str (.pair (.int .i64) .unit))) (.pair (.slice (.pair .str (.pair .bool (.pair .str .unit)))) .unit)))),
 (268,(.pair .str (.pair (.int .i64) .unit)))],
 [(61,[(0,1),(1,1),(2,1)]),(25,[(0,1),(1,1),(2,1),(3,1)]),(26,[(0,1),(1,1),(2,1),(3,1)]),(94,[(0,1),(1,1),(2,1)]),(34,[(0,1),(1,1)]),(35,[(0,1),(1,1)]),(142,[(0,1),(1,1),(2,1),(3,1),(4,1)]),(37,[(0,2),(2,1),(3,1),(4,1),(5,1)]),(38,[(0,2),(2,1),(3,1),(4,1),(5,1)]),(269,[(0,1),(1,1)]),(196,[(0,1),(1,1),(2,1)]),(266,[(0,1),(1,1),(2,1)]),(53,[(0,1),(1,6),(7,4),(11,1)]),(54,[(0,1),(1,6),(7,4),(11,1)]),(60,[(0,1),(1,1),(2,1)]),(63,[(0,4),(4,1)]),(64,[(0,4),(4,1)]),(104,[(0,1),(1,1),(2,1),(3,1),(4,1),(5,1)]),(135,[(0,1),(1,1),(2,6)]),(79,[(0,1),(1,1),(2,1)]),(80,[(0,1),(1,1),(2,1)]),(106,[(0,1),(1,1),(2,1),(3,6)]),(82,[(0,1),(1,1),(2,1)]),(83,[(0,1),(1,1),(2,1)]),(93,[(0,1),(1,1),(2,1)]),(95,[(0,1),(1,1),(2,1)]),(96,[(0,1),(1,1),(2,1)]),(103,[(0,1),(1,1),(2,1),(3,1),(4,1),(5,1)]),(105,[(0,1),(1,1),(2,1),(3,6)]),(134,[(0,1),(1,1),(2,6)]),(141,[(0,1),(1,1),(2,1),(3,1),(4,1)]),(169,[(0,1),(1,1)]),(170,[(0,1),(1,1)]),(195,[(0,1),(1,1),(2,1)]),(248,[(0,1)]),(249,[(0,1)]),(265,[(0,1),(1,1),(2,1)]),(268,[(0,1),(1,1)])],
 [(61,[.str,.str,(.int .i64)]),(94,[.str,.str,(.int .i64)]),(142,[.str,(.int .i64),(.int .i64),(.int .i64),(.int .i64)]),(269,[.str,(.int .i64)]),(196,[.str,.bool,.str]),(60,[.str,.str,(.int .i64)]),(104,[(.int .i64),(.int .i64),.str,.str,(.int .i64),(.int .i64)]),(93,[.str,.str,(.int .i64)]),(103,[(.int .i64),(.int .i64),.str,.str,(.int .i64),(.int .i64)]),(141,[.str,(.int .i64),(.int .i64),(.int .i64),(.int .i64)]),(169,[.str,.bool]),(170,[.str,.bool]),(195,[.str,.bool,.str]),(248,[.str]),(249,[.str]),(268,[.str,(.int .i64)])],
 [(61,[9,9,3]),(25,[24,3,3,4]),(26,[24,3,3,4]),(94,[9,9,3]),(34,[3,27]),(35,[3,27]),(142,[9,3,3,3,3]),(37,[35,36,3,3,3]),(38,[35,36,3,3,3]),(269,[9,3]),(196,[9,4,9]),(266,[4,264,161]),(53,[4,38,26,52]),(54,[4,38,26,52]),(60,[9,9,3]),(63,[26,3]),(64,[26,3]),(104,[3,3,9,9,3,3]),(135,[3,3,104]),(79,[36,3,3]),(80,[36,3,3]),(106,[3,3,3,104]),(82,[3,3,36]),(83,[3,3,36]),(93,[9,9,3]),(95,[22,3,3]),(96,[22,3,3]),(103,[3,3,9,9,3,3]),(105,[3,3,3,104]),(134,[3,3,104]),(141,[9,3,3,3,3]),(169,[9,4]),(170,[9,4]),(195,[9,4,9]),(248,[9]),(249,[9]),(265,[4,264,161]),(268,[9,3])]⟩
theorem JJ:co Tryz.prog tb=true:=by kernel_rfl
theorem KF:mr tb=true:=by kernel_rfl
theorem I9:E4 Tryz.prog tb=true:=by kernel_rfl
theorem mixed:Tryz.prog.follows .mixedOrders=true:=by kernel_rfl
theorem MS:Tryz.prog.globalNamed "internal/strconv.uint64pow10" = some 0:=by kernel_rfl
theorem MR:Tryz.prog.globalNamed "strconv.ErrSyntax" = some 1:=by kernel_rfl
theorem LA:Tryz.prog.globalNamed "strconv.ErrRange" = some 2:=by kernel_rfl
theorem ve {P:Program} {w w':World} {name:String} {i n:Nat} (hg:P.globalNamed name=some i) (hi:i<n) (h:∀ k,k<n→w'.heap[k]?=w.heap[k]?):w'.var? P name=w.var? P name:=by
 unfold World.var?
 rw [hg,Option.bind_some,Option.bind_some,h i hi]
def J:Gl where
 n:=3
 ok:=fun w=>3≤w.heap.size∧Lib.TabIs Tryz.prog w "internal/strconv.uint64pow10" .u64 Lib.pow10Tab∧(∃ t p,w.var? Tryz.prog "strconv.ErrSyntax" = some #[.iface t p])∧(∃ t p,w.var? Tryz.prog "strconv.ErrRange" = some #[.iface t p])∧True
 lt:=fun w h=>h.1
 frame:=fun w w' h hb hs=>⟨Nat.le_trans h.1 hs,(by unfold Lib.TabIs;rw [ve MS (by decide) hb];exact h.2.1),(by rw [ve MR (by decide) hb];exact h.2.2.1),(by rw [ve LA (by decide) hb];exact h.2.2.2.1),trivial⟩
def bt:Nat→Nat→List Bool
 | 0,_=>[]
 | d+1,n=>(n % 2==1)::bt d (n/2)
noncomputable def Le {R:Type} (E:cD) (c:Code) (g:Nat) (lv:List Nat) (K:Ex→St→Option R) (n:Nat):Ex→St→Option R:=fun e st=>match e with
 | .normal=>ao (bT E c) (ak g lv) K n (ak g lv st)
 | .ret=>K .ret st
 | .exit j=>K (.exit j) st
theorem aT {α:Type} {V l:Nat→α} {b:α→α} (h0:V 0=l 0) (hs:∀ n,V (n+1)=b (V n)) (hl:∀ n,l (n+1)=b (l n)):V=l :=
 funext fun n=>by
  induction n with
  | zero=>exact h0
  | succ n ih=>rw [hs,hl,ih]
def Kf (P:Program) (ct:List (Nat × Cn)):Prop:=∀ g c,V.look ct g=some c→EC J P g c
theorem Kf.nil {P:Program}:Kf P []:=fun g c h=>by cases h
theorem Kf.cons {P:Program} {f:Nat} {c:Cn} {ct:List (Nat × Cn)} (h:EC J P f c) (t:Kf P ct):Kf P ((f,c)::ct):=fun g d q=>by
 simp only [V.look] at q
 cases hb:Nat.beq f g with
 | true=>rw [hb] at q;cases q;rw [← Nat.eq_of_beq_eq_true hb];exact h
 | false=>rw [hb] at q;exact t g d q
structure Ce where
 f:Nat
 c:Cn
 h:EC J Tryz.prog f c
def q {f:Nat} {c:Cn} (h:EC J Tryz.prog f c):Ce:=⟨f,c,h⟩
def Lx:List Ce→List (Nat × Cn)
 | []=>[]
 | e::l=>(e.f,e.c)::Lx l
theorem JB:∀ l:List Ce,Kf Tryz.prog (Lx l)
 | []=>Kf.nil
 | e::l=>Kf.cons e.h (JB l)
def en (D:List Ce) (lv:List (Nat × List Nat)) (g:Nat) (jn:List (Nat × List Nat)) (k:Nat):cD:=⟨tb,Lx D,lv,k,g,jn⟩
noncomputable def eK (E:cD) (f:Func) (c:Cn) (x:(tup (nR c.A)).d):Ex→St→Option (tup (gd c.A++c.R)).d:=ME E f.results.toList c.A x c.R c.fresh c.al
noncomputable def eB (E:cD) (f:Func) (c:Cn) (x:(tup (nR c.A)).d):Ex→St→Option (tup (gd c.A++c.R)).d:=MG E f.results.toList c.A x c.R
noncomputable def rn (E:cD) (f:Func) (c:Cn) (x:(tup (nR c.A)).d):Option (tup (gd c.A++c.R)).d:=run E f c.A c.R c.fresh c.al x
noncomputable def rb (E:cD) (f:Func) (c:Cn) (x:(tup (nR c.A)).d):Option (tup (gd c.A++c.R)).d:=LR E f c.A c.R x
abbrev Cp (f:Nat) (c:Cn):Prop:=EC J Tryz.prog f c
theorem rc {f:Nat} {fn:Func} {b:Code} {c:Cn} {lv jn:List (Nat × List Nat)} {g k:Nat} (hbx:si c.R=false) (D:List Ce) (hEg:g=cX c.A) (hf:Tryz.prog.funcs[f]?=some fn) (hname:(fn.name == "runtime.NumGoroutine")=false) (hb:fn.body=some b)
 (hg:∀ x r,c.fn x=some r→rn (en D lv g jn k) fn c x=some r):Cp f c:=by
 obtain ⟨A,R,fr,al,fn'⟩:=c
 exact Jl (E:=en D lv g jn k) hbx mixed JJ (GU I9) (JB D) hEg hf hname hb hg
theorem N4 {f:Nat} {fn:Func} {b:Code} {c:Cn} {lv jn:List (Nat × List Nat)} {g k:Nat} (hfr:c.fresh=false) (hal:c.al=true) (hbx:si c.R=true) (D:List Ce) (hEg:g=cX c.A) (hf:Tryz.prog.funcs[f]?=some fn) (hname:(fn.name == "runtime.NumGoroutine")=false) (hb:fn.body=some b)
 (hg:∀ x r,c.fn x=some r→rb (en D lv g jn k) fn c x=some r):Cp f c:=by
 obtain ⟨A,R,fr,al,fn'⟩:=c
 cases hfr
 cases hal
 exact KT (E:=en D lv g jn k) hbx mixed JJ (GU I9) (JB D) hEg hf hname hb hg
end Go.Proofs.YtgnakpiicdfpkaaGreatDoor.G
