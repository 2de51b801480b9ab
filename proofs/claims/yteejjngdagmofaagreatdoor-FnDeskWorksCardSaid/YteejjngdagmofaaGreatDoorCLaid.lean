/- What the rows list of the laid memory tells what is asked of it. -/
import Derived.Test.YteejjngdagmofaaGreatDoorVTab
import Derived.Test.YteejjngdagmofaaGreatDoorRows
import Derived.Stop.LaidErr
import Derived.LaidMore
import Derived.MakeChecks
import Derived.Shelf.Vars
set_option linter.unusedVariables false
set_option maxRecDepth 100000
namespace Go.Proofs.YteejjngdagmofaaGreatDoor.G
open Go Go.V
def Mp (P:Program) (g:Nat) (k:IntKind):Bool:=match (P.globals[g]?).map (·.type) with
 | some t=>(match P.underlying t with
  | some (.array n e)=>(match P.underlying e with | some (.int k')=>decide (k'=k) | _=>false)&&(P.cellsOf e==1)&&(P.cellsOf t==n)
  | _=>false)
 | none=>false
theorem R6 {P:Program} {W:World} {name:String} {k:IntKind} {zs:List Int} {rest:List (String × DataW Unit)} {g:Nat} (hg:P.globalNamed name=some g) (hc:Mp P g k=true) (h:laidMet P ((name,Lib.tabData k zs)::rest) W):Lib.TabIs P W name k zs:=by
 unfold Mp at hc;split at hc
 · rename_i t ht;split at hc
   · rename_i n e hn;simp only [Bool.and_eq_true,beq_iff_eq] at hc;obtain ⟨⟨h1,h2⟩,h3⟩:=hc;split at h1
     · rename_i k' hk;obtain rfl:=of_decide_eq_true h1;exact Lib.tabIs_of_head hg ht hn hk h2 h3 h
     · cases h1
   · cases hc
 · cases hc
theorem Ra {P:Program} {w:World} {name:String} {g:Nat} {cs:Array Value} (hg:P.globalNamed name=some g) (h:w.var? P name=some cs):g<w.heap.size:=by
 unfold World.var? at h;rw [hg,Option.bind_some] at h;rcases Nat.lt_or_ge g w.heap.size with q | q
 · exact q
 · rw [Array.getElem?_eq_none q] at h;cases h
def OH (P:Program) (g:Nat):Bool:=match (P.globals[g]?).map (·.type) with
 | some t=>(match P.underlying t with | some (.interface _)=>true | _=>false)
 | none=>false
theorem NU {P:Program} {W:World} {name nm:String} {d:DataW Unit} {rest:List (String × DataW Unit)} {g:Nat} (hg:P.globalNamed name=some g) (hc:OH P g=true) (h:laidMet P ((name,.iface nm d)::rest) W):∃ t p,W.var? P name=some #[.iface t p]:=by
 obtain ⟨ps,⟨g',t',cs,fuel,p,q,hg',ht',hvar,hd,_,_⟩,_⟩:=h;obtain rfl:=Option.some.inj (hg.symm.trans hg');unfold OH at hc;rw [ht'] at hc;simp only [] at hc;split at hc
 · rename_i ms hi;obtain ⟨f1,u,v,e,_,_⟩:=iface_of_trod hi hd;exact ⟨u,v,by rw [hvar,Array.eq_one_of_toList e]⟩
 · cases hc
def Sl:List (String × DataW Unit):=[("math/bits.deBruijn32tab",Rows.laid_math_bits_deBruijn32tab),("math/bits.deBruijn64tab",Rows.laid_math_bits_deBruijn64tab),("internal/strconv.uint64pow10",Rows.laid_internal_strconv_uint64pow10),("unicode/utf8.acceptRanges",Rows.laid_unicode_utf8_acceptRanges),("strconv.ErrRange",Rows.laid_strconv_ErrRange),("strconv.ErrSyntax",Rows.laid_strconv_ErrSyntax),("unicode/utf8.first",Rows.laid_unicode_utf8_first)]
theorem Rq {W:World} (h:laidMetH Tryz.prog Sl W) (hS:W.ShapedOpen Tryz.prog):J.ok W:=by
 rw [MakeChecks.laidMetH_plain _ _ _ (by kernel_rfl)] at h;have ht:Lib.TabIs Tryz.prog W "internal/strconv.uint64pow10" .u64 Lib.pow10Tab:=R6 RF (by kernel_rfl) h.tail.tail;have hs:=NU TQ (by kernel_rfl) h.tail.tail.tail.tail.tail;have hr:=NU Sz (by kernel_rfl) h.tail.tail.tail.tail;have hm:∃ m,W.cell? ⟨0,0,none⟩=some (.int .i64 m):=Go.Proofs.cell_of_shapedOpen_int (zero:=#[.int .i64 0]) (t:=3) hS (of_decide_eq_true (by kernel_rfl)) (by kernel_rfl) rfl (by kernel_rfl) (by kernel_rfl) (by kernel_rfl);have hz:6≤W.heap.size:=by
  have h0:6≤W.heap.size:=Ra RF ht;have h1:0<W.heap.size:=by
   obtain ⟨m,e⟩:=hm;unfold World.cell? at e;rcases Nat.lt_or_ge 0 W.heap.size with q | q
   · exact q
   · rw [Array.getElem?_eq_none q] at e;cases e
  omega
 exact ⟨hz,ht,hs,hr,hm,trivial⟩
end Go.Proofs.YteejjngdagmofaaGreatDoor.G
