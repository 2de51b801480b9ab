/- What the rows list of the laid memory tells what is asked of it. -/
import Derived.Test.YtijlgdoiofdmhaaGreatDoorVTab
import Derived.Test.YtijlgdoiofdmhaaGreatDoorRows
import Derived.Stop.LaidErr
import Derived.LaidMore
import Derived.MakeChecks
set_option linter.unusedVariables false
set_option maxRecDepth 100000
namespace Go.Proofs.YtijlgdoiofdmhaaGreatDoor.G
open Go Go.V
def Kp (P:Program) (g:Nat) (k:IntKind):Bool:=match (P.globals[g]?).map (·.type) with
 | some t=>(match P.underlying t with
  | some (.array n e)=>(match P.underlying e with | some (.int k')=>decide (k'=k) | _=>false)&&(P.cellsOf e==1)&&(P.cellsOf t==n)
  | _=>false)
 | none=>false
theorem NJ {P:Program} {W:World} {name:String} {k:IntKind} {zs:List Int} {rest:List (String × DataW Unit)} {g:Nat} (hg:P.globalNamed name=some g) (hc:Kp P g k=true) (h:laidMet P ((name,Lib.tabData k zs)::rest) W):Lib.TabIs P W name k zs:=by
 unfold Kp at hc;split at hc
 · rename_i t ht;split at hc
   · rename_i n e hn;simp only [Bool.and_eq_true,beq_iff_eq] at hc;obtain ⟨⟨h1,h2⟩,h3⟩:=hc;split at h1
     · rename_i k' hk;obtain rfl:=of_decide_eq_true h1;exact Lib.tabIs_of_head hg ht hn hk h2 h3 h
     · cases h1
   · cases hc
 · cases hc
theorem NV {P:Program} {w:World} {name:String} {g:Nat} {cs:Array Value} (hg:P.globalNamed name=some g) (h:w.var? P name=some cs):g<w.heap.size:=by
 unfold World.var? at h;rw [hg,Option.bind_some] at h;rcases Nat.lt_or_ge g w.heap.size with q | q
 · exact q
 · rw [Array.getElem?_eq_none q] at h;cases h
def L8 (P:Program) (g:Nat):Bool:=match (P.globals[g]?).map (·.type) with
 | some t=>(match P.underlying t with | some (.interface _)=>true | _=>false)
 | none=>false
theorem KR {P:Program} {W:World} {name nm:String} {d:DataW Unit} {rest:List (String × DataW Unit)} {g:Nat} (hg:P.globalNamed name=some g) (hc:L8 P g=true) (h:laidMet P ((name,.iface nm d)::rest) W):∃ t p,W.var? P name=some #[.iface t p]:=by
 obtain ⟨ps,⟨g',t',cs,fuel,p,q,hg',ht',hvar,hd,_,_⟩,_⟩:=h;obtain rfl:=Option.some.inj (hg.symm.trans hg');unfold L8 at hc;rw [ht'] at hc;simp only [] at hc;split at hc
 · rename_i ms hi;obtain ⟨f1,u,v,e,_,_⟩:=iface_of_trod hi hd;exact ⟨u,v,by rw [hvar,Array.eq_one_of_toList e]⟩
 · cases hc
def Nk:List (String × DataW Unit):=[("math/bits.deBruijn32tab",Rows.laid_math_bits_deBruijn32tab),("math/bits.deBruijn64tab",Rows.laid_math_bits_deBruijn64tab),("internal/strconv.uint64pow10",Rows.laid_internal_strconv_uint64pow10),("strconv.ErrRange",Rows.laid_strconv_ErrRange),("strconv.ErrSyntax",Rows.laid_strconv_ErrSyntax)]
theorem N_ {W:World} (h:laidMetH Tryz.prog Nk W):J.ok W:=by
 rw [MakeChecks.laidMetH_plain _ _ _ (by kernel_rfl)] at h;have ht:Lib.TabIs Tryz.prog W "internal/strconv.uint64pow10" .u64 Lib.pow10Tab:=NJ OA (by kernel_rfl) h.tail.tail;have hs:=KR Nq (by kernel_rfl) h.tail.tail.tail.tail;have hr:=KR NC (by kernel_rfl) h.tail.tail.tail;have hz:3≤W.heap.size:=hr.elim fun _ q=>q.elim fun _ e=>NV NC e
 exact ⟨hz,ht,hs,hr,trivial⟩
end Go.Proofs.YtijlgdoiofdmhaaGreatDoor.G
