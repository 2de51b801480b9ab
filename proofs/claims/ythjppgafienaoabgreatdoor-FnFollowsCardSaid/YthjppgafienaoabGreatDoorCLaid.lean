/- What the rows list of the laid memory tells what is asked of it. -/
import Derived.Test.YthjppgafienaoabGreatDoorVTab
import Derived.Test.YthjppgafienaoabGreatDoorRows
import Derived.Stop.LaidErr
import Derived.LaidMore
import Derived.MakeChecks
set_option linter.unusedVariables false
set_option linter.unusedSimpArgs false
set_option maxRecDepth 100000
namespace Go.Proofs.YthjppgafienaoabGreatDoor.G
open Go Go.V
def Hz (P:Program) (g:Nat) (k:IntKind):Bool:=match (P.globals[g]?).map (·.type) with
 | some t=>(match P.underlying t with
  | some (.array n e)=>(match P.underlying e with | some (.int k')=>decide (k'=k) | _=>false)&&(P.cellsOf e==1)&&(P.cellsOf t==n)
  | _=>false)
 | none=>false
theorem KZ {P:Program} {W:World} {name:String} {k:IntKind} {zs:List Int} {rest:List (String × DataW Unit)} {g:Nat} (hg:P.globalNamed name=some g) (hc:Hz P g k=true) (h:laidMet P ((name,Lib.tabData k zs)::rest) W):Lib.TabIs P W name k zs:=by
 unfold Hz at hc
 split at hc
 · rename_i t ht
   split at hc
   · rename_i n e hn
     simp only [Bool.and_eq_true,beq_iff_eq] at hc
     obtain ⟨⟨h1,h2⟩,h3⟩:=hc
     split at h1
     · rename_i k' hk
       obtain rfl:=of_decide_eq_true h1
       exact Lib.tabIs_of_head hg ht hn hk h2 h3 h
     · cases h1
   · cases hc
 · cases hc
theorem KD {P:Program} {w:World} {name:String} {g:Nat} {cs:Array Value} (hg:P.globalNamed name=some g) (h:w.var? P name=some cs):g<w.heap.size:=by
 unfold World.var? at h
 rw [hg,Option.bind_some] at h
 rcases Nat.lt_or_ge g w.heap.size with q | q
 · exact q
 · rw [Array.getElem?_eq_none q] at h;cases h
def LD:List (String × DataW Unit):=[("math/bits.deBruijn32tab",Rows.laid_math_bits_deBruijn32tab),("math/bits.deBruijn64tab",Rows.laid_math_bits_deBruijn64tab),("internal/strconv.uint64pow10",Rows.laid_internal_strconv_uint64pow10)]
theorem Kp {W:World} (h:laidMetH Tryz.prog LD W):J.ok W:=by
 rw [MakeChecks.laidMetH_plain _ _ _ (by kernel_rfl)] at h
 have ht:Lib.TabIs Tryz.prog W "internal/strconv.uint64pow10" .u64 Lib.pow10Tab:=KZ K6 (by kernel_rfl) h.tail.tail
 exact ⟨KD K6 ht,ht,trivial⟩
end Go.Proofs.YthjppgafienaoabGreatDoor.G
