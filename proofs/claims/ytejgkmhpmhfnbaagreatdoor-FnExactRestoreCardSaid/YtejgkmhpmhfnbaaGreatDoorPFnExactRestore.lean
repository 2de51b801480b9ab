/- The frame of FnExactRestore: what is copied, compared and marked stays as it should. -/
import Derived.Test.YtejgkmhpmhfnbaaGreatDoorZR3
set_option linter.unusedVariables false
namespace Go.Proofs.YtejgkmhpmhfnbaaGreatDoor.G
open Go.V
theorem fr_wInt:∀ l:List Int,(l.map (weight (.int .i64))).sum=0
 | []=>rfl
 | x::l=>by rw [List.map_cons,List.sum_cons,fr_wInt l];rfl
theorem fnExactRestore_pure:∀ x,Wf (tup [(.int .i64),(.slice (.pair .str (.pair .str (.pair (.int .i64) .unit))))]) x→∃ k r,laws_FnExactRestore.f k x.1 x.2.1=some r∧sndT (B:=[.bool]) (outT ([.val (.int .i64),.val (.slice (.pair .str (.pair .str (.pair (.int .i64) .unit))))])) r=(true,()):=by
 rintro ⟨a0,a1,_⟩ ⟨f0,f1,_⟩
 suffices Ev (fun k=>laws_FnExactRestore.t k a0 a1) (true,()) by
  obtain ⟨k,h⟩:=this.some
  exact ⟨k,(true,()),h,rfl⟩
 unfold laws_FnExactRestore.t
 refine Ev.bind (szPairS_ev a1 f1 (1048576) (by omega) (by omega)) ?_
 by_cases c1:((weight (.slice TPair) a1:Nat):Int)≤1048576
 case neg =>
  refine Ev.of fun k=>?_
  rw [sz_bad (by omega)]
  rfl
 rw [sz_ok c1]
 have w1:weight (.slice TPair) a1≤1048576:=by omega
 have p1:=Nat.le_trans (wp_le (.slice TPair) a1) w1
 have q1:=Nat.le_trans (Nat.le_trans (wp_le (.slice TPair) a1) w1) (show 1048576≤4398046511104 by decide)
 refine Ev.skip (by first | omega | (dsimp only;omega)) ?_
 refine Ev.bind (toPairS_ev a1 w1) ?_
 obtain ⟨r,hs,hi,hb⟩:=core_FnExactRestore f0 f1 w1
 have hb2:=hb
 replace hb:=And.intro (Nat.le_trans hb.1 (show 1099511627776≤4398046511104 by decide)) (Nat.le_trans hb.2 (show 1099511627776≤4398046511104 by decide))
 refine Ev.bind hs ?_
 refine Ev.bind (toPairS_ev a1 w1) ?_
 refine Ev.bind hi ?_
 refine Ev.bind (eqStore_ev r.1 (hb.1)) ?_
 refine Ev.notF ?_
 refine Ev.bind (eqDisk_ev r.2.1 (hb.2)) ?_
 refine Ev.notF ?_
 refine Ev.skipEq rfl ?_
 refine Ev.bind (toPairS_ev a1 w1) ?_
 refine Ev.bind (eqPairS_ev a1 q1) ?_
 refine Ev.notF ?_
 have ln_10:=wp_len q1
 refine Ev.bind (markPairS_ev a1 (wp_len q1) 1 (by first | omega | (dsimp only;omega)) (by first | omega | (dsimp only;omega))) ?_
 refine Ev.skip (by first | omega | (dsimp only;omega)) ?_
 refine Ev.bind (eqStore_ev r.1 (hb.1)) ?_
 refine Ev.notF ?_
 refine Ev.bind (eqDisk_ev r.2.1 (hb.2)) ?_
 refine Ev.notF ?_
 refine Ev.skipEq rfl ?_
 have ct_13:=ctStore_le r.1
 refine Ev.bind (markStore_ev r.1 (hb.1) 1 (by first | omega | (dsimp only;omega)) (by first | omega | (dsimp only;omega))) ?_
 have ct_14:=ctDisk_le r.2.1
 refine Ev.bind (markDisk_ev r.2.1 (hb.2) _ (by first | omega | (dsimp only;omega)) (by first | omega | (dsimp only;omega))) ?_
 refine Ev.bind (heldStore_mk r.1 (hb.1) 1 (by first | omega | (dsimp only;omega)) (by first | omega | (dsimp only;omega))) ?_
 refine Ev.skip (by first | omega | (dsimp only;omega)) ?_
 refine Ev.bind (heldDisk_mk r.2.1 (hb.2) (1+ctStore r.1) (by first | omega | (dsimp only;omega)) (by first | omega | (dsimp only;omega))) ?_
 refine Ev.skip (by first | omega | (dsimp only;omega)) ?_
 refine Ev.skipEq rfl ?_
 refine Ev.bind (toPairS_ev a1 w1) ?_
 refine Ev.bind hi ?_
 refine Ev.bind (eqStore_ev r.1 (hb.1)) ?_
 refine Ev.notF ?_
 refine Ev.bind (eqDisk_ev r.2.1 (hb.2)) ?_
 refine Ev.notF ?_
 refine Ev.skipEq rfl ?_
 refine Ev.bind (heldStore_mk r.1 (hb.1) 1 (by first | omega | (dsimp only;omega)) (by first | omega | (dsimp only;omega))) ?_
 refine Ev.skip (by first | omega | (dsimp only;omega)) ?_
 refine Ev.bind (heldDisk_mk r.2.1 (hb.2) (1+ctStore r.1) (by first | omega | (dsimp only;omega)) (by first | omega | (dsimp only;omega))) ?_
 refine Ev.skip (by first | omega | (dsimp only;omega)) ?_
 refine Ev.skipEq rfl ?_
 exact Ev.of fun _=>rfl
end Go.Proofs.YtejgkmhpmhfnbaaGreatDoor.G
