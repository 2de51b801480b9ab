/- Plain laws, merged; what is proved here is told ahead of each part. -/
import Derived.Test.YtckpkdiinmjdaaaGreatDoorZQ2
set_option linter.unusedVariables false
set_option linter.unusedSimpArgs false
namespace Go.Proofs.YtckpkdiinmjdaaaGreatDoor.G
open Go.V
theorem drawGain_t {k:Nat} (hk:2 ^ 50≤k) {code:List Int} (hl:code.length≤1048576):Tot (spec_DrawMergeGain.f k code) (fun r=>AV r.1 r.2.1):=by
 unfold spec_DrawMergeGain.f spec_DrawMergeGain.t
 refine tot_bind (l1New_t hk hl) fun r1 q1=>?_
 exact tot_bind (l12Any_t hk q1) fun r2 q2=>tot_some q2.2
theorem plans_tail {k:Nat} (hk:2 ^ 50≤k) {st:Ty.den TStore} {d:Ty.den TDisk} (h:AV st d) (hw:st.2.1.length≤1099511627775) :
 ((impl_SegBytes.f k st d).bind fun r8=>((spec_SegBytes.f k st d).bind fun r9=>(bif (r8.1 != r9.1) then (some (true,())) else
  ((impl_NeedsMerge.f k st d 0).bind fun r10=>(bif (decide (r8.1 > 0)) then (bif (r10.1==(decide (gainM st d≥0))) then
   ((impl_NeedsMerge.f k st d 60).bind fun r11=>(bif (!r11.1) then (some (true,())) else ((impl_NeedsMerge.f k st d 30).bind fun r12=>(bif r12.1 then (some (true,())) else (some ((decide (gainM st d<0)),())))))) else (some (false,())))
  else (bif (r10.1==false) then
   ((impl_NeedsMerge.f k st d 60).bind fun r13=>(bif (!r13.1) then (some (true,())) else ((impl_NeedsMerge.f k st d 30).bind fun r14=>(bif r14.1 then (some (true,())) else (some ((decide (gainM st d<0)),())))))) else (some (false,()))))))))=(some (true,()):Option (Bool × Unit)):=by
 have hz:=h.disk.sz
 have z1:=hz.l
 have z2:=hz.u
 have z3:=hz.n
 have h60:=h.ids
 have hu:=h.disk.u
 have hdir:=h.dir
 simp only [implSegBytes_eq hk (st:=st) (d:=d) (by omega) (by omega) (by omega) (by omega),specSegBytes_eq hk (st:=st) (d:=d) (by omega) (by omega) (by omega) (by omega),implNeeds_eq hk (st:=st) hz (by omega) hw,o_s,bne_self_eq_false,c_f]
 rw [needs_at hu hdir (p:=0) (by omega) (by omega),needs_at hu hdir (p:=60) (by omega) (by omega),needs_at hu hdir (p:=30) (by omega) (by omega)]
 generalize gainM st d=n
 generalize (segSum d 60 st.1.2.1:Int)=b
 by_cases c:b > 0
 · rw [decT c]
   simp only [c_t,Bool.true_and]
   rw [show decide (100*n≥0*b)=decide (n≥0) from decide_eq_decide.2 (by omega),beq_self_eq_true,c_t]
   by_cases c2:100*n≥60*b
   · rw [decT c2,decT (show 100*n≥30*b by omega)]
     rfl
   · rw [decF c2]
     rfl
 · rw [decF c]
   rfl
theorem plans_all {k:Nat} (hk:2 ^ 50≤k) (code:List Int):laws_FnPlans.f k code=some (true,()):=by
 refine tot_eq ?_
 unfold laws_FnPlans.f laws_FnPlans.t
 have hbig:laws_big.f k code=some (decide ((code.length:Int) > 1048576),()):=rfl
 refine tot_bindE hbig ?_
 refine tot_bif (fun _=>tot_some rfl) fun hb=>?_
 have hl:code.length≤1048576:=by have:=of_decide_eq_false hb;omega
 refine tot_bind (drawGain_t hk hl) fun r2 q2=>?_
 have hz:=q2.disk.sz
 have z1:=hz.l
 have z2:=hz.u
 have z3:=hz.n
 have h60:=q2.ids
 have hdir:=q2.dir
 have hw:r2.1.2.1.length≤1099511627775:=by omega
 refine tot_bindE (implGain_eq hk hz (by omega) hw) ?_
 refine tot_bindE (specMerge_eq hk hz (by omega) (by omega)) ?_
 refine tot_bindE (specGain_eq hk hz (by omega) hw) ?_
 refine tot_no (bne_self_eq_false _) (tot_bif (fun c=>?_) (fun _=>tot_of (plans_tail hk q2 hw) rfl))
 have c:=q_t c
 obtain ⟨g1,g2,g3,g4,g5⟩:=merge_gain (st:=r2.1) (d:=r2.2.1) c
 have yz:=g3.sz
 have y1:=yz.l
 have y2:=yz.u
 have y3:=yz.n
 refine tot_bindE (specSegBytes_eq hk (by omega) (by omega) (by omega) (by omega)) ?_
 refine tot_bindE (specSegBytes_eq hk (st:=(mergeM r2.1 r2.2.1).1) (d:=(mergeM r2.1 r2.2.1).2.1) (by omega) (by omega) (by omega) (by omega)) ?_
 obtain ⟨b1,b2⟩:=store_next g1
 have e:w64 ((segSum r2.2.1 60 r2.1.1.2.1:Int)-(segSum (mergeM r2.1 r2.2.1).2.1 60 (mergeM r2.1 r2.2.1).1.1.2.1:Int))=gainM r2.1 r2.2.1:=by
  rw [segSum_segS g3 _ _ g4,g5]
  unfold gainM
  rw [g2,g1,w64_eq (n:=r2.1.2.2.1-1) (by omega) (by omega)]
  rfl
 refine tot_no (by show (w64 _ != gainM r2.1 r2.2.1)=false;rw [e];exact bne_self_eq_false _) (tot_of (plans_tail hk q2 hw) rfl)
theorem fnPlans_pure:∀ x,Wf (tup [.slice (.int .u8)]) x→∃ k r,laws_FnPlans.f k x.1=some r∧sndT (B:=[.bool]) (outT ([.val (.slice (.int .u8))])) r=(true,()):=by
 rintro ⟨a0,_⟩ ⟨f0,_⟩
 suffices Ev (fun k=>laws_FnPlans.f k a0) (true,()) by
  obtain ⟨k,h⟩:=this.some
  exact ⟨k,(true,()),h,rfl⟩
 exact ev_big fun k hk=>plans_all hk a0
end Go.Proofs.YtckpkdiinmjdaaaGreatDoor.G
