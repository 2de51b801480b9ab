/- Plain laws, merged; what is proved here is told ahead of each part. -/
import Derived.Test.YtmakghhmpgfboaaGreatZP2
set_option linter.unusedVariables false
set_option linter.unusedSimpArgs false
namespace Go.Proofs.YtmakghhmpgfboaaGreat.G
open Go.V
theorem ship_PB {st:Ty.den TStore} {d:Ty.den TDisk} (hd:DR d) (f:PieceL) (hi:st.1.2.1.length≤60):PB (shipM st d f).2.1 100000∧(shipM st d f).2.1.length≤60:=by
 have hu:=hd.use
 have hc:=hd.cap1
 have h:LE.le (α:=Int) (used d.1:Int) 100000:=Int.le_trans hu hc
 unfold shipM
 cases storeM st d with
 | false=>exact ⟨fun x hx=>(by cases hx),Nat.zero_le _⟩
 | true =>
  simp only [n_t,c_f]
  refine ⟨fun x hx=>?_,by rw [List.length_map];exact hi⟩
  obtain ⟨i,_,e⟩:=List.mem_map.1 hx
  have hs:=textM_size d (namedM segB i)
  rw [← e]
  have:=ext_le (textM d (namedM segB i)).1
  have hs2:(textM d (namedM segB i)).1.size≤100000:=by omega
  unfold bitM
  cases preB (textM d (namedM segB i)).1 (hasM f i) with
  | true=>exact Nat.le_trans (this _ _) hs2
  | false=>exact hs2
structure FV (st:Ty.den TStore) (d:Ty.den TDisk) (f:Ty.den TFollower):Prop where
 ids:st.1.2.1.length≤60
 disk:DR d
 len:f.2.1.length≤60
 txt:FB f.2.1 100001
theorem set_FB {l:PieceL} {B:Nat} (h:FB l B) {i:Nat} {x:Ty.den TPiece} (hx:x.2.1.size≤B):FB (l.set i x) B:=fun p hp=>by
 rcases List.mem_or_eq_of_mem_set hp with q | q
 · exact h p q
 · rw [q];exact hx
theorem l27Some_t {k:Nat} (hk:2 ^ 50≤k) {c:CurD} (h:CI c):Tot (spec_l27Some.f k c) (fun r=>CI r.1∧FV r.2.1 r.2.2.1 r.2.2.2.1):=by
 unfold spec_l27Some.f spec_l27Some.t
 have hnew:=newD_DR (n:=20000) (by omega) (by omega)
 refine tot_bindE (specNewR_eq k (by omega) (by omega)) ?_
 refine tot_bindE (specEngNew_eq hk (d:=newD 20000) hnew.sz) ?_
 refine tot_bind (l18Script_t hk h) fun r3 q3=>?_
 obtain ⟨c3,z3⟩:=q3
 rw [w64_eq (n:=(r3.2.1.2.2.1.length:Int)+1) (by omega) (by omega)]
 refine tot_bind (l1BelowW_t k c3 (by omega)) fun r4 q4=>?_
 obtain ⟨c4,a4,b4⟩:=q4
 have e1:(List.take (Int.toNat r4.2.1) r3.2.1.2.2.1).length≤100000:=by rw [List.length_take];omega
 have e2:(List.drop (Int.toNat r4.2.1) r3.2.1.2.2.1).length≤100000:=by rw [List.length_drop];omega
 refine tot_inc a4 (by omega) (tot_bind (run_t hk (open_EV hnew) e1) fun r5 q5=>tot_bif (fun _=>?_) (fun _=>?_))
 · have hsh:=specShip_eq hk (st:=r5.1.1.2.1) (d:=r5.1.1.2.2.1) (f:=(0,([],()))) q5.disk.sz (by show 0≤1099511627775;omega) (fun p hp=>by cases hp)
   obtain ⟨p1,p2⟩:=ship_PB (st:=r5.1.1.2.1) q5.disk ([]:PieceL) q5.ids
   refine tot_bindE hsh ?_
   refine tot_bindE (specReceive_eq hk (f:=(0,([],()))) (p:=shipM r5.1.1.2.1 r5.1.1.2.2.1 []) (B:=0) (B':=100000) (by show 0≤1000000;omega) (by omega) (fun x hx=>by cases hx) p1 (by omega) (by omega)) ?_
   obtain ⟨g1,g2⟩:=recv_FB (f:=(0,([],()))) (p:=shipM r5.1.1.2.1 r5.1.1.2.2.1 []) (B:=0) (B':=100000) (m:=60) (fun x hx=>by cases hx) p1 (Nat.zero_le _) p2
   have g1:FB (recvM (0,([],())) (shipM r5.1.1.2.1 r5.1.1.2.2.1 [])).1.2.1 100001:=fun x hx=>Nat.le_trans (g1 x hx) (by omega)
   have g1':FB (recvM (0,([],())) (shipM r5.1.1.2.1 r5.1.1.2.2.1 [])).1.2.1 100000:=fun x hx=>by
    obtain ⟨w,_⟩:=recv_FB (f:=(0,([],()))) (p:=shipM r5.1.1.2.1 r5.1.1.2.2.1 []) (B:=0) (B':=100000) (m:=60) (fun x hx=>by cases hx) p1 (Nat.zero_le _) p2
    exact Nat.le_trans (w x hx) (by omega)
   generalize recvM (0,([],())) (shipM r5.1.1.2.1 r5.1.1.2.2.1 [])=r7 at g1 g1' g2 ⊢
   refine tot_inc a4 (by omega) (tot_bind (run_t hk q5 e2) fun r8 q8=>?_)
   refine tot_bif (fun hb=>tot_bind (l1Once_t k c4 (by omega) (by omega)) fun r9 q9=>tot_bif (fun _=>?_) (fun _=>tot_some ⟨q9,q8.ids,q8.disk,g2,g1⟩)) (fun _=>tot_some ⟨c4,q8.ids,q8.disk,g2,g1⟩)
   have hb:=of_decide_eq_true hb
   have hm:List.getD r7.1.2.1 0 (Ty.dflt TPiece) ∈ r7.1.2.1:=getD_mem (by omega)
   have hz:=g1' _ hm
   have hy:(⟨#[120]⟩:ByteArray).size=1:=rfl
   refine tot_inb (by omega) hb (tot_cat (by omega) (tot_inb (by omega) hb (tot_some ⟨q9,q8.ids,q8.disk,?_,?_⟩)))
   · show (List.set _ _ _).length≤60
     rw [List.length_set]
     exact g2
   · refine set_FB g1 ?_
     show (_++_:ByteArray).size≤100001
     rw [ByteArray.size_append]
     omega
 · refine tot_inc a4 (by omega) (tot_bind (run_t hk q5 e2) fun r8 q8=>tot_some ⟨c4,q8.ids,q8.disk,Nat.zero_le _,fun x hx=>(by cases hx)⟩)
theorem ship_of {k:Nat} (hk:2 ^ 50≤k) {st:Ty.den TStore} {d:Ty.den TDisk} {f:Ty.den TFollower} (h:FV st d f):spec_Ship.f k st d f=some (shipM st d f.2.1,())∧PB (shipM st d f.2.1).2.1 100000∧(shipM st d f.2.1).2.1.length≤60:=by
 have hl:=h.len
 have ht:=h.txt
 obtain ⟨p1,p2⟩:=ship_PB (st:=st) h.disk f.2.1 h.ids
 exact ⟨specShip_eq hk h.disk.sz (by omega) (fun p hp=>by have:=ht p hp;omega),p1,p2⟩
theorem drawReceive_t {k:Nat} (hk:2 ^ 50≤k) {code:List Int} (hl:code.length≤1048576):Tot (spec_DrawReceive.f k code) (fun r=>(r.1.2.1.length≤60∧FB r.1.2.1 100001)∧r.2.1.2.1.length≤61∧PB r.2.1.2.1 100000):=by
 unfold spec_DrawReceive.f spec_DrawReceive.t
 refine tot_bind (l1New_t hk hl) fun r1 q1=>tot_bind (l27Some_t hk q1) fun r2 q2=>?_
 obtain ⟨c2,fv⟩:=q2
 obtain ⟨e,p1,p2⟩:=ship_of hk fv
 refine tot_bindE e ?_
 simp only []
 generalize shipM r2.2.1 r2.2.2.1 r2.2.2.2.1.2.1=p at p1 p2 ⊢
 have hf:r2.2.2.2.1.2.1.length≤60∧FB r2.2.2.2.1.2.1 100001:=⟨fv.len,fv.txt⟩
 have setP:∀ (i:Nat) (x:Ty.den TBit),x.2.2.1.size≤100000→(p.2.1.set i x).length≤61∧PB (p.2.1.set i x) 100000:=fun i x hx=>⟨by rw [List.length_set];omega,fun y hy=>by
  rcases List.mem_or_eq_of_mem_set hy with q | q
  · exact p1 y q
  · rw [q];exact hx⟩
 refine tot_bif (fun hb=>?_) (fun _=>tot_some ⟨hf,by show p.2.1.length≤61;omega,p1⟩)
 have hb:=of_decide_eq_true hb
 have hm:List.getD p.2.1 0 (Ty.dflt TBit) ∈ p.2.1:=getD_mem (by omega)
 refine tot_bind (below_c k c2 (by omega) (by omega)) fun r4 q4=>tot_bif (fun _=>?_) (fun _=>tot_bif (fun _=>?_) (fun _=>tot_bif (fun _=>?_) (fun _=>tot_bif (fun _=>?_) (fun _=>?_))))
 · exact tot_inb (by omega) hb (tot_bind (pickInt_c k q4 (by decide) (by decide)) fun r5 _=>tot_inb (by omega) hb (tot_some ⟨hf,setP _ _ (show (List.getD p.2.1 0 (Ty.dflt TBit)).2.2.1.size≤100000 from p1 _ hm)⟩))
 · exact tot_some ⟨hf,by show p.2.1.length≤61;omega,p1⟩
 · refine tot_inb (by omega) hb (tot_rm (by omega) (by decide) (tot_some ⟨hf,?_,fun y hy=>?_⟩))
   · show (_++[_]).length≤61
     rw [len_snoc]
     omega
   · rcases List.mem_append.1 hy with w | w
     · exact p1 y w
     · rw [List.mem_singleton.1 w];exact p1 _ hm
 · refine tot_inc (by omega) (by omega) (tot_some ⟨hf,?_,fun y hy=>p1 y (List.mem_of_mem_drop hy)⟩)
   show (List.drop 1 p.2.1).length≤61
   rw [List.length_drop]
   omega
 · exact tot_some ⟨hf,by show p.2.1.length≤61;omega,p1⟩
theorem drawFollow_t {k:Nat} (hk:2 ^ 50≤k) {code:List Int} (hl:code.length≤1048576):Tot (spec_DrawFollowMap.f k code) (fun r=>r.1.2.1.length≤60∧FB r.1.2.1 1000000):=by
 unfold spec_DrawFollowMap.f spec_DrawFollowMap.t
 refine tot_bind (l1New_t hk hl) fun r1 q1=>tot_bind (l27Some_t hk q1) fun r2 q2=>?_
 obtain ⟨c2,fv⟩:=q2
 obtain ⟨e,p1,p2⟩:=ship_of hk fv
 have hlen:=fv.len
 refine tot_bindE e (tot_bindE (specReceive_eq hk (B:=100001) (B':=100000) (by omega) (by show (shipM _ _ _).2.1.length≤_;omega) fv.txt p1 (by omega) (by omega)) ?_)
 obtain ⟨g1,g2⟩:=recv_FB (f:=r2.2.2.2.1) (m:=60) fv.txt p1 fv.len p2
 simp only []
 generalize recvM r2.2.2.2.1 (shipM r2.2.1 r2.2.2.1 r2.2.2.2.1.2.1)=r4 at g1 g2 ⊢
 have g3:FB r4.1.2.1 1000000:=fun x hx=>Nat.le_trans (g1 x hx) (by omega)
 refine tot_bif (fun hb=>tot_bind (l1Once_t k c2 (by omega) (by omega)) fun r5 q5=>tot_bif (fun _=>?_) (fun _=>tot_some ⟨g2,g3⟩)) (fun _=>tot_some ⟨g2,g3⟩)
 have hb:=of_decide_eq_true hb
 refine tot_bind (l1BelowW_t k q5 (by omega)) fun r6 q6=>?_
 obtain ⟨c6,a6,b6⟩:=q6
 have hm:List.getD r4.1.2.1 (Int.toNat r6.2.1) (Ty.dflt TPiece) ∈ r4.1.2.1:=getD_mem (by omega)
 have hz:=g1 _ hm
 refine tot_inb a6 b6 (tot_bind (l1Spoil_t hk c6 (by omega)) fun r7 q7=>tot_inb a6 b6 (tot_some ⟨?_,?_⟩))
 · show (List.set _ _ _).length≤60
   rw [List.length_set]
   exact g2
 · have h7:=q7.2
   exact set_FB g3 (by show r7.2.1.size≤1000000;omega)
theorem FB_txs {B:Nat}:∀ {l:PieceL},FB l B→txs l≤l.length*B
 | [],_=>Nat.zero_le _
 | p::l,h=>by
  have i:=FB_txs (l:=l) fun x hx=>h x (m_m _ hx)
  have h0:=h p m_s
  have e:txs (p::l)=p.2.1.size+txs l:=rfl
  rw [e,l_c,Nat.succ_mul]
  omega
theorem samePairs_self2 {k:Nat} (hk:2 ^ 50≤k) {l:PairL} (hl:l.length≤268435456):spec_SamePairs.f k l l=some (true,()):=by
 unfold spec_SamePairs.f spec_SamePairs.t
 rw [bne_self_eq_false,c_f]
 refine forL0 (L:=fun n i (_:Unit)=>spec_SamePairs.l0 k n l l i) (R:=fun r _=>some (true,())) (Ty.dflt TPair) l (fun _ _=>True) (fun n _ _=>?_) (fun n i _ x rest h0 h1 hx hr hp ih=>?_) (n:=k) (s:=()) (by omega) trivial
 · simp only [spec_SamePairs.l0,spec_SamePairs.b0]
   rw [decF (by omega),c_f]
 · simp only [spec_SamePairs.l0,spec_SamePairs.b0]
   rw [decT h1,c_t]
   repeat rw [inb_eq h0 h1]
   rw [hx,w64_eq (n:=i+1) (by omega) (by omega),seq_refl,seq_refl,beq_self_eq_true]
   exact ih () trivial
theorem parcels_all {k:Nat} (hk:2 ^ 50≤k) (code:List Int):laws_FnParcels.f k code=some (true,()):=by
 refine tot_eq ?_
 unfold laws_FnParcels.f laws_FnParcels.t
 have hbig:laws_big.f k code=some (decide ((code.length:Int) > 1048576),()):=rfl
 refine tot_bindE hbig ?_
 refine tot_bif (fun _=>tot_some rfl) fun hb=>?_
 have hl:code.length≤1048576:=by have:=of_decide_eq_false hb;omega
 refine tot_bind (drawReceive_t hk hl) fun r2 q2=>?_
 obtain ⟨⟨f1,f2⟩,p1,p2⟩:=q2
 obtain ⟨F,eF,q7⟩:=drawFollow_t hk hl
 obtain ⟨l7,t7⟩:=q7
 have ht:=FB_txs t7
 have hfm:=implFollow_eq hk F.1 (by omega) (by omega)
 have sfm:=specFollow_eq hk F.1 (by omega) (by omega)
 have hfl:=followM_len (f:=F.1.2.1) (by omega)
 refine tot_bindE (implReceive_eq hk (B:=100001) (B':=100000) (by omega) (by omega) f2 p2 (by omega) (by omega)) ?_
 refine tot_bindE (specReceive_eq hk (B:=100001) (B':=100000) (by omega) (by omega) f2 p2 (by omega) (by omega)) ?_
 obtain ⟨g1,g2⟩:=recv_FB (f:=r2.1) (p:=r2.2.1) (m:=61) f2 p2 (by omega) p1
 have hfacts:=recv_facts (f:=r2.1) (p:=r2.2.1) f2 p2
 simp only [beq_self_eq_true,n_t,c_f]
 refine tot_bindE (sameF_self hk (by omega)) ?_
 simp only [n_t,c_f]
 have samePairs:spec_SamePairs.f k (followM F.1.2.1).1 (followM F.1.2.1).1=some (true,()):=samePairs_self2 hk hfl
 rcases hfacts with ⟨n1,n2⟩ | ⟨n1,n2,_⟩
 · simp only [n1,n2,n_f,c_t]
   refine tot_bindE (sameF_self hk (by omega)) ?_
   simp only [n_t,c_f]
   refine tot_bindE eF (tot_bindE hfm (tot_bindE eF (tot_bindE sfm ?_)))
   simp only [beq_self_eq_true,c_t]
   refine tot_bindE samePairs ?_
   simp only [c_t]
   refine tot_bindE (implParcel_eq hk (by omega)) (tot_bindE (specParcel_eq hk (by omega)) (tot_some ?_))
   rw [beq_self_eq_true]
 · simp only [n1,n_t,c_f]
   refine tot_bindE eF (tot_bindE hfm (tot_bindE eF (tot_bindE sfm ?_)))
   simp only [beq_self_eq_true,c_t]
   refine tot_bindE samePairs ?_
   simp only [c_t,n2,beq_self_eq_true]
   refine tot_bindE (implParcel_eq hk (by omega)) (tot_bindE (specParcel_eq hk (by omega)) (tot_some ?_))
   rw [beq_self_eq_true]
theorem fnParcels_pure:∀ x,Wf (tup [.slice (.int .u8)]) x→∃ k r,laws_FnParcels.f k x.1=some r∧sndT (B:=[.bool]) (outT ([.val (.slice (.int .u8))])) r=(true,()):=by
 rintro ⟨a0,_⟩ ⟨f0,_⟩
 suffices Ev (fun k=>laws_FnParcels.f k a0) (true,()) by
  obtain ⟨k,h⟩:=this.some
  exact ⟨k,(true,()),h,rfl⟩
 exact ev_big fun k hk=>parcels_all hk a0
end Go.Proofs.YtmakghhmpgfboaaGreat.G
