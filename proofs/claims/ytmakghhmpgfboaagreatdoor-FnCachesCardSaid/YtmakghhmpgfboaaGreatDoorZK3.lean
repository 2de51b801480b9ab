/- Plain laws, merged; what is proved here is told ahead of each part. -/
import Derived.Test.YtmakghhmpgfboaaGreatDoorZK2
set_option linter.unusedVariables false
set_option linter.unusedSimpArgs false
namespace Go.Proofs.YtmakghhmpgfboaaGreatDoor.G
open Go.V
theorem specCacheOk_t {k:Nat} (hk:2 ^ 50≤k) {x:Ty.den TCache} (hl:x.2.1.length≤1000):Tot (spec_CacheOk.f k x) (fun _=>True):=by
 unfold spec_CacheOk.f spec_CacheOk.t
 refine tot_bindE (l1InD_eq k _ _ _) (tot_bif (fun _=>tot_some trivial) fun _=>tot_bif (fun _=>tot_some trivial) fun _=>tot_bif (fun _=>tot_some trivial) fun _=>?_)
 have key:∀ (d n:Nat) (i:Int),0≤i→i+(d:Int)=(x.2.1.length:Int)→d<n→Tot (spec_CacheOk.l0 k n i x.1 x.2.1 x.2.2.1) (fun _=>True):=by
  intro d
  induction d with
  | zero =>
   intro n i h0 h1 hn
   obtain ⟨n,rfl⟩:∃ q,n=q+1:=⟨n-1,by omega⟩
   simp only [spec_CacheOk.l0,spec_CacheOk.b0]
   exact tot_no (decF (by omega)) (tot_some trivial)
  | succ d ih =>
   intro n i h0 h1 hn
   obtain ⟨n,rfl⟩:∃ q,n=q+1:=⟨n-1,by omega⟩
   have nxt:=ih n (i+1) (by omega) (by omega) (by omega)
   have inner:∀ (d n':Nat) (j:Int),0≤j→j+(d:Int)=i→d<n'→Tot (spec_CacheOk.l1 k (spec_CacheOk.l0 k n) n' i j x.1 x.2.1 x.2.2.1) (fun _=>True):=by
    intro d
    induction d with
    | zero =>
     intro n' j j0 j1 hn'
     obtain ⟨n',rfl⟩:∃ q,n'=q+1:=⟨n'-1,by omega⟩
     simp only [spec_CacheOk.l1,spec_CacheOk.b1]
     refine tot_no (decF (by omega)) ?_
     rw [w64_eq (n:=i+1) (by omega) (by omega)]
     exact nxt
    | succ d ih2 =>
     intro n' j j0 j1 hn'
     obtain ⟨n',rfl⟩:∃ q,n'=q+1:=⟨n'-1,by omega⟩
     simp only [spec_CacheOk.l1,spec_CacheOk.b1]
     refine tot_yes (decT (by omega)) (tot_inb j0 (by omega) (tot_inb h0 (by omega) (tot_bif (fun _=>tot_some trivial) fun _=>?_)))
     rw [w64_eq (n:=j+1) (by omega) (by omega)]
     exact ih2 n' (j+1) (by omega) (by omega) (by omega)
   simp only [spec_CacheOk.l0,spec_CacheOk.b0]
   exact tot_yes (decT (by omega)) (inner i.toNat k 0 (by omega) (by omega) (by omega))
 exact key x.2.1.length k 0 (by omega) (by omega) (by omega)
theorem specCacheGet_t {k:Nat} (hk:2 ^ 50≤k) {x:Ty.den TCache} {st:Ty.den TStore} {d:Ty.den TDisk} (hd:DSz d) (hdir:st.2.1.length≤1099511627775) {m:Nat} (hl:x.2.1.length≤m) (hm:m≤900) (key:ByteArray) :
 Tot (spec_CacheGet.f k x st d key) (fun r=>r.1.2.1.length≤m+1):=by
 have hg:=specGet_eq hk (st:=st) (d:=d) hd (by omega) key
 unfold spec_CacheGet.f spec_CacheGet.t
 refine tot_rm (by omega) (by decide) (tot_bind (specCacheOk_t hk (by omega)) fun r1 _=>tot_bif (fun _=>?_) (fun _=>?_))
 · refine tot_bindE hg (tot_some ?_)
   show ([]++x.2.1).length≤m+1
   rw [List.nil_append]
   omega
 · have hdg:=specDirGet_eq hk (l:=st.2.1) (by omega) key
   have hq:∃ q,getR (getE st.2.1 key)=some q:=by cases getE st.2.1 key <;> exact ⟨_,rfl⟩
   obtain ⟨q,hq⟩:=hq
   rw [hq] at hdg
   refine tot_bindE hdg ?_
   have loop:∀ (dd n:Nat) (hit i:Int) (out:List (Ty.den TSlot)),0≤i→i+(dd:Int)=(x.2.1.length:Int)→dd<n→hit<(x.2.1.length:Int)→(out.length:Int)≤i →
    Tot (spec_CacheGet.l0 k n key q.2.1 hit i x.1 x.2.1 x.2.2.1 st.1.1 st.1.2.1 st.2.1 st.2.2.1 st.2.2.2.1 st.2.2.2.2.1 d.1 d.2.1 d.2.2.1 d.2.2.2.1 [] 0 0 ByteArray.empty ByteArray.empty 0 out x.1 x.2.2.1 q.1.1 q.1.2.1 q.1.2.2.1 q.1.2.2.2.1 q.1.2.2.2.2.1) (fun r=>r.1.2.1.length≤m+1):=by
    intro dd
    induction dd with
    | zero =>
     intro n hit i out h0 h1 hn hh ho
     obtain ⟨n,rfl⟩:∃ q,n=q+1:=⟨n-1,by omega⟩
     have fin:∀ s:Ty.den TSlot,(List.drop 1 (out++[s])).length≤m+1∧(out++[s]).length≤m+1:=fun s=>by
      have e:(out++[s]).length=out.length+1:=len_snoc ..
      refine ⟨?_,by omega⟩
      rw [List.length_drop]
      omega
     have tail:∀ (s:Ty.den TSlot) (h:Ty.den (.int .i64)) (r:Ty.den TPair × Int × Unit),Tot (rm (Ty.bytes TSlot) (List.length out+1) (bif (decide ((List.length (out++[s]):Int) > x.1)) then (inc 1 (List.length (out++[s]):Int) (rm (Ty.bytes TSlot) (0+List.length (List.drop 1 (out++[s]))) (some ((x.1,(([]++(List.drop 1 (out++[s]))),(h,()))),r)))) else (some ((x.1,((out++[s]),(h,()))),r)))) (fun r:Ty.den TCache × Ty.den TPair × Int × Unit=>r.1.2.1.length≤m+1):=fun s h r=>by
      obtain ⟨f1,f2⟩:=fin s
      have e:(out++[s]).length=out.length+1:=len_snoc ..
      refine tot_rm (by omega) (by decide) (tot_bif (fun _=>tot_inc (by omega) (by omega) (tot_rm (by omega) (by decide) (tot_some ?_))) (fun _=>tot_some f2))
      show ([]++List.drop 1 (out++[s])).length≤m+1
      rw [List.nil_append]
      exact f1
     simp only [spec_CacheGet.l0,spec_CacheGet.b0]
     refine tot_no (decF (by omega)) (tot_bindE (show spec_Get.f k ((st.1.1,(st.1.2.1,())),(st.2.1,(st.2.2.1,(st.2.2.2.1,(st.2.2.2.2.1,()))))) (d.1,(d.2.1,(d.2.2.1,(d.2.2.2.1,())))) key=_ from hg) (tot_bif (fun hb=>?_) (fun _=>tot_bif (fun _=>?_) (fun _=>?_))))
     · have hb:=of_decide_eq_true hb
       exact tot_inb hb hh (tot_inb hb hh (tail _ _ _))
     · exact tail _ _ _
     · refine tot_some ?_
       show out.length≤m+1
       omega
    | succ dd ih =>
     intro n hit i out h0 h1 hn hh ho
     obtain ⟨n,rfl⟩:∃ q,n=q+1:=⟨n-1,by omega⟩
     have hw:w64 (i+1)=i+1:=w64_eq (by omega) (by omega)
     simp only [spec_CacheGet.l0,spec_CacheGet.b0,hw]
     refine tot_yes (decT (by omega)) (tot_inb h0 (by omega) (tot_bif (fun _=>tot_inb h0 (by omega) (tot_rm (by omega) (by decide) ?_)) (fun _=>tot_bif (fun _=>tot_inb h0 (by omega) (tot_bif (fun _=>?_) (fun _=>?_))) (fun _=>?_))))
     · exact ih n hit (i+1) _ (by omega) (by omega) (by omega) hh (by rw [len_snoc];omega)
     · exact ih n i (i+1) out (by omega) (by omega) (by omega) (by omega) (by omega)
     · exact ih n hit (i+1) out (by omega) (by omega) (by omega) hh (by omega)
     · exact ih n hit (i+1) out (by omega) (by omega) (by omega) hh (by omega)
   exact loop x.2.1.length k (-1) 0 [] (by omega) (by omega) (by omega) (by omega) (by decide)
theorem l22L {k:Nat} (hk:2 ^ 50≤k) {st:Ty.den TStore} {d:Ty.den TDisk} (hd:DSz d) (hdir:st.2.1.length≤1099511627775) (y14:List (Ty.den TSlot)) (y15 y16:Int):∀ (m n:Nat) (c:CurD) (x:Ty.den TCache),m<n→CI c→x.2.1.length+m≤100 →
 Tot (spec_l22Cache.l0 k n (m:Int) c.1 c.2.1 c.2.2.1 st.1.1 st.1.2.1 st.2.1 st.2.2.1 st.2.2.2.1 st.2.2.2.2.1 d.1 d.2.1 d.2.2.1 d.2.2.2.1 y14 y15 y16 x.2.1 x.1 x.2.2.1) (fun r=>CI r.1):=by
 intro m
 induction m with
 | zero =>
  intro n c x hn hc hx
  obtain ⟨n,rfl⟩:∃ q,n=q+1:=⟨n-1,by omega⟩
  simp only [spec_l22Cache.l0,spec_l22Cache.b0]
  refine tot_no (decF (by omega)) (tot_bind (l1Below_t k hc (by omega) (by omega)) fun r q=>tot_bif (fun _=>?_) (fun _=>tot_bif (fun _=>tot_bif (fun hb=>?_) (fun _=>tot_some q.1)) (fun _=>tot_bif (fun _=>?_) (fun _=>tot_some q.1))))
  · exact tot_bind (l1PickInt_t k q.1 (by decide) (by decide)) fun r7 q7=>tot_some q7.1
  · have hb:=of_decide_eq_true hb
    exact tot_inb (by omega) hb (tot_inb (by omega) hb (tot_some q.1))
  · exact tot_rm (by omega) (by decide) (tot_some q.1)
 | succ m ih =>
  intro n c x hn hc hx
  obtain ⟨n,rfl⟩:∃ q,n=q+1:=⟨n-1,by omega⟩
  have hw:w64 (((m+1:Nat):Int)-1)=(m:Int):=by rw [w64_eq (by omega) (by omega)];omega
  simp only [spec_l22Cache.l0,spec_l22Cache.b0,hw]
  refine tot_yes (decT (by omega)) (tot_bind (l5Key_t k hc) fun r4 q4=>?_)
  refine tot_bind (specCacheGet_t hk (x:=(x.1,(x.2.1,(x.2.2.1,())))) (st:=((st.1.1,(st.1.2.1,())),(st.2.1,(st.2.2.1,(st.2.2.2.1,(st.2.2.2.2.1,())))))) (d:=(d.1,(d.2.1,(d.2.2.1,(d.2.2.2.1,()))))) hd hdir (Nat.le_refl _) (by show x.2.1.length≤900;omega) r4.2.1) fun r5 q5=>?_
  have q5:r5.1.2.1.length≤x.2.1.length+1:=q5
  exact ih n r4.1 r5.1 (by omega) q4 (by omega)
theorem l22Cache_t {k:Nat} (hk:2 ^ 50≤k) {st:Ty.den TStore} {d:Ty.den TDisk} (hd:DSz d) (hdir:st.2.1.length≤1099511627775) {c:CurD} (h:CI c):Tot (spec_l22Cache.f k c st d) (fun r=>CI r.1):=by
 unfold spec_l22Cache.f spec_l22Cache.t
 refine tot_bind (l1Below_t k h (by omega) (by omega)) fun r1 q1=>?_
 obtain ⟨c1,a1,b1⟩:=q1
 have hn:Tot (spec_CacheNew.f k (w64 (1+r1.2.1))) (fun r=>r.1.2.1=[]):=by
  unfold spec_CacheNew.f spec_CacheNew.t
  exact tot_bindE (l1InD_eq k _ _ _) (tot_bif (fun _=>tot_some rfl) (fun _=>tot_some rfl))
 refine tot_bind hn fun r2 q2=>?_
 refine tot_bind (l1Below_t k c1 (by omega) (by omega)) fun r3 q3=>?_
 obtain ⟨c3,a3,b3⟩:=q3
 have:=l22L hk hd hdir [] 0 0 r3.2.1.toNat k r3.1 r2.1 (by omega) c3 (by rw [q2];simp only [List.length_nil];omega)
 rw [show ((r3.2.1.toNat:Nat):Int)=r3.2.1 by omega] at this
 exact this
def LV (st:Ty.den TStore) (d:Ty.den TDisk):Prop:=IVs st d∧EI st
theorem commit_LV {st:Ty.den TStore} {d:Ty.den TDisk} (l:PutL) (h:LV st d):LV (commitM st d l).1 (commitM st d l).2.1:=by
 obtain ⟨⟨z,hz⟩,he⟩:=h
 exact ⟨⟨_,commit_IV l hz⟩,commit_EI he d l⟩
theorem merge_LV {st:Ty.den TStore} {d:Ty.den TDisk} (h:LV st d):LV (mergeM st d).1 (mergeM st d).2.1:=by
 obtain ⟨⟨z,hz⟩,he⟩:=h
 exact ⟨⟨_,(merge_IV hz).1⟩,merge_EI he d⟩
theorem open_LV {n:Int} (h0:0≤n) (h1:n≤100000):LV (openM (newD n)).1 (openM (newD n)).2.1:=by
 refine ⟨⟨_,open_IV h0 h1⟩,?_⟩
 have hd:=newD_DR h0 h1
 have e:openM (newD n)=firstM (newD n):=by
  unfold openM
  have e:(textM (newD n) liveB).2=false:=by unfold textM;rw [disk_iff.2 hd];rfl
  rw [disk_iff.2 hd,e]
  rfl
 rw [e]
 unfold firstM
 cases (firstR (newD n)).2==0 <;> exact fun x hx=>by cases hx
theorem drawCache_t {k:Nat} (hk:2 ^ 50≤k) {code:List Int} (hl:code.length≤1048576):Tot (spec_DrawCacheGet.f k code) (fun r=>LV r.2.1 r.2.2.1):=by
 unfold spec_DrawCacheGet.f spec_DrawCacheGet.t
 refine tot_bind (l1New_t hk hl) fun r1 q1=>?_
 refine tot_bind (l12Store_P hk (P:=LV) (fun _ _ h=>h.1) (fun _ _ h=>merge_LV h) (fun _ _ l h=>commit_LV l h) (fun n h0 h1=>open_LV h0 h1) q1) fun r2 q2=>?_
 obtain ⟨c2,lv⟩:=q2
 obtain ⟨⟨z,hz⟩,_⟩:=id lv
 have hdir:r2.2.1.2.1.length≤268435456:=hz.dir
 refine tot_bind (l22Cache_t hk hz.disk.sz (by omega) c2) fun r3 q3=>?_
 exact tot_bind (l5Key_t k q3) fun r4 q4=>tot_some lv
theorem at_t {k:Nat} {code:List Int} (hl:code.length≤1048576) (hb:∀ x ∈ code,(0:Int)≤x∧x≤255) {i:Int} (h0:0≤i) (h1:i≤1000):Tot (laws_at.f k code i) (fun r=>0≤r.1∧r.1≤255):=by
 unfold laws_at.f laws_at.t
 refine tot_bif (fun hd=>?_) (fun hd=>?_)
 · have hd:=of_decide_eq_true hd
   have hx:=hb (code.getD i.toNat (Ty.dflt (.int .u8))) (getD_mem (by omega))
   refine tot_inb h0 hd (tot_some ?_)
   show 0≤w64 _∧w64 _≤255
   rw [w64_eq (by omega) (by omega)]
   exact hx
 · have hd:=of_decide_eq_false hd
   refine tot_some ?_
   show 0≤Int.tmod _ 256∧Int.tmod _ 256≤255
   rw [w64_eq (n:=i*37) (by omega) (by omega),w64_eq (n:=(code.length:Int)*11) (by omega) (by omega),w64_eq (n:=i*37+(code.length:Int)*11) (by omega) (by omega),Int.tmod_eq_emod_of_nonneg (by omega)]
   omega
theorem mod_in {a n:Int} (h0:0≤a) (hn:0<n):0≤Int.tmod a n∧Int.tmod a n<n:=by
 rw [Int.tmod_eq_emod_of_nonneg h0]
 exact ⟨Int.emod_nonneg _ (by omega),Int.emod_lt_of_pos _ hn⟩
def keysC:List ByteArray:=[(⟨#[97]⟩:ByteArray),(⟨#[98]⟩:ByteArray),(⟨#[99]⟩:ByteArray),(⟨#[107,101,121]⟩:ByteArray),(⟨#[108,111,110,103,110,97,109,101]⟩:ByteArray)]
theorem get_step {k:Nat} (hk:2 ^ 50≤k) {x:Ty.den TCache} {st:Ty.den TStore} {d:Ty.den TDisk} (h:CK x st d) (hv:LV st d) (hw:LE.le (α:=Int) x.2.2.1 500) (key:ByteArray) {L:Ty.den TCache→Option (Bool × Unit)}
 (hL:∀ y:Ty.den TCache,CK y st d→y.1=x.1→LE.le (α:=Int) y.2.2.1 (x.2.2.1+1)→Tot (L y) (fun r=>r=(true,()))) :
 Tot ((impl_CacheGet.f k x st d key).bind fun r16=>((spec_Get.f k st d key).bind fun r17=>(bif (!((seq r16.2.1.1 r17.1.1)&&((seq r16.2.1.2.1 r17.1.2.1)&&(r16.2.1.2.2.1==r17.1.2.2.1)))) then (some (false,())) else (bif (r16.2.2.1 != r17.2.1) then (some (false,())) else
  ((spec_CacheOk.f k r16.1).bind fun r18=>(bif (!r18.1) then (some (false,())) else (bif (decide (r16.1.2.2.1<x.2.2.1)) then (some (false,())) else (bif (decide (r16.1.2.2.1 > (w64 (x.2.2.1+1)))) then (some (false,())) else L r16.1))))))))
 (fun r=>r=(true,())):=by
 obtain ⟨⟨z,hz⟩,_⟩:=id hv
 have hd:DR d:=hz.disk
 have hdir:st.2.1.length≤268435456:=hz.dir
 have h0:=h.hits
 obtain ⟨hits,hh,e⟩:=implCacheGet_eq hk h hd.sz (by omega) (by omega) key
 have lo:LE.le (α:=Int) x.2.2.1 hits:=by rcases hh with q | q <;> rw [q] <;> omega
 have up:LE.le (α:=Int) hits (x.2.2.1+1):=by rcases hh with q | q <;> rw [q] <;> omega
 have hy:=get_CK h key lo (by omega)
 refine tot_bindE e (tot_bindE (specGet_eq hk hd.sz (by omega) key) ?_)
 simp only [seq_refl,beq_self_eq_true,Bool.and_true,n_t,c_f,bne_self_eq_false]
 refine tot_bindE (specCacheOk_eq hk hy.lo hy.hi hy.len hy.hits hy.keys) ?_
 simp only [n_t,c_f]
 refine tot_no (decF (show ¬ hits<x.2.2.1 from Int.not_lt.2 lo)) (tot_no (decF ?_) (hL _ hy rfl up))
 rw [w64_eq (n:=x.2.2.1+1) (by omega) (by omega)]
 exact Int.not_lt.2 up
theorem caches_all {k:Nat} (hk:2 ^ 50≤k) {code:List Int} (hb:∀ x ∈ code,(0:Int)≤x∧x≤255):laws_FnCaches.f k code=some (true,()):=by
 refine tot_eq ?_
 unfold laws_FnCaches.f laws_FnCaches.t
 have hbig:laws_big.f k code=some (decide ((code.length:Int) > 1048576),()):=rfl
 refine tot_bindE hbig ?_
 refine tot_bif (fun _=>tot_some rfl) fun hbb=>?_
 have hl:code.length≤1048576:=by have:=of_decide_eq_false hbb;omega
 have at_:=fun (i:Int) (h0:0≤i) (h1:i≤1000)=>at_t (k:=k) hl hb h0 h1
 obtain ⟨r3,e3,q3⟩:=at_ 0 (by omega) (by omega)
 have m3:=mod_in (n:=3) q3.1 (by omega)
 refine tot_bind (drawCache_t hk hl) fun r2 lv=>?_
 refine tot_bindE e3 ?_
 have hsz:w64 (1+Int.tmod r3.1 3)=1+Int.tmod r3.1 3:=w64_eq (by omega) (by omega)
 have hnew:impl_CacheNew.f k (1+Int.tmod r3.1 3)=some ((1+Int.tmod r3.1 3,([],(0,()))),()):=by
  unfold impl_CacheNew.f impl_CacheNew.t
  rw [inD_eq,o_s,decT (show (1:Int)≤1+Int.tmod r3.1 3∧1+Int.tmod r3.1 3≤10 from ⟨by omega,by omega⟩)]
  rfl
 have fin:∀ x:Int,x=1+Int.tmod r3.1 3→Tot ((laws_at.f k code 0).bind fun r=>(some ((x==(w64 (1+(Int.tmod r.1 3)))),()))) (fun r=>r=(true,())):=fun x hx=>by
  refine tot_bindE e3 (tot_some ?_)
  rw [hsz,hx,beq_self_eq_true]
 rw [hsz]
 refine tot_bindE hnew ?_
 simp only []
 have pick:∀ {r:Int × Unit},(0≤r.1∧r.1≤255)→0≤Int.tmod r.1 5∧Int.tmod r.1 5<(keysC.length:Int):=fun q=>mod_in q.1 (by omega)
 have L1:∀ (m n:Nat) (i:Int) (x:Ty.den TCache) (st:Ty.den TStore) (d:Ty.den TDisk),0≤i→i+(m:Int)=12→m<n→CK x st d→LV st d→LE.le (α:=Int) x.2.2.1 i→x.1=1+Int.tmod r3.1 3 →
  Tot (laws_FnCaches.l1 k n code i st.1.2.1 st.2.1 st.1.1 st.2.2.1 st.2.2.2.1 st.2.2.2.2.1 d.1 d.2.1 d.2.2.1 d.2.2.2.1 x.1 x.2.1 x.2.2.1 keysC) (fun r=>r=(true,())):=by
  intro m
  induction m with
  | zero =>
   intro n i x st d h0 h1 hn hx hv hh hs
   obtain ⟨n,rfl⟩:∃ q,n=q+1:=⟨n-1,by omega⟩
   simp only [laws_FnCaches.l1,laws_FnCaches.b1]
   exact tot_no (decF (by omega)) (fin _ hs)
  | succ m ih =>
   intro n i x st d h0 h1 hn hx hv hh hs
   obtain ⟨n,rfl⟩:∃ q,n=q+1:=⟨n-1,by omega⟩
   obtain ⟨⟨z,hz⟩,hei⟩:=id hv
   have hd:DR d:=hz.disk
   have h60:st.1.2.1.length≤60:=hz.ids
   have hdir:st.2.1.length≤268435456:=hz.dir
   have w1:w64 (i+1)=i+1:=w64_eq (by omega) (by omega)
   have w2:w64 (i+2)=i+2:=w64_eq (by omega) (by omega)
   simp only [laws_FnCaches.l1,laws_FnCaches.b1,w1,w2]
   refine tot_yes (decT (by omega)) (tot_bind (at_ (i+1) (by omega) (by omega)) fun r12 q12=>tot_bif (fun _=>?_) (fun _=>?_))
   · refine tot_bind (at_ i (by omega) (by omega)) fun r13 q13=>tot_inb (pick q13).1 (pick q13).2 ?_
     refine tot_bindE (specCommit_eq hk (st:=st) (d:=d) hd.sz (by omega) (by omega) (by simp)) ?_
     refine tot_bind (at_ (i+2) (by omega) (by omega)) fun r15 q15=>tot_inb (pick q15).1 (pick q15).2 ?_
     have hv':=commit_LV [((List.getD keysC (Int.toNat (Int.tmod r13.1 5)) (Ty.dflt .str)),(false,((⟨#[118]⟩:ByteArray),())))] hv
     have hx':=commit_CK hx hz hei [((List.getD keysC (Int.toNat (Int.tmod r13.1 5)) (Ty.dflt .str)),(false,((⟨#[118]⟩:ByteArray),())))]
     exact get_step hk hx' hv' (by omega) _ (L:=fun y=>laws_FnCaches.l1 k n code (i+1) _ _ _ _ _ _ _ _ _ _ y.1 y.2.1 y.2.2.1 keysC) fun y hy e1 e2=>ih n (i+1) y _ _ (by omega) (by omega) (by omega) hy hv' (by omega) (e1.trans hs)
   · refine tot_bind (at_ (i+2) (by omega) (by omega)) fun r15 q15=>tot_inb (pick q15).1 (pick q15).2 ?_
     exact get_step hk hx hv (by omega) _ (L:=fun y=>laws_FnCaches.l1 k n code (i+1) st.1.2.1 st.2.1 st.1.1 st.2.2.1 st.2.2.2.1 st.2.2.2.2.1 d.1 d.2.1 d.2.2.1 d.2.2.2.1 y.1 y.2.1 y.2.2.1 keysC) fun y hy e1 e2=>ih n (i+1) y st d (by omega) (by omega) (by omega) hy hv (by omega) (e1.trans hs)
 have L2:∀ (m n:Nat) (i:Int) (x:Ty.den TCache) (st:Ty.den TStore) (d:Ty.den TDisk),0≤i→i+(m:Int)=12→m<n→CK x st d→LV st d→LE.le (α:=Int) x.2.2.1 i→x.1=1+Int.tmod r3.1 3 →
  Tot (laws_FnCaches.l2 k n code i st.1.1 st.1.2.1 st.2.1 st.2.2.1 st.2.2.2.1 st.2.2.2.2.1 d.1 d.2.1 d.2.2.1 d.2.2.2.1 x.1 x.2.1 x.2.2.1 keysC) (fun r=>r=(true,())):=by
  intro m
  induction m with
  | zero =>
   intro n i x st d h0 h1 hn hx hv hh hs
   obtain ⟨n,rfl⟩:∃ q,n=q+1:=⟨n-1,by omega⟩
   simp only [laws_FnCaches.l2,laws_FnCaches.b2]
   exact tot_no (decF (by omega)) (fin _ hs)
  | succ m ih =>
   intro n i x st d h0 h1 hn hx hv hh hs
   obtain ⟨n,rfl⟩:∃ q,n=q+1:=⟨n-1,by omega⟩
   obtain ⟨⟨z,hz⟩,hei⟩:=id hv
   have hd:DR d:=hz.disk
   have h60:st.1.2.1.length≤60:=hz.ids
   have hdir:st.2.1.length≤268435456:=hz.dir
   have w1:w64 (i+1)=i+1:=w64_eq (by omega) (by omega)
   have w2:w64 (i+2)=i+2:=w64_eq (by omega) (by omega)
   simp only [laws_FnCaches.l2,laws_FnCaches.b2,w1,w2]
   refine tot_yes (decT (by omega)) (tot_bind (at_ (i+1) (by omega) (by omega)) fun r12 q12=>tot_bif (fun _=>?_) (fun _=>?_))
   · refine tot_bind (at_ i (by omega) (by omega)) fun r13 q13=>tot_inb (pick q13).1 (pick q13).2 ?_
     refine tot_bindE (specCommit_eq hk (st:=st) (d:=d) hd.sz (by omega) (by omega) (by simp)) ?_
     refine tot_bind (at_ (i+2) (by omega) (by omega)) fun r15 q15=>tot_inb (pick q15).1 (pick q15).2 ?_
     have hv':=commit_LV [((List.getD keysC (Int.toNat (Int.tmod r13.1 5)) (Ty.dflt .str)),(false,((⟨#[118]⟩:ByteArray),())))] hv
     have hx':=commit_CK hx hz hei [((List.getD keysC (Int.toNat (Int.tmod r13.1 5)) (Ty.dflt .str)),(false,((⟨#[118]⟩:ByteArray),())))]
     exact get_step hk hx' hv' (by omega) _ (L:=fun y=>laws_FnCaches.l1 k n code (i+1) _ _ _ _ _ _ _ _ _ _ y.1 y.2.1 y.2.2.1 keysC) fun y hy e1 e2=>L1 m n (i+1) y _ _ (by omega) (by omega) (by omega) hy hv' (by omega) (e1.trans hs)
   · refine tot_bind (at_ (i+2) (by omega) (by omega)) fun r15 q15=>tot_inb (pick q15).1 (pick q15).2 ?_
     exact get_step hk hx hv (by omega) _ (L:=fun y=>laws_FnCaches.l2 k n code (i+1) st.1.1 st.1.2.1 st.2.1 st.2.2.1 st.2.2.2.1 st.2.2.2.2.1 d.1 d.2.1 d.2.2.1 d.2.2.2.1 y.1 y.2.1 y.2.2.1 keysC) fun y hy e1 e2=>ih n (i+1) y st d (by omega) (by omega) (by omega) hy hv (by omega) (e1.trans hs)
 obtain ⟨⟨z,hz⟩,hei⟩:=id lv
 have hd:DR r2.2.2.1:=hz.disk
 have h60:r2.2.1.1.2.1.length≤60:=hz.ids
 have hdir:r2.2.1.2.1.length≤268435456:=hz.dir
 have hx:CK (1+Int.tmod r3.1 3,([],(0,()))) r2.2.1 r2.2.2.1:=⟨by show LE.le (α:=Int) 1 (1+Int.tmod r3.1 3);omega,by show LE.le (α:=Int) (1+Int.tmod r3.1 3) 10;omega,by show ((0:Nat):Int)≤1+Int.tmod r3.1 3;omega,Int.le_refl _,by show LE.le (α:=Int) 0 1000;decide,List.Pairwise.nil,fun s hs=>(by cases hs),fun _ s hs=>(by cases hs)⟩
 obtain ⟨n,hn⟩:∃ q,k=q+1:=⟨k-1,by omega⟩
 show Tot (laws_FnCaches.l0 k k code 0 r2.2.1.1.1 r2.2.1.1.2.1 r2.2.1.2.1 r2.2.1.2.2.1 r2.2.1.2.2.2.1 r2.2.1.2.2.2.2.1 r2.2.2.1.1 r2.2.2.1.2.1 r2.2.2.1.2.2.1 r2.2.2.1.2.2.2.1 [] (1+Int.tmod r3.1 3) 0 keysC) _
 rw [show laws_FnCaches.l0 k k=laws_FnCaches.l0 k (n+1) by rw [← hn]]
 simp only [laws_FnCaches.l0,laws_FnCaches.b0]
 have w1:w64 (0+1)=1:=by decide
 have w2:w64 (0+2)=2:=by decide
 rw [w1,w2]
 refine tot_yes (by decide) (tot_bind (at_ 1 (by omega) (by omega)) fun r12 q12=>tot_bif (fun _=>?_) (fun _=>?_))
 · refine tot_bind (at_ 0 (by omega) (by omega)) fun r13 q13=>tot_inb (pick q13).1 (pick q13).2 ?_
   refine tot_bindE (specCommit_eq hk (st:=r2.2.1) (d:=r2.2.2.1) hd.sz (by omega) (by omega) (by simp)) ?_
   refine tot_bind (at_ 2 (by omega) (by omega)) fun r15 q15=>tot_inb (pick q15).1 (pick q15).2 ?_
   have hv':=commit_LV [((List.getD keysC (Int.toNat (Int.tmod r13.1 5)) (Ty.dflt .str)),(false,((⟨#[118]⟩:ByteArray),())))] lv
   have hx':=commit_CK hx hz hei [((List.getD keysC (Int.toNat (Int.tmod r13.1 5)) (Ty.dflt .str)),(false,((⟨#[118]⟩:ByteArray),())))]
   exact get_step hk hx' hv' (by show LE.le (α:=Int) 0 500;decide) _ (L:=fun y=>laws_FnCaches.l1 k n code 1 _ _ _ _ _ _ _ _ _ _ y.1 y.2.1 y.2.2.1 keysC) fun y hy e1 e2=>L1 11 n 1 y _ _ (by omega) (by omega) (by omega) hy hv' e2 e1
 · refine tot_bind (at_ 2 (by omega) (by omega)) fun r15 q15=>tot_inb (pick q15).1 (pick q15).2 ?_
   exact get_step hk hx lv (by show LE.le (α:=Int) 0 500;decide) _ (L:=fun y=>laws_FnCaches.l2 k n code 1 r2.2.1.1.1 r2.2.1.1.2.1 r2.2.1.2.1 r2.2.1.2.2.1 r2.2.1.2.2.2.1 r2.2.1.2.2.2.2.1 r2.2.2.1.1 r2.2.2.1.2.1 r2.2.2.1.2.2.1 r2.2.2.1.2.2.2.1 y.1 y.2.1 y.2.2.1 keysC) fun y hy e1 e2=>L2 11 n 1 y _ _ (by omega) (by omega) (by omega) hy lv e2 e1
theorem fnCaches_pure:∀ x,Wf (tup [.slice (.int .u8)]) x→∃ k r,laws_FnCaches.f k x.1=some r∧sndT (B:=[.bool]) (outT ([.val (.slice (.int .u8))])) r=(true,()):=by
 rintro ⟨a0,_⟩ ⟨f0,_⟩
 suffices Ev (fun k=>laws_FnCaches.f k a0) (true,()) by
  obtain ⟨k,h⟩:=this.some
  exact ⟨k,(true,()),h,rfl⟩
 have hb:∀ x ∈ a0,(0:Int)≤x∧x≤255:=fun x hx=>by
  have h1:(Lit.int .u8 x).wf=true:=f0.2 x hx
  have h2:(0:Int)≤x∧x≤(255:Int):=by simpa [Lit.wf,IntKind.min,IntKind.max,IntKind.bits,IntKind.signed] using h1
  exact h2
 exact ev_big fun k hk=>caches_all hk hb
end Go.Proofs.YtmakghhmpgfboaaGreatDoor.G
