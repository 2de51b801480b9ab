/- Plain laws, merged; what is proved here is told ahead of each part. -/
import Derived.Test.YtaaincbnjkmapaaGreatDoorZS3
set_option linter.unusedVariables false
set_option linter.unusedSimpArgs false
namespace Go.Proofs.YtaaincbnjkmapaaGreatDoor.G
open Go.V
theorem qa (st:pf) {s:Ty.d aH} {a:Ty.d aK} (h9:(s.1==9&&a.1==0)=false) (hr:decide ((1:Int)≤s.1∧s.1≤6)=false):eT st s a=st:=by unfold eT;rw [h9,hr,Bool.and_false];rfl
theorem Em (st:pf) (s:Ty.d aH) {a:Ty.d aK} (h:a.1=(4:Int)∨a.1=(6:Int)):eT st s a=st:=by
 have c0:(a.1==0)=false:=by rcases h with q | q <;> rw [q] <;> rfl
 have c8:(a.1==8)=false:=by rcases h with q | q <;> rw [q] <;> rfl
 have c46:(!(a.1==4)&&!(a.1==6))=false:=by rcases h with q | q <;> rw [q] <;> rfl
 unfold eT mc jz oH qU s8;rw [c0,c8,c46];simp only [Bool.and_false,Bool.or_false,aJ];cases decide ((0:Int)≤s.2.1∧s.2.1≤2)&&decide ((1:Int)≤s.1∧s.1≤6) with
 | false=>rfl
 | true=>cases (kI st.2.2 s).1 <;> rfl
theorem BG {m:Ty.d bB} (hl:m.2.2.2.1.length=3) {i:Int} (h:i.toNat<3) (t:Ty.d aV) (j:Nat):si (iZ m i t) j=if j=i.toNat then t.2.1 else si m j:=by
 unfold si;show ((m.2.2.2.1.set i.toNat t).getD j _).2.1=_;by_cases q:j=i.toNat
 · rw [if_pos q,q,kQ (by omega)]
 · rw [if_neg q,iW q]
theorem AJ {n:ir} (hl:n.length=3) {i:Nat} (h:i<3) (x:Ty.d au) (j:Nat):sA (n.set i x) j=if j=i then x else sA n j:=by
 unfold sA;by_cases q:j=i
 · rw [if_pos q,q];simp only [List.getD];rw [List.getElem?_set_self (by omega)];rfl
 · rw [if_neg q];simp only [List.getD];rw [List.getElem?_set_ne (Ne.symm q)]
section
variable {m:Ty.d bB} {st:pf} (hw:MW m) (h:SE m st)
include hw h
theorem SE.put {i:Int} (hi:i.toNat<3) {t:Ty.d aV} {x:Ty.d au} {b:List (Ty.d aV)} (hr:RJ m t.2.1 x):SE (iZ m i t) (st.1,(st.2.1.set i.toNat x,b)):=by
 refine ⟨(List.length_set ..).trans h.nl,h.mp,h.ok,h.b1,h.bt,fun j=>?_⟩;rw [BG hw.len hi];show RJ _ _ (sA (st.2.1.set i.toNat x) j);rw [AJ h.nl hi];by_cases q:j=i.toNat
 · rw [if_pos q,if_pos q];exact hr.same (m:=m) (m':=iZ m i t) rfl rfl
 · rw [if_neg q,if_neg q];exact (h.rj j).same (m:=m) (m':=iZ m i t) rfl rfl
theorem SE.keep {i:Int} (hi:i.toNat<3) {t:Ty.d aV} (ht:t.2.1=(lJ m i).2.1) {b:List (Ty.d aV)}:SE (iZ m i t) (st.1,(st.2.1,b)):=by
 refine ⟨h.nl,h.mp,h.ok,h.b1,h.bt,fun j=>?_⟩;rw [BG hw.len hi];by_cases q:j=i.toNat
 · rw [if_pos q,ht,q];exact (h.rj i.toNat).same (m:=m) (m':=iZ m i t) rfl rfl
 · rw [if_neg q];exact (h.rj j).same (m:=m) (m':=iZ m i t) rfl rfl
end
theorem SE.book {m:Ty.d bB} {st:pf} (h:SE m st) (b:List (Ty.d aV)):SE m (st.1,(st.2.1,b)):=⟨h.nl,h.mp,h.ok,h.b1,h.bt,h.rj⟩
theorem SE.txns {m m':Ty.d bB} {st:pf} (h:SE m st) (h1:m'.2.1=m.2.1) (h2:@Eq Int m'.2.2.1 m.2.2.1) (h3:m'.2.2.2.1=m.2.2.2.1):SE m' st :=
 ⟨h.nl,by rw [h1];exact h.mp,h.ok,by have:=h.b1;omega,fun p hp=>by rw [h1] at hp;have:=h.bt p hp;omega,fun j=>by unfold si;rw [h3];exact (h.rj j).same h1 h2⟩
theorem Pw {m:Ty.d bB} {st:pf} (hw:MW m) (hv:MV m) {j:Nat} (hH:HB j st) (hj:j≤1000) (h:SE m st) {s:Ty.d aH} (hi:s.2.1.toNat<3) (h0:LE.le (α:=Int) 0 s.2.1) {b:List (Ty.d aV)} {w:eU} (hww:fZ w=fZ (lJ m s.2.1).2.2.1) :
 SE (tC (iZ m s.2.1 jZ) (lJ m s.2.1)).1 (bif (tC (iZ m s.2.1 jZ) (lJ m s.2.1)).2.1==0 then (st.1++[(s.2.1,((o9 st.2.1 s).2.1,((o9 st.2.1 s).2.2.1,(fZ w,()))))],(st.2.1.set s.2.1.toNat (FT s.2.1),b)) else (st.1,(st.2.1.set s.2.1.toNat (FT s.2.1),b))):=by
 have hz:SE (iZ m s.2.1 jZ) (st.1,(st.2.1.set s.2.1.toNat (FT s.2.1),b)):=h.put hw hi (RJ.empty s.2.1);have ht:TV (lJ m s.2.1):=wz hv.txn (Int.toNat s.2.1);have hn:=sv (lJ m s.2.1).2.2.1;have ht2:=ht.2;have hnow:=hH.now s;have hmap:=hv.map;unfold tC;cases hva:lG (lJ m s.2.1).2.1 (uX (iZ m s.2.1 jZ).2.1) with
 | false=>exact hz
 | true =>
  have hs:Fc (nS st.1) (s.2.1,((o9 st.2.1 s).2.1,((o9 st.2.1 s).2.2.1,(fZ w,()))))∧Q2 (nS st.1) (s.2.1,((o9 st.2.1 s).2.1,((o9 st.2.1 s).2.2.1,(fZ w,())))):=by
   rw [h.mp];refine ⟨(h.rj s.2.1.toNat).sees h.bt hva,?_,?_,?_,?_⟩
   · unfold nF;rw [List.length_map];exact hmap
   · show (o9 st.2.1 s).2.1.length≤1000;omega
   · show (o9 st.2.1 s).2.2.1.length≤1000;omega
   · show (fZ w).length≤50;rw [hww];omega
  simp only [fw,aJ];cases c:((fZ (lJ m s.2.1).2.2.1).length:Int)==0 with
  | true =>have e:fZ (lJ m s.2.1).2.2.1=[]:=List.length_eq_zero_iff.1 (by have:=yd c;omega);refine ⟨hz.nl,?_,yI h.ok hs,hz.b1,hz.bt,hz.rj⟩;show nS (st.1++[_])=_;rw [tf];show gI (nS st.1) (fZ w) 0=_;rw [hww,e];exact h.mp
  | false =>
   simp only [aJ];cases decide (((gI (iZ m s.2.1 jZ).2.1 (fZ (lJ m s.2.1).2.2.1) (iZ m s.2.1 jZ).2.2.1).length:Int) > 20) with
   | true=>exact hz
   | false =>
    simp only [aJ];cases cb:decide ((iZ m s.2.1 jZ).2.2.1 > 1000000) with
    | true=>exact hz
    | false =>
     have cb:=of_decide_eq_false cb;have hb1:=h.b1;have cb:¬ GT.gt (α:=Int) m.2.2.1 1000000:=cb;have ew:aQ (m.2.2.1+1)=m.2.2.1+1:=aF (by omega) (by omega);have lt:LT.lt (α:=Int) m.2.2.1 (aQ (m.2.2.1+1)):=by rw [ew];omega
     refine ⟨hz.nl,?_,yI h.ok hs,?_,fun p hp=>?_,fun j=>?_⟩
     · show nS (st.1++[_])=_;rw [tf];show gI (nS st.1) (fZ w) 0=nF (gI m.2.1 (fZ (lJ m s.2.1).2.2.1) m.2.2.1);rw [C7,hww,h.mp]
     · show LE.le (α:=Int) 1 (aQ (m.2.2.1+1));omega
     · have this:LE.le (α:=Int) 1 p.2.2.1∧LE.le (α:=Int) p.2.2.1 m.2.2.1:=Cd hb1 (fZ (lJ m s.2.1).2.2.1) (l:=m.2.1) (fun p hp=>by have:=h.bt p hp;omega) p hp;show LE.le (α:=Int) 1 p.2.2.1∧LT.lt (α:=Int) p.2.2.1 (aQ (m.2.2.1+1));omega
     · refine RJ.fold (m:=iZ m s.2.1 jZ) (m':=((iZ m s.2.1 jZ).1,(gI (iZ m s.2.1 jZ).2.1 (fZ (lJ m s.2.1).2.2.1) (iZ m s.2.1 jZ).2.2.1,(aQ ((iZ m s.2.1 jZ).2.2.1+1),(iZ m s.2.1 jZ).2.2.2)))) (w:=fZ (lJ m s.2.1).2.2.1) (b:=m.2.2.1) rfl rfl lt (hz.rj j)
theorem Jo {rows:List (Ty.d dK)} {key:ByteArray} {b:Int} (h:lN rows key=some b):∃ r ∈ rows,r.1=key∧@Eq Int r.2.1 b:=by unfold lN at h;rw [Option.map_eq_some_iff] at h;obtain ⟨r,h1,h2⟩:=h;have h3:=List.find?_some h1;exact ⟨r,List.mem_of_find?_eq_some h1,db.1 h3,h2⟩
theorem Jy {t:Ty.d aV} {key:ByteArray} {b:Int} (h:((gZ t key b).2 != 0)=false):(∀ r ∈ t.2.1,r ∈ (gZ t key b).1.2.1)∧(∀ r ∈ (gZ t key b).1.2.1,r ∈ t.2.1∨@Eq Int r.2.1 b)∧∃ r ∈ (gZ t key b).1.2.1,r.1=key∧@Eq Int r.2.1 b:=by
 revert h;unfold gZ;cases !t.1 with
 | true=>exact fun h=>by cases h
 | false =>
  cases !gB key with
  | true=>exact fun h=>by cases h
  | false =>
   simp only [aJ];cases c:lN t.2.1 key with
   | some b' =>
    simp only [];cases d:b' != b with
    | true=>exact fun h=>by cases h
    | false =>
     intro _;obtain ⟨r,h1,h2,h3⟩:=Jo c;have e:b'=b:=by simpa using d
     exact ⟨fun r hr=>hr,fun r hr => .inl hr,r,h1,h2,h3.trans e⟩
   | none =>
    simp only [];cases decide ((t.2.1.length:Int)≥20) with
    | true=>exact fun h=>by cases h
    | false =>
     intro _;refine ⟨fun r hr=>List.mem_append_left _ hr,fun r hr=>?_,(key,(b,())),List.mem_append_right _ il,rfl,rfl⟩;rcases List.mem_append.1 hr with q | q
     · exact .inl q
     · rw [List.mem_singleton.1 q];exact .inr rfl
theorem ID (t:Ty.d aV) (key:ByteArray) (b:Int):((gZ t key b).2==8)=false∧(((gZ t key b).2 != 0)=true→((gZ t key b).2==0)=false):=by
 refine ⟨?_,fun h=>?_⟩
 · unfold gZ;cases !t.1 with
   | true=>rfl
   | false =>
    cases !gB key with
    | true=>rfl
    | false =>
     simp only [aJ];cases lN t.2.1 key with
     | some b'=>simp only [];cases b' != b <;> rfl
     | none=>simp only [];cases decide ((t.2.1.length:Int)≥20) <;> rfl
 · unfold bne at h;cases c:(gZ t key b).2==0 with
   | true=>rw [c] at h;cases h
   | false=>rfl
theorem OK {m:Ty.d bB} {st:pf} (hw:MW m) (hv:MV m) {j:Nat} (hH:HB j st) (hj:j≤1000) (hb:BK m st.2.2) (h:SE m st) (s:Ty.d aH):SE (jP m s).1 (eT st s (jP m s).2):=by
 have hbl:st.2.2.length=3:=hb.len.trans hw.len;unfold jP;cases c10:s.1==10 with
 | true =>
  have ho:=nv c10 (by decide);have h9:∀ a:Ty.d aK,(s.1==9&&a.1==0)=false:=fun a=>by rw [b_ c10 (c:=9) (by decide)];rfl
  simp only [aa];cases up:m.1 with
  | true =>rw [aa,qa st (h9 _) ho];exact h
  | false =>rw [aJ,qa st (h9 _) ho];exact h.txns rfl rfl (hw.dn up).symm
 | false =>
  simp only [aJ];cases c11:s.1==11 with
  | true =>simp only [aa];rw [qa st (by rw [b_ c11 (c:=9) (by decide)];rfl) (nv c11 (by decide))];exact h
  | false =>
   simp only [aJ];cases up:m.1 with
   | false =>simp only [ue,aa];rw [Em st s (.inr rfl)];exact h
   | true =>
    simp only [fw,aJ];cases c7:s.1==7 with
    | true =>simp only [aa];rw [qa st (by rw [b_ c7 (c:=9) (by decide)];rfl) (nv c7 (by decide))];exact h
    | false =>
     simp only [aJ];cases c8:s.1==8 with
     | true =>simp only [aa];rw [qa st (by rw [b_ c8 (c:=9) (by decide)];rfl) (nv c8 (by decide))];exact h
     | false =>
      simp only [aJ];cases c9:s.1==9 with
      | true =>
       simp only [aa];have e:eT st s (jH 0)=(st.1,(List.replicate 3 (Ty.z au),List.replicate 3 (Ty.z aV))):=by unfold eT;rw [c9];rfl
       rw [e];refine ⟨rfl,h.mp,h.ok,h.b1,h.bt,fun j=>?_⟩;have e1:si ((false,(m.2.1,(m.2.2.1,(List.replicate 3 (Ty.z aV),())))):Ty.d bB) j=[]:=by unfold si;show ((List.replicate 3 (Ty.z aV)).getD j (Ty.z aV)).2.1=[];exact o6 (P:=fun t:Ty.d aV=>t.2.1=[]) (fun x hx=>by rw [List.eq_of_mem_replicate hx];rfl) rfl j
       have e2:sA (List.replicate 3 (Ty.z au)) j=Ty.z au:=o6 (P:=fun t:Ty.d au=>t=Ty.z au) (fun x hx=>List.eq_of_mem_replicate hx) rfl j;rw [e1];show RJ _ [] (sA (List.replicate 3 (Ty.z au)) j);rw [e2];exact RJ.z
      | false =>
       simp only [aJ];cases hf:wu m s with
       | false =>simp only [ue,aa];rw [Em st s (.inl rfl)];exact h
       | true =>
        simp only [fw,aJ];unfold wu at hf;rw [iE,iE,decide_eq_true_eq,decide_eq_true_eq] at hf;obtain ⟨⟨r0,r1⟩,hk,hop⟩:=hf;have hlen:=hw.len;have r1':LE.le (α:=Int) s.2.1 2:=by have r1:LE.le (α:=Int) s.2.1 ((m.2.2.2.1.length:Int)-1):=r1;rw [hlen] at r1;omega
        have r0':LE.le (α:=Int) 0 s.2.1:=r0;have hi:s.2.1.toNat<3:=by omega
        have hrg:(decide ((0:Int)≤s.2.1∧s.2.1≤2)&&decide ((1:Int)≤s.1∧s.1≤6))=true:=by rw [aW ⟨r0,r1'⟩,aW hk];rfl
        have hM:∀ a:Ty.d aK,eT st s a=mc (jz s a.1) st s a:=fun a=>by unfold eT;rw [c9,hrg];rfl
        have hbw:(kI st.2.2 s).2.2.1=(lJ m s.2.1).2.2.1:=hb.wr _;have hbo:(kI st.2.2 s).1=(lJ m s.2.1).1:=hb.open_ _;have hrow:=h.rj s.2.1.toNat;unfold zQ;cases c1:s.1==1 with
        | true =>simp only [aa];rw [hM];unfold mc jz;rw [c1];exact h.put hw hi (t:=(true,([],([],())))) (RJ.empty s.2.1)
        | false =>
         simp only [aJ];cases c6:s.1==6 with
         | true =>simp only [aa];rw [hM];unfold mc jz;rw [c1,c6];exact h.put hw hi (t:=jZ) (RJ.empty s.2.1)
         | false =>
          simp only [aJ];cases c5:s.1==5 with
          | true =>
           simp only [aa];have hc:=Pw hw hv hH hj h hi r0' (b:=st.2.2.set s.2.1.toNat (false,([],([],())))) (w:=(kI st.2.2 s).2.2.1) (by rw [hbw]);obtain ⟨k4,k6⟩:=Fs (iZ m s.2.1 jZ) (lJ m s.2.1);rw [hM];unfold mc jz;rw [c1,c6,c5,k4,k6];revert hc;cases (tC (iZ m s.2.1 jZ) (lJ m s.2.1)).2.1==0 with
           | true=>exact fun hc=>hc
           | false=>exact fun hc=>hc
          | false =>
           have hop':(lJ m s.2.1).1=true:=by
            rw [c1] at hop;cases q:(lJ m s.2.1).1 with
            | true=>rfl
            | false=>rw [q] at hop;cases hop
           have h4:∀ a:Ty.d aK,eT st s a=oH (s.1==2&&(!(kE st.2.2 s)&&a.1==0)) st s a:=fun a=>by rw [hM];unfold mc jz;rw [c1,c6,c5,hbo,hop'];rfl
           simp only [aJ];cases c2:s.1==2 with
           | true =>
            simp only [aa];have c34:(s.1==3||s.1==4)=false:=by rw [b_ c2 (c:=3) (by decide),b_ c2 (c:=4) (by decide)];rfl
            have h5:∀ a:Ty.d aK,(a.1==0)=false→(a.1==8)=false→eT st s a=st:=fun a q0 q8=>by rw [h4,q0];unfold oH qU s8;rw [q8,q0,c34];simp only [Bool.and_false,Bool.false_and,aJ]
            have h6:kE st.2.2 s=true→∀ a:Ty.d aK,eT st s a=st:=fun q a=>by rw [h4,q];unfold oH qU s8;rw [q,c34];simp only [Bool.and_false,Bool.false_and,fw,aJ]
            have hwr:kE st.2.2 s=(uY (ll (lJ m s.2.1).2.2.1 s.2.2.1)).2.1:=by unfold kE;rw [hbw]
            unfold yJ;cases gB s.2.2.1 with
            | false =>simp only [ue,aa];rw [Em st s (.inl rfl)];exact h
            | true =>
             simp only [fw,aJ];cases co:ll (lJ m s.2.1).2.2.1 s.2.2.1 with
             | some p =>
              rw [co] at hwr;simp only [];cases p.2.1 with
              | true=>rw [aa,h6 hwr];exact h
              | false=>rw [aJ,h6 hwr];exact h
             | none =>
              rw [co] at hwr;have hwr:kE st.2.2 s=false:=hwr;simp only [];unfold DJ;have rc:=ID (lJ m s.2.1) s.2.2.1 (bK m.2.1 s.2.2.1).1.2.2.1;cases cr:(gZ (lJ m s.2.1) s.2.2.1 (bK m.2.1 s.2.2.1).1.2.2.1).2 != 0 with
              | true =>simp only [aa];rw [h5 _ (rc.2 cr) rc.1];exact h
              | false =>
               simp only [aJ];obtain ⟨g1,g2,g3⟩:=Jy cr;have nb:=h.b1;have hlt:LT.lt (α:=Int) (bK m.2.1 s.2.2.1).1.2.2.1 m.2.2.1:=by
                by_cases c:(bK m.2.1 s.2.2.1).2=(0:Int)
                · exact (h.bt _ (vP c).1).2
                · rw [mW c];show LT.lt (α:=Int) 0 m.2.2.1;omega
               have lt':∀ r ∈ (gZ (lJ m s.2.1) s.2.2.1 (bK m.2.1 s.2.2.1).1.2.2.1).1.2.1,LT.lt (α:=Int) r.2.1 m.2.2.1:=fun r hr=>by
                rcases g2 r hr with q | q
                · exact hrow.lt r q
                · omega
               have rd':∀ q ∈ (o9 st.2.1 s).2.1,∃ r ∈ (gZ (lJ m s.2.1) s.2.2.1 (bK m.2.1 s.2.2.1).1.2.2.1).1.2.1,r.1=q.1∧LE.le (α:=Int) 1 r.2.1∧((bK m.2.1 q.1).2=(0:Int)→@Eq Int (bK m.2.1 q.1).1.2.2.1 r.2.1→(bK m.2.1 q.1).1.2.1=q.2.1):=fun q hq=>by obtain ⟨r,r1,r2⟩:=hrow.rd q hq;exact ⟨r,g1 r r1,r2⟩
               have ms':∀ x ∈ (o9 st.2.1 s).2.2.1,∃ r ∈ (gZ (lJ m s.2.1) s.2.2.1 (bK m.2.1 s.2.2.1).1.2.2.1).1.2.1,r.1=x∧@Eq Int r.2.1 0:=fun x hx=>by obtain ⟨r,r1,r2⟩:=hrow.ms x hx;exact ⟨r,g1 r r1,r2⟩
               obtain ⟨r,r1,r2,r3⟩:=g3;by_cases c:(bK m.2.1 s.2.2.1).2=(0:Int)
               · have hb1:=(h.bt _ (vP c).1).1;rw [h4,hwr,c2,show (((bK m.2.1 s.2.2.1).2,((bK m.2.1 s.2.2.1).1.2.1,([],()))):Ty.d aK).1=0 from c];refine h.put hw hi ⟨lt',fun q hq=>?_,ms'⟩;rcases List.mem_append.1 hq with z | z
                 · exact rd' q z
                 · rw [List.mem_singleton.1 z];exact ⟨r,r1,r2,by omega,fun _ _=>rfl⟩
               · rw [h4];unfold oH qU;rw [hwr,c2,mW c];refine h.put hw hi ⟨?_,?_,fun x hx=>?_⟩
                 · rw [mW c] at lt';exact lt'
                 · rw [mW c] at rd';exact rd'
                 · rw [mW c] at ms' r1 r3;rcases List.mem_append.1 hx with z | z
                   · exact ms' x z
                   · rw [List.mem_singleton.1 z];exact ⟨r,r1,r2,r3⟩
           | false =>
            simp only [aJ];have h7:∀ a:Ty.d aK,∃ b,eT st s a=(st.1,(st.2.1,b)):=fun a=>by
             rw [h4,c2];unfold oH qU s8;rw [c2];simp only [Bool.false_and,aJ];cases (s.1==3||s.1==4)&&a.1==0 with
             | true=>exact ⟨_,rfl⟩
             | false=>exact ⟨st.2.2,rfl⟩
            unfold Bj;cases eF [mA s] with
            | false=>obtain ⟨b,e⟩:=h7 (jH 4);simp only [ue,aa];rw [e];exact h.book b
            | true =>
             simp only [fw,aJ];cases cw:(iJ (lJ m s.2.1) (mA s)).2 with
             | false=>obtain ⟨b,e⟩:=h7 (jH 5);simp only [ue,aa];rw [e];exact h.book b
             | true =>
              obtain ⟨b,e⟩:=h7 (jH 0);simp only [fw,aJ];rw [e];refine h.keep hw hi ?_;unfold iJ;cases !(lJ m s.2.1).1 with
              | true=>rfl
              | false =>
               cases !eF [mA s] with
               | true=>rfl
               | false =>
                simp only [aJ];cases decide (((fZ ((lJ m s.2.1).2.2.1++[mA s])).length:Int) > 8) with
                | true=>rfl
                | false =>simp only [aJ];cases decide ((((lJ m s.2.1).2.2.1++[mA s]).length:Int) > 50) <;> rfl
theorem QA:SE nw rq:=by
 refine ⟨rfl,rfl,fun o1 h o2 e=>?_,Int.le_refl _,fun p hp=>(by cases hp),fun j=>?_⟩
 · have:=congrArg List.length e;rw [nE,j7] at this;have:0=o1.length+(o2.length+1):=this;omega
 · have e1:si nw j=[]:=o6 (P:=fun t:Ty.d aV=>t.2.1=[]) (fun x hx=>by rw [List.eq_of_mem_replicate hx];rfl) rfl j;have e2:sA rq.2.1 j=Ty.z au:=o6 (P:=fun t:Ty.d au=>t=Ty.z au) (fun x hx=>List.eq_of_mem_replicate hx) rfl j;rw [e1,e2];exact RJ.z
theorem M9:∀ (l:List (Ty.d aH)) {m:Ty.d bB} {st:pf} {j:Nat},MW m→AL MV m l→HB j st→j+l.length≤1000→BK m st.2.2→SE m st→SE (fm m l).1 (rl st l (fm m l).2)
 | [],m,st,j,hw,hv,hH,hj,hb,h=>h
 | s::l,m,st,j,hw,hv,hH,hj,hb,h=>by rw [j7] at hj;have hv:MV m∧AL MV (jP m s).1 l:=hv;obtain ⟨b1,b2⟩:=Cu hw hb s;exact M9 l b2 hv.2 (Gz hH s (jP m s).2) (by omega) (by rw [CY];exact b1) (OK hw hv.1 hH (by omega) hb h s)
theorem zk {l:List (Ty.d aV)} {i:Nat} (h:i<l.length):l.set i (l.getD i (Ty.z aV))=l:=by
 have e:l.getD i (Ty.z aV)=l[i]:=by simp [List.getD,h]
 rw [e,List.set_getElem_self]
theorem D4 {e:Ty.d bF} {i:Int} (h0:LE.le (α:=Int) 0 i) (h1:LT.lt (α:=Int) i (e.2.2.2.1.length:Int)):ye e i (iF e i)=e:=by unfold ye iF;rw [zk (by omega)]
theorem Kt {t:Ty.d aV} {key:ByteArray} {b:Int} (h:((gZ t key b).2 != 0)=true):(gZ t key b).1=t:=by
 unfold gZ at h ⊢;cases c1:!t.1 with
 | true=>rfl
 | false =>
  cases c2:!gB key with
  | true=>rfl
  | false =>
   rw [c1,c2] at h;simp only [aJ] at h ⊢;cases c:lN t.2.1 key with
   | some b'=>rfl
   | none =>
    rw [c] at h;simp only [] at h ⊢;cases d:decide ((t.2.1.length:Int)≥20) with
    | true=>rfl
    | false=>rw [d] at h;cases h
theorem HL {t:Ty.d aV} {p:Ty.d aM} (h:(iJ t p).2=false):(iJ t p).1=t:=by
 unfold iJ at h ⊢;cases c1:!t.1 with
 | true=>rfl
 | false =>
  cases c2:!eF [p] with
  | true=>rfl
  | false =>
   cases c3:decide (((fZ (t.2.2.1++[p])).length:Int) > 8) with
   | true=>rfl
   | false =>
    cases c4:decide (((t.2.2.1++[p]).length:Int) > 50) with
    | true=>rfl
    | false=>rw [c1,c2,c3,c4] at h;cases h
theorem Io (g:Ty.d aA→RD) (q:RD):wk g (tl q)=tl (fD q g):=by
 have e:=iO q.2;unfold wk fD tl;simp only [];rw [e];cases c:q.2==0 with
 | true=>rfl
 | false=>rfl
theorem H2 (c:Int):(gh c==2)=(c==2):=by
 unfold gh;by_cases c0:c=0
 · subst c0;rfl
 by_cases c1:c=1
 · subst c1;rfl
 by_cases c2:c=2
 · subst c2;rfl
 rw [qi c0,qi c1,qi c2];rfl
def AF (m:Int):ja→Int→aR
 | [],_=>[]
 | r::l,a=>(bif r.1==4 then [(r.2.2.1,(m,(a,(ar r,(r.2.1,())))))] else [])++AF m l (a+ar r)
theorem y7 (m:Int) (mk:Ty.d bf) (hm:mk.1=5):∀ (l:bV) (a:Int),AF m (l.map cJ++[mk]) a=ic m l a
 | [],a=>by show (bif mk.1==4 then [_] else [])++[]=_;rw [hm];rfl
 | p::l,a=>by show [_]++AF m (l.map cJ++[mk]) (a+ar (cJ p))=_;rw [y7 m mk hm l];rfl
theorem Bt {k:Nat} (hk:2 ^ 50≤k) {d:Ty.d aA} (hd:DR d) (m:Int) (hm0:1≤m) (hm1:m≤99999) {rs:ja} (hr:rs.length≤1000):bG.f k (wO (d,0)) m rs =
 some (wO (tl (fD (fD (BR (a_ aG m) rs (ax (a_ aG m) d)) fun y=>dY y (a_ aG m)) (ax (a_ aG (m+1))))),(AF m rs 0,())):=by
 have hz:=H8 m;have hz1:=H8 (m+1);unfold bG.f bG.t;rw [ch,ac];simp only [];rw [rN hk (d,0) hd (by omega),ac,oJ];simp only [];refine fj (L:=fun n i (s:RD × Int × aR)=>bG.l0 k n m s.2.1 rs rs.length i s.1.1.1 s.1.1.2.1 s.1.1.2.2.1 s.1.1.2.2.2.1 (gh s.1.2) s.2.2)
  (R:=fun r s=>some (wO (tl (fD (fD (BR (a_ aG m) r s.1) fun y=>dY y (a_ aG m)) (ax (a_ aG (m+1))))),(s.2.2++AF m r s.2.1,()))) (Ty.z bf) rs (fun i s=>DR s.1.1∧0≤s.2.1∧s.2.1≤211*i∧(s.2.2.length:Int)≤i) (fun n s hs=>?_) (fun n i s x rest h0 h1 hx hr' hs ih=>?_) (n:=k) (s:=(ax (a_ aG m) d,0,[])) (by omega) ⟨jF _ _ hd,Int.le_refl _,by show (0:Int)≤211*0;omega,by show (0:Int)≤0;omega⟩
 · obtain ⟨q,a,o⟩:=s;obtain ⟨g1,g2,g3,g4⟩:=hs;simp only [bG.l0,bG.b0];rw [aY (by omega),aJ,ch,ac];simp only [];rw [show ((q.1.1,(q.1.2.1,(q.1.2.2.1,(q.1.2.2.2.1,())))),(gh q.2,()))=wO (tl q) from rfl,ob hk (tl q) g1,ac,Io];simp only [];rw [ch,ac,aF (n:=m+1) (by omega) (by omega)];simp only [];rw [rN hk (tl (fD q fun y=>dY y (a_ aG m))) (jc g1 fun x hx=>mj hx _) (by omega),ac,Io];show _=some (_,(o++[],()));rw [List.append_nil];rfl
 · obtain ⟨q,a,o⟩:=s;obtain ⟨g1,g2,g3,g4⟩:=hs;simp only [] at g1 g2 g3 g4 ih ⊢;have hrl:=mV x;have hln:((aS (aI x)).size:Int)=ar x:=rfl;simp only [bG.l0,bG.b0];rw [aW h1,aa,aT h0 h1,hx,oq hk,ac];simp only [];rw [oL hk,ac];simp only [];rw [ch,ac];simp only [];rw [show ((q.1.1,(q.1.2.1,(q.1.2.2.1,(q.1.2.2.2.1,())))),(gh q.2,()))=wO (tl q) from rfl,xP hk (tl q) g1 _ (by omega),ac,Io];simp only [];have hD:DR (fD q fun y=>jS y (a_ aG m) (aS (aI x))).1:=jc g1 fun y hy=>qs hy _ _
   rw [hln,aF (n:=a+ar x) (by omega) (by omega),aF (n:=i+1) (by omega) (by omega),bn (by omega) (by decide)];have ihT:=ih ((fD q fun y=>jS y (a_ aG m) (aS (aI x))),a+ar x,o++[(x.2.2.1,(m,(a,(ar x,(x.2.1,())))))]) ⟨hD,by simp only [];omega,by simp only [];omega,by simp only [];rw [dt];omega⟩;have ihF:=ih ((fD q fun y=>jS y (a_ aG m) (aS (aI x))),a+ar x,o) ⟨hD,by simp only [];omega,by simp only [];omega,by simp only [];omega⟩;show (bif x.1==4 then _ else _)=some (wO (tl (fD (fD (BR (a_ aG m) rest (fD q fun y=>jS y (a_ aG m) (aS (aI x)))) fun y=>dY y (a_ aG m)) (ax (a_ aG (m+1))))),(o++((bif x.1==4 then [(x.2.2.1,(m,(a,(ar x,(x.2.1,())))))] else [])++AF m rest (a+ar x)),()));cases x.1==4 with
   | true =>rw [aa,aa,← oK];exact ihT
   | false =>rw [aJ,aJ,List.nil_append];exact ihF
theorem Jj (s:ByteArray) (x:Ty.d aA):tl (bj [s] x)=tl (gU s x):=by
 show tl (fD (gU s x) (bj []))=_;unfold fD;cases c:(gU s x).2==0 with
 | true =>rw [pa c];rfl
 | false=>rfl
theorem E8 {k:Nat} (hk:2 ^ 50≤k) {q:RD} (hq:DR q.1) (m:Int):di.f k (wO (tl q)) m=some (wO (tl (fD q (i8 (se m) m))),()):=by
 unfold di.f di.t;rw [show (wO (tl q)).2.1=(tl q).2 from rfl,m4];cases c:q.2 != 0 with
 | true =>rw [aa];unfold fD;rw [show (q.2==0)=false by unfold bne at c;simpa using c];rfl
 | false =>
  have c0:=fJ c;have hu:LE.le (α:=Int) (du q.1.1) 100000:=Int.le_trans hq.use hq.cap1;have hn:=hq.sz.n;have hl:=hq.sz.l;have hz:=lS q.1 (a_ aG m);have hb:(q.2==0)=true:=beq_iff_eq.2 c0;rw [aJ,ch,ac,pa hb];simp only [];rw [show (wO (q.1,0)).1=q.1 from rfl,jY hk (by omega) (by omega) (by omega),ac];simp only [];rw [uN hk m (by omega),ac];simp only [];rw [mH,ac];have hhl:=BN m (s:=(bJ q.1 (a_ aG m)).1) (by omega);rw [oA hk hhl,ac];simp only [];have hsz:=qE (gE m (bJ q.1 (a_ aG m)).1).1;have hhz:(a_ bO m).size≤1099511627776:=by
   unfold a_;by_cases h:(1:Int)≤m∧m≤100000
   · rw [aW h,aa,ByteArray.size_append];have:=nT (n:=m) (by omega) (by omega);have:bO.size=4:=rfl;omega
   · rw [aY h];exact Nat.zero_le _
  rw [zY hk (q.1,0) hq hhz (by omega),ac,oJ];simp only [];unfold fD i8;rw [hb,aa,show se m (bJ q.1 (a_ aG m)).1=fH (gE m (bJ q.1 (a_ aG m)).1).1 from rfl];have hD:=jv (a_ bO m) (fH (gE m (bJ q.1 (a_ aG m)).1).1) q.1 hq;generalize lM (a_ bO m) (fH (gE m (bJ q.1 (a_ aG m)).1).1) q.1=f at hD ⊢;rw [show (wO (tl f)).2.1=gh f.2 from rfl,H2];cases c2:f.2==2 with
  | false=>rfl
  | true =>rw [aa,aa,ac];simp only [];rw [show ((wO (tl f)).1,((0:Int),()))=wO (f.1,0) from rfl,mQ hk (f.1,0) hD,ac,oJ,Jj]
theorem O4 (d:Ty.d aA) (s:ByteArray):(yU d s).2≠2:=by
 unfold yU iQ;have hb:(m6 d).2≠2:=by
  unfold m6;cases !jO d with
  | true=>show (5:Int)≠2;decide
  | false =>
   cases d.2.2.2.1 with
   | true=>show (1:Int)≠2;decide
   | false =>
    cases d.2.2.1==0 with
    | true=>show (1:Int)≠2;decide
    | false=>cases decide ((d.2.2.1:Int) > 0) <;> (show (0:Int)≠2;decide)
 cases (m6 d).2 != 0 with
 | true=>exact hb
 | false =>
  show (v7 s d.1 d.2.1).2≠2;unfold v7;cases (bU d.1 s).isNone with
  | true=>show (3:Int)≠2;decide
  | false=>show (0:Int)≠2;decide
theorem MZ (hb:ByteArray→ByteArray) (m:Int) (d:Ty.d aA):(i8 hb m d).2≠2:=by
 unfold i8;generalize lM (a_ bO m) (hb (bJ d (a_ aG m)).1) d=f;cases c:f.2==2 with
 | false=>exact beq_eq_false_iff_ne.1 c
 | true =>
  show (fD (gU (a_ bO m) f.1) (bj [])).2≠2;have hg:(gU (a_ bO m) f.1).2≠2:=by
   unfold gU;cases (bU f.1.1 (a_ bO m)).isSome with
   | true=>exact O4 _ _
   | false=>show (0:Int)≠2;decide
  unfold fD;cases (gU (a_ bO m) f.1).2==0 with
  | true=>show (0:Int)≠2;decide
  | false=>exact hg
theorem Hv {ns:List ByteArray} {r:RD} (h:(r.2==2)=false):n_ ns r=r:=by unfold n_;rw [h];rfl
theorem FQ (hb:ByteArray→ByteArray) (st:Ty.d aE) (d:Ty.d aA) (l:bV) {a q3 q4:RD} (ea:a=dQ st.1.1 l (st.2.2.1-1) d) (e3:q3=fD (fD a (ax (a_ aG (st.1.1+1)))) (i8 hb st.1.1)) (e4:q4=fD q3 (bE (fu st.1.1))) :
 cS hb st d l=bif q3.2==0 then (bif q4.2 != 0 then (pY st,n_ (lI st.1.1) (tl q4)) else ((fu st.1.1,(ic st.1.1 l 0,(st.2.2.1,(0,(0,()))))),tl (nA st.1.2.1 q4.1))) else (pY st,n_ (lI st.1.1) (tl q3)):=by
 have sz:∀ (r:RD) (f:Ty.d aA→RD),(r.2 != 0)=false→fD r f=f r.1:=fun r f h=>by unfold fD;rw [fJ h];rfl
 have sn:∀ (r:RD) (f:Ty.d aA→RD),(r.2 != 0)=true→fD r f=r:=fun r f h=>by unfold fD;rw [show (r.2==0)=false by unfold bne at h;simpa using h];rfl
 have nz:∀ r:RD,(r.2 != 0)=true→(r.2==0)=false:=fun r h=>by unfold bne at h;simpa using h
 unfold cS;rw [← ea];cases ca:a.2 != 0 with
 | true =>rw [sn a _ ca,sn a _ ca] at e3;rw [e3,nz a ca];rfl
 | false =>
  rw [sz a _ ca] at e3;simp only [aJ];generalize ax (a_ aG (st.1.1+1)) a.1=b at e3 ⊢;cases cb:b.2 != 0 with
  | true =>rw [sn b _ cb] at e3;rw [e3,nz b cb];rfl
  | false =>
   rw [sz b _ cb] at e3;simp only [aJ];have h2:=MZ hb st.1.1 b.1;rw [← e3] at h2 ⊢;cases ce:q3.2 != 0 with
   | true =>rw [nz q3 ce];simp only [aa,aJ];rw [Hv];show (gh q3.2==2)=false;rw [H2];exact qi h2
   | false =>rw [sz q3 _ ce] at e4;rw [← e4,fJ ce];rfl
theorem Bu {k:Nat} (hk:2 ^ 50≤k) {st:Ty.d aE} {d:Ty.d aA} (hl:dz st.1=true) (hd:DR d) (hn:LE.le (α:=Int) (st.1.1+2) 100000) (hb0:LE.le (α:=Int) 1 st.2.2.1) (hb1:LE.le (α:=Int) st.2.2.1 1000001) {l:bV} (hlen:l.length≤900) :
 cT.f k st (d,(0,())) l=some ((cS (se st.1.1) st d l).1,(wO (cS (se st.1.1) st d l).2,())):=by
 obtain ⟨n1,n2,n3,_⟩:=gY (n:=st.1.1) (ids:=st.1.2.1) hl;have h60:st.1.2.1.length≤60:=(bo (nx:=st.1.1) (ids:=st.1.2.1) hl).2.2.2.1;unfold cT.f cT.t;rw [EV hk (by omega),ac,aF (n:=st.2.2.1-1) (by omega) (by omega),aF (n:=st.1.1+2) (by omega) (by omega),aF (n:=st.1.1+1) (by omega) (by omega)];simp only [];have hkl:(fV l (st.2.2.1-1)).length≤1000:=by unfold fV;rw [nE,List.length_map];show l.length+1≤1000;omega
 have em:AF st.1.1 (fV l (st.2.2.1-1)) 0=ic st.1.1 l 0:=y7 st.1.1 _ rfl l 0;rw [show ((d,((0:Int),())):Ty.d am)=wO (d,0) from rfl,Bt hk hd st.1.1 n1 (by omega) hkl,ac,em];simp only [];have ea:(fD (BR (a_ aG st.1.1) (fV l (st.2.2.1-1)) (ax (a_ aG st.1.1) d)) fun y=>dY y (a_ aG st.1.1))=dQ st.1.1 l (st.2.2.1-1) d:=rfl;rw [ea];have a0:DR (dQ st.1.1 l (st.2.2.1-1) d).1:=sM _ _ _ hd;have hq2:DR (fD (dQ st.1.1 l (st.2.2.1-1) d) (ax (a_ aG (st.1.1+1)))).1:=jc a0 fun x hx=>jF _ _ hx
 rw [E8 hk hq2,ac];simp only [];have hq3:DR (fD (fD (dQ st.1.1 l (st.2.2.1-1) d) (ax (a_ aG (st.1.1+1)))) (i8 (se st.1.1) st.1.1)).1:=jc hq2 fun x hx=>by
  unfold i8;cases (lM (a_ bO st.1.1) (se st.1.1 (bJ x (a_ aG st.1.1)).1) x).2==2 with
  | true=>exact k9 _ _ (jv _ _ _ hx)
  | false=>exact jv _ _ _ hx
 rw [FQ (se st.1.1) st d l rfl rfl rfl];generalize fD (fD (dQ st.1.1 l (st.2.2.1-1) d) (ax (a_ aG (st.1.1+1)))) (i8 (se st.1.1) st.1.1)=q3 at hq3 ⊢;rw [show (wO (tl q3)).2.1=gh q3.2 from rfl,iO];have clean:∀ q:RD,DR q.1→((ai.f k st.1.1).bind fun r5=>((ai.f k (st.1.1+1)).bind fun r6=>((dW.f k st.1.1).bind fun r7=>((ae.f k (wO (tl q)) [(⟨#[116,101,109,112]⟩:ByteArray),r5.1,r6.1,r7.1]).bind fun r8=>(some (((st.1.1+2,st.1.2),st.2),r8))))))=(some (pY st,(wO (n_ (lI st.1.1) (tl q)),())):Option (Ty.d aE × Ty.d am × Unit)):=fun q hq=>by rw [ch,ac,ch,ac,mH,ac];simp only [];rw [show [(⟨#[116,101,109,112]⟩:ByteArray),a_ aG st.1.1,a_ aG (st.1.1+1),a_ bO st.1.1]=lI st.1.1 from rfl,xd hk (tl q) hq (l:=lI st.1.1) (show 4≤1000 by decide),ac];rfl
 cases c3:q3.2==0 with
 | false =>
  have c3':(gh q3.2 != 0)=true:=by unfold bne;rw [iO,c3];rfl
  simp only [aJ];rw [c3',aa];exact clean q3 hq3
 | true =>
  simp only [aa];rw [show (((st.1.1+2:Int),([st.1.1,st.1.1+1],())):Ty.d cv)=fu st.1.1 from rfl,qA hk (tl q3) hq3 (v:=fu st.1.1) (show 2≤1073741824 by decide),ac,Io];simp only [];have hq4:DR (fD q3 (bE (fu st.1.1))).1:=jc hq3 fun x hx=>mP _ _ hx
  generalize fD q3 (bE (fu st.1.1))=q4 at hq4 ⊢;rw [show (wO (tl q4)).2.1=(tl q4).2 from rfl,m4];cases c4:q4.2 != 0 with
  | true =>rw [aa,aa];exact clean q4 hq4
  | false =>
   rw [aJ,aJ,pa (beq_iff_eq.2 (fJ c4))];have key:∀ r:RD,DR r.1→cT.l0 k k st.1.2.1.length 0 [st.1.1,st.1.1+1] (ic st.1.1 l 0) (st.1.1+2) st.2.2.1 0 0 r.1.1 r.1.2.1 r.1.2.2.1 r.1.2.2.2.1 r.2 st.1.2.1=some ((fu st.1.1,(ic st.1.1 l 0,(st.2.2.1,(0,(0,()))))),(wO (wk (nA st.1.2.1) r),())):=fun r hr=>by
    refine fj (L:=fun n i (x:RD)=>cT.l0 k n st.1.2.1.length i [st.1.1,st.1.1+1] (ic st.1.1 l 0) (st.1.1+2) st.2.2.1 0 0 x.1.1 x.1.2.1 x.1.2.2.1 x.1.2.2.2.1 x.2 st.1.2.1) (R:=fun q x=>some ((fu st.1.1,(ic st.1.1 l 0,(st.2.2.1,(0,(0,()))))),(wO (wk (nA q) x),()))) (Ty.z (.int .i64)) st.1.2.1 (fun i x=>DR x.1) (fun n x hx=>?_) (fun n i x y rest h0 h1 hy hr' hx ih=>?_) (n:=k) (s:=r) (by omega) hr
    · simp only [cT.l0,cT.b0];rw [aY (by omega),aJ,show nA []=fun d=>(d,0) from rfl,Ds];rfl
    · simp only [cT.l0,cT.b0];rw [aW h1,aa,aT h0 h1,hy,ch,ac];simp only [];rw [show ((x.1.1,(x.1.2.1,(x.1.2.2.1,(x.1.2.2.2.1,())))),(x.2,()))=wO x from rfl,mQ hk x hx,ac,mH,ac];simp only [];rw [mQ hk _ (ru hx (nf _)),ac,aF (n:=i+1) (by omega) (by omega)];have e:wk (nA (y::rest)) x=wk (nA rest) (wk (gU (a_ bO y)) (wk (gU (a_ aG y)) x)):=by
       have e1:nA (y::rest)=fun d=>fD (bj [a_ aG y,a_ bO y] d) (nA rest):=rfl
       rw [e1,rU,yj,yj,show bj []=fun d=>(d,0) from rfl,Ds]
      rw [e];exact ih _ (ru (ru hx (nf _)) (nf _))
   have:=key (q4.1,0) hq4;rw [oJ] at this;exact this
theorem Eu {k:Nat} (hk:2 ^ 50≤k) {st:Ty.d aE} {d:Ty.d aA} (hd:F3 d) (h1:st.1.2.1.length≤1073741824) (h2:st.2.1.length≤536870912):kc.f k st d=some (oS (bv st d)):=by
 have ec:cO.f k st=some (st,()):=by unfold cO.f cO.t dX.f dX.t;rw [bn (by omega) (by decide),ac];unfold cL.f cL.t;rw [bn (by omega) (by decide),ac]
 unfold kc.f kc.t bv;rw [ec,ac];simp only [];rw [gm k hd.l,ac];simp only [];rw [yA hk hd (by omega),ac];simp only [];rw [wc hk hd (by omega) (by omega),ac];simp only [];cases c1:dw st d with
 | false=>rfl
 | true =>
  obtain ⟨g1,g2,g3⟩:=dT c1;obtain ⟨n1,n2,_,_⟩:=gY (n:=st.1.1) (ids:=st.1.2.1) g1.live;simp only [fw,aJ];rw [aF (n:=st.1.1+2) (by omega) (by omega)];by_cases c2:st.1.1+2 > (100000:Int)
  · rw [aW c2];rfl
  · rw [aY c2];simp only [aJ];have hz:=tW st.2.1 d;obtain ⟨b1,b2⟩:=A7 c1;cases c3:(bY st.2.1 d).2 != 0 with
    | true=>rfl
    | false =>simp only [aJ];rw [Bu hk g1.live g1.disk (Int.not_lt.1 c2) b1 b2 (by omega),ac];rfl
structure EW (e:Ty.d bF):Prop where
 ids:e.1=true→e.2.1.1.2.1.length≤1048576
 dir:e.1=true→e.2.1.2.1.length≤268435456
 sz:F3 e.2.2.1
 len:e.2.2.2.1.length≤3
 txn:∀ t ∈ e.2.2.2.1,TV t
 uq:UE e
def Lo (R:Ty.d ga) (q:Bo):Option (Ty.d ga × Ty.d aK × Unit):=some ((q.1,R.2),(q.2,()))
theorem Gf {k:Nat} (hk:2 ^ 50≤k) {R:Ty.d ga} (h:EW R.1) (up:R.1.1=true) {s:Ty.d aH} (h0:LE.le (α:=Int) 0 s.2.1) (h1:LT.lt (α:=Int) s.2.1 (R.1.2.2.2.1.length:Int)):ck.f k R s=Lo R (Kc R.1 s):=by
 have ht:TV (iF R.1 s.2.1):=wz h.txn (Int.toNat s.2.1);have hq:UQ (iF R.1 s.2.1):=Nz h.uq _;have hdir:=h.dir up;have hko:dp.f k s.2.2.1=some (gB s.2.2.1,()):=kf k s.2.2.1;unfold ck.f ck.t Kc;rw [aT h0 h1,hko,ac];simp only [];cases gB s.2.2.1 with
 | false=>rfl
 | true =>
  simp only [fw,aJ];rw [show List.getD R.1.2.2.2.1 (Int.toNat s.2.1) (Ty.z aV)=iF R.1 s.2.1 from rfl];unfold ox.f ox.t;rw [rh hk (by have:=ht.2;omega),ac];cases ll (iF R.1 s.2.1).2.2.1 s.2.2.1 with
  | some p =>simp only [uY,fw,aJ];cases hp:p.2.1 <;> rfl
  | none =>
   simp only [uY,ue,aa,ac,aJ];unfold QM;rw [zP hk h.sz (by omega),ac];simp only [];generalize rB R.1.2.1.2.1 R.1.2.2.1 s.2.2.1=p;cases p.2==3 with
   | true=>rfl
   | false =>
    simp only [aJ];unfold nQ.f nQ.t;rw [Eh hk ht hq,ac];simp only [];cases c:(gZ (iF R.1 s.2.1) s.2.2.1 p.1.2.2.1).2 != 0 with
    | true =>simp only [aa,ac];rw [Kt c];have e1:=D4 h0 h1;unfold ye at e1;exact congrArg (fun x=>some ((x,R.2),_)) e1
    | false=>rfl
theorem GB {k:Nat} (hk:2 ^ 50≤k) {R:Ty.d ga} (h:EW R.1) {s:Ty.d aH} (h0:LE.le (α:=Int) 0 s.2.1) (h1:LT.lt (α:=Int) s.2.1 (R.1.2.2.2.1.length:Int)) :
 ((kg.f k (List.getD R.1.2.2.2.1 (Int.toNat s.2.1) (Ty.z aV)) s).bind fun r5=>(let l6:=(List.set R.1.2.2.2.1 (Int.toNat s.2.1) r5.1);(some (((R.1.1,(R.1.2.1,(R.1.2.2.1,(l6,())))),R.2),r5.2))):Option (Ty.d ga × Ty.d aK × Unit))=Lo R (Jd R.1 s):=by
 have ht:TV (iF R.1 s.2.1):=wz h.txn (Int.toNat s.2.1);have e1:=D4 h0 h1;unfold ye at e1;unfold kg.f kg.t Jd;rw [show List.getD R.1.2.2.2.1 (Int.toNat s.2.1) (Ty.z aV)=iF R.1 s.2.1 from rfl,show ((s.2.2.1,((s.1==4),(s.2.2.2.1,()))):Ty.d aM)=mA s from rfl,Bi hk ht,ac,uP,ac];simp only [];cases c:(iJ (iF R.1 s.2.1) (mA s)).2 with
 | false =>
  rw [HL c];cases eF [mA s] with
  | false=>exact congrArg (fun x=>some ((x,R.2),_)) e1
  | true=>exact congrArg (fun x=>some ((x,R.2),_)) e1
 | true =>
  have hp:eF [mA s]=true:=by
   unfold iJ at c;cases c1:!(iF R.1 s.2.1).1 with
   | true=>rw [c1] at c;cases c
   | false =>
    rw [c1] at c;cases c2:eF [mA s] with
    | true=>rfl
    | false=>rw [c2] at c;cases c
  rw [hp];rfl
theorem EU {k:Nat} (hk:2 ^ 50≤k) {R:Ty.d ga} (h:EW R.1) (up:R.1.1=true) {s:Ty.d aH}:bR.f k R s=Lo R (bif !HN R.1 s then (R.1,jH 4) else CN R.1 s):=by
 have hlen:=h.len;have hids:=h.ids up;have hdir:=h.dir up;unfold bR.f bR.t kV.f kV.t HN;rw [iL,ac];simp only [];by_cases r:(1:Int)≤s.1∧s.1≤6
 · rw [aW r];simp only [aa,Bool.true_and];rw [iL,ac];simp only [];rw [aF (n:=(R.1.2.2.2.1.length:Int)-1) (by omega) (by omega)];by_cases q:0≤s.2.1∧s.2.1≤(R.1.2.2.2.1.length:Int)-1
   · have h0:LE.le (α:=Int) 0 s.2.1:=q.1;have h1:LT.lt (α:=Int) s.2.1 (R.1.2.2.2.1.length:Int):=by have q2:LE.le (α:=Int) s.2.1 ((R.1.2.2.2.1.length:Int)-1):=q.2;omega
     have ht:TV (iF R.1 s.2.1):=wz h.txn (Int.toNat s.2.1);rw [aW q];simp only [aa,Bool.true_and];rw [aT h0 h1,ac,aT h0 h1];simp only [];have hf:((List.getD R.1.2.2.2.1 (Int.toNat s.2.1) (Ty.z aV)).1==(s.1 != 1))=!((iF R.1 s.2.1).1==(s.1==1)):=by show ((iF R.1 s.2.1).1==!(s.1==1))=_;cases (iF R.1 s.2.1).1 <;> cases s.1==1 <;> rfl
     rw [hf];cases (iF R.1 s.2.1).1==(s.1==1) with
     | true=>rfl
     | false =>
      simp only [ue,fw,aJ];unfold CN;rw [Gf hk h up h0 h1];cases c1:s.1==1 with
      | true=>rfl
      | false =>
       cases c6:s.1==6 with
       | true=>rfl
       | false =>
        cases c2:s.1==2 with
        | true=>rfl
        | false =>
         simp only [aJ];have hput:=GB hk h h0 h1;cases c5:s.1==5 with
         | true =>
          have e5:s.1=5:=yd c5;have hn:=sv (iF R.1 s.2.1).2.2.1;have ht2:=ht.2;rw [show (s.1==3)=false by rw [e5];rfl,show (s.1==4)=false by rw [e5];rfl];simp only [aa,aJ];rw [show List.getD R.1.2.2.2.1 (Int.toNat s.2.1) (Ty.z aV)=iF R.1 s.2.1 from rfl,EC hk (by have:=ht.1;omega) hdir,ac];simp only [];unfold vt;cases lG (iF R.1 s.2.1).2.1 R.1.2.1.2.1 with
          | false=>rfl
          | true =>simp only [fw,aJ];rw [sj hk (by omega),ac];simp only [];rw [Bg hk h.sz (by omega) (by omega) (by omega)];rfl
         | false =>
          simp only [aJ];cases c3:s.1==3 with
          | true =>simp only [aa];exact hput
          | false =>
           simp only [aJ];cases c4:s.1==4 with
           | true =>simp only [aa];exact hput
           | false =>
            exfalso;have n1:=beq_eq_false_iff_ne.1 c1;have n2:=beq_eq_false_iff_ne.1 c2;have n3:=beq_eq_false_iff_ne.1 c3;have n4:=beq_eq_false_iff_ne.1 c4;have n5:=beq_eq_false_iff_ne.1 c5;have n6:=beq_eq_false_iff_ne.1 c6;have key:∀ S:Int,1≤S→S≤6→S≠1→S≠2→S≠3→S≠4→S≠5→S≠6→False:=by omega
            exact key s.1 r.1 r.2 n1 n2 n3 n4 n5 n6
   · rw [aY q];rfl
 · rw [aY r];simp only [aJ,ac,ue,aa,Bool.false_and,Bool.and_false];rfl
theorem EZ {k:Nat} (hk:2 ^ 50≤k) {R:Ty.d ga} (h:EW R.1) {s:Ty.d aH} (h11:(s.1==11)=false):bz.f k R s=Lo R (jG R.1 s):=by
 unfold bz.f bz.t jG;rw [h11];cases c10:s.1==10 with
 | true =>
  simp only [aa];cases R.1.1 with
  | true=>rfl
  | false =>simp only [aJ];rw [uK hk h.sz,ac];rfl
 | false =>
  simp only [aJ];cases up:R.1.1 with
  | false=>rfl
  | true =>
   have hdir:=h.dir up;have hids:=h.ids up;simp only [fw,aJ];cases c7:s.1==7 with
   | true =>simp only [aa];rw [Eu hk (st:=R.1.2.1) (d:=R.1.2.2.1) h.sz (by omega) (by omega)];unfold HU;rw [up];rfl
   | false =>
    simp only [aJ];cases s.1==8 with
    | true =>simp only [aa];rw [xr hk (by omega)];rfl
    | false =>
     simp only [aJ];cases c9:s.1==9 with
     | true =>simp only [aa];rw [IQ (by omega) (by omega) (by decide)];rfl
     | false =>simp only [aJ];rw [EU hk h up];rfl
theorem ro.ew {n:Int} {e:Ty.d bF} {m:Ty.d bB} (h:ro n e m):EW e:=by
 obtain ⟨st,b,r1,r2,r3⟩:=h.st;have hs:=b.op.MI.store.1;obtain ⟨g1,g2,_⟩:=dT hs;obtain ⟨L,t,_⟩:=b.op.mi;have hz:F3 e.2.2.1:=t.disk.sz;have hi:st.1.2.1.length≤60:=by unfold dw at hs;simp only [iE] at hs;obtain ⟨_,h2,_⟩:=hs;exact (bo (nx:=st.1.1) (ids:=st.1.2.1) h2).2.2.2.1
 refine ⟨fun q=>?_,fun q=>?_,hz,Nat.le_of_eq h.len,fun t ht=>(h.tg t ht).tv,fun t ht=>(h.tg t ht).uq⟩
 · rw [r3 q];omega
 · rw [r3 q];omega
def ri (e:Ty.d bF) (s:Ty.d aH):eU :=
 bif s.1 != 5 then [] else bif !e.1 then [] else bif !decide (0≤s.2.1∧s.2.1≤(e.2.2.2.1.length:Int)-1) then [] else bif !(iF e s.2.1).1 then [] else fZ (iF e s.2.1).2.2.1
theorem GH {k:Nat} (hk:2 ^ 50≤k) {e:Ty.d bF} (h:EW e) (s:Ty.d aH):ke.f k e s=some (ri e s,()):=by
 have hlen:=h.len;have ht:TV (iF e s.2.1):=wz h.txn (Int.toNat s.2.1);have h2:=ht.2;unfold ke.f ke.t ri;cases s.1 != 5 with
 | true=>rfl
 | false =>
  cases !e.1 with
  | true=>rfl
  | false =>
   simp only [aJ];rw [iL,ac,aF (n:=(e.2.2.2.1.length:Int)-1) (by omega) (by omega)];simp only [];by_cases q:0≤s.2.1∧s.2.1≤(e.2.2.2.1.length:Int)-1
   · have h0:LE.le (α:=Int) 0 s.2.1:=q.1;have h1:LT.lt (α:=Int) s.2.1 (e.2.2.2.1.length:Int):=by have q2:LE.le (α:=Int) s.2.1 ((e.2.2.2.1.length:Int)-1):=q.2;omega
     rw [aW q];simp only [fw,aJ];rw [aT h0 h1,aT h0 h1,show List.getD e.2.2.2.1 (Int.toNat s.2.1) (Ty.z aV)=iF e s.2.1 from rfl,sj hk (by omega)];cases (iF e s.2.1).1 <;> rfl
   · rw [aY q];rfl
theorem F7 {e:Ty.d bF} (h:EW e) (s:Ty.d aH):(ri e s).length≤1000:=by
 have ht:TV (iF e s.2.1):=wz h.txn (Int.toNat s.2.1);have h2:=ht.2;have h3:=sv (iF e s.2.1).2.2.1;unfold ri;cases s.1 != 5 with
 | true=>exact Nat.zero_le _
 | false =>
  cases !e.1 with
  | true=>exact Nat.zero_le _
  | false =>
   cases !decide (0≤s.2.1∧s.2.1≤(e.2.2.2.1.length:Int)-1) with
   | true=>exact Nat.zero_le _
   | false =>
    cases !(iF e s.2.1).1 with
    | true=>exact Nat.zero_le _
    | false=>show (fZ (iF e s.2.1).2.2.1).length≤1000;omega
theorem NI {k:Nat} (hk:2 ^ 50≤k) {e:Ty.d bF} (h:EW e) (up:e.1=true):i7.f k e=some (e,()):=by
 have h1:=h.ids up;have h2:=h.dir up;have h3:=h.len;have ec:cO.f k e.2.1=some (e.2.1,()):=by unfold cO.f cO.t dX.f dX.t;rw [bn (by omega) (by decide),ac];unfold cL.f cL.t;rw [bn (by omega) (by decide)];rfl
 have et:eI.f k e.2.2.2.1=some (e.2.2.2.1,()):=by
  unfold eI.f eI.t;refine (fj (L:=fun n i (s:List (Ty.d aV))=>eI.l0 k n e.2.2.2.1 (e.2.2.2.1.length:Int) i s) (R:=fun r s=>(some (s++r,()):eI.Rs)) (Ty.z aV) e.2.2.2.1 (fun i s=>(s.length:Int)=i) (fun n s hs=>?_) (fun n i s x rest g0 g1 hx hr hp ih=>?_) (n:=k) (s:=[]) (by omega) rfl).trans (by rw [List.nil_append])
  · simp only [eI.l0,eI.b0];rw [aY (by omega),aJ,List.append_nil]
  · have hm:x ∈ e.2.2.2.1:=by rw [← hx];exact gR (by omega)
    simp only [eI.l0,eI.b0];rw [aW g1,aa,aT g0 g1,hx,rD k (h.txn x hm),ac,aF (n:=i+1) (by omega) (by omega),bn (by omega) (by decide)];refine (ih (s++[x]) (by rw [dt];omega)).trans ?_;rw [oK];rfl
 unfold i7.f i7.t;rw [ec,ac,gm k h.sz.l,ac,et];rfl
theorem Lv {m:Ty.d bB} (s:Ty.d aH):((jP m s).2.1==1)=false:=by
 unfold jP;cases s.1==10 with
 | true=>cases m.1 <;> rfl
 | false =>
  cases s.1==11 with
  | true=>rfl
  | false =>
   cases !m.1 with
   | true=>rfl
   | false =>
    cases s.1==7 with
    | true=>rfl
    | false =>
     cases s.1==8 with
     | true=>rfl
     | false =>
      cases s.1==9 with
      | true=>rfl
      | false =>
       cases !wu m s with
       | true=>rfl
       | false =>
        show ((zQ m s).2.1==1)=false;unfold zQ;cases s.1==1 with
        | true=>rfl
        | false =>
         cases s.1==6 with
         | true=>rfl
         | false =>
          cases s.1==5 with
          | true =>
           show ((tC (iZ m s.2.1 jZ) (lJ m s.2.1)).2.1==1)=false;unfold tC;cases !lG (lJ m s.2.1).2.1 (uX (iZ m s.2.1 jZ).2.1) with
           | true=>rfl
           | false =>
            simp only [aJ];cases ((fZ (lJ m s.2.1).2.2.1).length:Int)==0 with
            | true=>rfl
            | false =>
             simp only [aJ];cases decide (((gI (iZ m s.2.1 jZ).2.1 (fZ (lJ m s.2.1).2.2.1) (iZ m s.2.1 jZ).2.2.1).length:Int) > 20) with
             | true=>rfl
             | false =>simp only [aJ];cases decide ((iZ m s.2.1 jZ).2.2.1 > 1000000) <;> rfl
          | false =>
           cases s.1==2 with
           | true =>
            show ((yJ m s).2.1==1)=false;unfold yJ;cases !gB s.2.2.1 with
            | true=>rfl
            | false =>
             simp only [aJ];cases ll (lJ m s.2.1).2.2.1 s.2.2.1 with
             | some p =>simp only [];cases p.2.1 <;> rfl
             | none =>
              simp only [];unfold DJ gZ;have hf:=xE m.2.1 s.2.2.1;have hf1:((bK m.2.1 s.2.2.1).2==1)=false:=by rcases hf with q | q <;> rw [q] <;> rfl
              cases !(lJ m s.2.1).1 with
              | true=>rfl
              | false =>
               cases !gB s.2.2.1 with
               | true=>rfl
               | false =>
                simp only [aJ];cases lN (lJ m s.2.1).2.1 s.2.2.1 with
                | some b' =>
                 simp only [];cases b' != (bK m.2.1 s.2.2.1).1.2.2.1 with
                 | true=>rfl
                 | false=>exact hf1
                | none =>
                 simp only [];cases decide (((lJ m s.2.1).2.1.length:Int)≥20) with
                 | true=>rfl
                 | false=>exact hf1
           | false =>
            show ((Bj m s).2.1==1)=false;unfold Bj;cases !eF [mA s] with
            | true=>rfl
            | false =>simp only [aJ];cases !(iJ (lJ m s.2.1) (mA s)).2 <;> rfl
noncomputable def me:Ty.d bF→List (Ty.d aH)→List (Ty.d m_)
 | _,[]=>[]
 | e,s::l=>bif (jG e s).2.1==0 then (bif decide (((ri e s).length:Int) > 0) then (e.2.1.2.2.1,(ri e s,()))::me (jG e s).1 l else me (jG e s).1 l) else me (jG e s).1 l
noncomputable def pQ (R:Ty.d ga) (l:List (Ty.d aH)):Ty.d ga:=((lE R.1 l).1,(R.2.1++(lE R.1 l).2,(R.2.2.1++me R.1 l,R.2.2.2)))
theorem MU {k:Nat} (hk:2 ^ 50≤k) (l:List (Ty.d aH)) (hl:l.length≤82) (x3:List Int) (x4:List (Ty.d aC)) (x5:List (Ty.d aB)) (x6:List (Ty.d aV)) (x7:List (Ty.d aK)) (x8:List (Ty.d m_)) (x9:List (Ty.d aM)) (x10:Bool) (x11 x12 x13 x14 x15 x16:Int) (x17:Bool) :
 ∀ (r:List (Ty.d aH)) (n:Nat) (i:Nat) (b:Int) (R:Ty.d ga) (m:Ty.d bB),l.drop i=r→i≤l.length→r.length<n→ro b R.1 m→b+(r.length:Int)≤82→(∀ s ∈ r,(s.1==11)=false)→R.2.1.length≤i→R.2.2.1.length≤i →
 jy.l1 k n l (l.length:Int) (i:Int) x3 x4 x5 x6 x7 x8 x9 x10 x11 x12 x13 x14 x15 x16 x17 R.1.2.1.1.2.1 R.1.2.1.2.1 R.1.2.2.1.1 R.1.2.2.2.1 R.2.1 R.2.2.1 R.2.2.2.1 R.1.1 R.1.2.1.1.1 R.1.2.1.2.2.1 R.1.2.1.2.2.2.1 R.1.2.1.2.2.2.2.1 R.1.2.2.1.2.1 R.1.2.2.1.2.2.1 R.1.2.2.1.2.2.2.1=some (pQ R r,())
 | r,0,i,b,R,m,hd,hi,hn,hS,hb,h11,ha,hc=>absurd hn (Nat.not_lt_zero _)
 | [],n+1,i,b,R,m,hd,hi,hn,hS,hb,h11,ha,hc=>by have hlen:=congrArg List.length hd;rw [List.length_drop,List.length_nil] at hlen;simp only [jy.l1,jy.b1];rw [aY (by omega),aJ];unfold pQ lE me;rw [List.append_nil,List.append_nil]
 | s::r,n+1,i,b,R,m,hd,hi,hn,hS,hb,h11,ha,hc=>by
  have hlen:=congrArg List.length hd;rw [List.length_drop,j7] at hlen;have hget:List.getD l (Int.toNat (i:Int)) (Ty.z aH)=s:=by have:=congrArg (fun q=>q.getD 0 (Ty.z aH)) hd;simp only [List.getD,List.getElem?_drop,Nat.add_zero,List.getElem?_cons_zero,Option.getD_some] at this;show l.getD i _=s;exact this
  have hd2:l.drop (i+1)=r:=by have:=congrArg (List.drop 1) hd;rw [List.drop_drop] at this;exact this
  rw [j7,Int.natCast_succ] at hb;have s11:=h11 s il;have ew:=hS.ew;obtain ⟨q1,q2⟩:=sO hS (by omega) s11;have hcode:((jG R.1 s).2.1==1)=false:=by rw [q1];exact Lv s
  have hnet:=F7 ew s;have ih:=fun (ak:List (Ty.d m_)) (hak:ak.length≤i+1)=>MU hk l hl x3 x4 x5 x6 x7 x8 x9 x10 x11 x12 x13 x14 x15 x16 x17 r n (i+1) (b+1) ((jG R.1 s).1,(R.2.1++[(jG R.1 s).2],(ak,R.2.2.2))) (jP m s).1 hd2 (by omega) (by rw [j7] at hn;omega) q2 (by omega) (fun s hs=>h11 s (kS _ hs)) (by show (_++[_]).length≤_;rw [dt];omega) hak
  simp only [jy.l1,jy.b1];rw [aW (by omega),aa,aT (by omega) (by omega),aY (by omega),aJ,hget];rw [show ((R.1.1,(((R.1.2.1.1.1,(R.1.2.1.1.2.1,())),(R.1.2.1.2.1,(R.1.2.1.2.2.1,(R.1.2.1.2.2.2.1,(R.1.2.1.2.2.2.2.1,()))))),((R.1.2.2.1.1,(R.1.2.2.1.2.1,(R.1.2.2.1.2.2.1,(R.1.2.2.1.2.2.2.1,())))),(R.1.2.2.2.1,())))):Ty.d bF)=R.1 from rfl,GH hk ew s,ac];rw [show ((R.1,(R.2.1,(R.2.2.1,(R.2.2.2.1,())))):Ty.d ga)=R from rfl,EZ hk ew s11];unfold Lo;rw [ac];simp only [];rw [bn (by omega) (by decide),hcode,aJ,aF (n:=(i:Int)+1) (by omega) (by omega),bn (by omega) (by decide)];rw [show ((i:Int)+1)=((i+1:Nat):Int) from rfl];have e1:=ih R.2.2.1 (by omega);have e2:=ih (R.2.2.1++[(R.1.2.1.2.2.1,(ri R.1 s,()))]) (by rw [dt];omega);have er:∀ z:List (Ty.d m_),pQ ((jG R.1 s).1,(R.2.1++[(jG R.1 s).2],(z,R.2.2.2))) r=((lE R.1 (s::r)).1,(R.2.1++(lE R.1 (s::r)).2,(z++me (jG R.1 s).1 r,R.2.2.2))):=fun z=>by unfold pQ;show ((lE (jG R.1 s).1 r).1,((R.2.1++[(jG R.1 s).2])++(lE (jG R.1 s).1 r).2,(z++me (jG R.1 s).1 r,R.2.2.2)))=_;rw [oK];rfl
  rw [er] at e1 e2;unfold pQ;show _=some (((lE R.1 (s::r)).1,(R.2.1++(lE R.1 (s::r)).2,(R.2.2.1++(bif (jG R.1 s).2.1==0 then (bif decide (((ri R.1 s).length:Int) > 0) then (R.1.2.1.2.2.1,(ri R.1 s,()))::me (jG R.1 s).1 r else me (jG R.1 s).1 r) else me (jG R.1 s).1 r),R.2.2.2))),());cases (jG R.1 s).2.1==0 with
  | false=>exact e1
  | true =>
   cases decide (((ri R.1 s).length:Int) > 0) with
   | false=>exact e1
   | true =>refine Eq.trans e2 ?_;rw [oK];rfl
theorem Fp {k:Nat} (hk:2 ^ 50≤k) {l:List (Ty.d aH)} (hl:l.length≤82) (h11:∀ s ∈ l,(s.1==11)=false):lA.f k (100000,((-1),(l,())))=some (pQ (j_ (g6 (ik 100000)),([],([],([],())))) l,()):=by
 obtain ⟨hc,hS⟩:=rI;have up:(j_ (g6 (ik 100000))).1=true:=hS.up;obtain ⟨k',rfl⟩:∃ k',k=k'+1:=⟨k-1,by omega⟩;have hD:F3 (ik 100000):=(Im (n:=100000) (by decide) (by decide)).sz;unfold lA.f lA.t;rw [iL,ac];simp only [];rw [aW (by decide),fw,aJ,iL,ac];simp only [];rw [aW (by decide),fw,aJ,IC _ (by decide) (by decide),ac];simp only [];have ew:j5.f (k'+1) (([],((100000:Int),(-1,(false,())))):Ty.d aA) (-1)=some (ik 100000,()):=by
  unfold j5.f j5.t;have ed:ay.f (k'+1) (([],((100000:Int),(-1,(false,())))):Ty.d aA)=some (jO (ik 100000),()):=iV hk (Nat.le_trans hD.u (by decide)) (Nat.le_trans hD.n (by decide));rw [gm _ (Nat.zero_le _),ac,ed,ac];simp only [];cases jO (ik 100000) with
  | false=>rfl
  | true =>simp only [aa];rw [iL,ac];rfl
 rw [ew,ac];simp only [];rw [uK hk hD,ac];simp only [];rw [hc];simp only [bne_self_eq_false,aJ];unfold jy.f jy.t;rw [NI hk hS.ew up,ac];have key:=MU hk l hl [] [] [] [] [] [] [] false 0 0 0 0 0 0 false l (k'+1) 0 0 (j_ (g6 (ik 100000)),([],([],([],())))) nw rfl (Nat.zero_le _) (by omega) hS (by omega) h11 (Nat.le_refl _) (Nat.le_refl _);refine (congrArg (fun r:jy.Rs=>r.bind fun r6=>some r6) (Eq.trans ?_ key)).trans rfl;rfl
def rL (m:Ty.d bB) (s:Ty.d aH):eU :=
 bif s.1 != 5 then [] else bif !m.1 then [] else bif !decide (0≤s.2.1∧s.2.1≤(m.2.2.2.1.length:Int)-1) then [] else bif !(lJ m s.2.1).1 then [] else fZ (lJ m s.2.1).2.2.1
theorem Ay {n:Int} {e:Ty.d bF} {m:Ty.d bB} (h:ro n e m) (s:Ty.d aH):ri e s=rL m s:=by unfold ri rL;rw [h.at_,h.up,h.txn]
theorem OH {m:Ty.d bB} {s:Ty.d aH} (h5:(s.1==5)=false):(zQ m s).1.2.1=m.2.1:=by
 unfold zQ;rw [h5];cases s.1==1 with
 | true=>rfl
 | false =>
  cases s.1==6 with
  | true=>rfl
  | false =>
   cases s.1==2 with
   | true=>exact (Qb m s).1
   | false=>exact (QB m s).1
theorem It {m:Ty.d bB} (s:Ty.d aH):(jP m s).1.2.1=bif (jP m s).2.1==0 then (bif decide (((rL m s).length:Int) > 0) then gI m.2.1 (rL m s) m.2.2.1 else m.2.1) else m.2.1:=by
 have out:(s.1==5)=false→rL m s=[]:=fun q=>by unfold rL bne;rw [q];rfl
 have stay:∀ {x:I7},x.1.2.1=m.2.1→rL m s=[]→x.1.2.1=bif x.2.1==0 then (bif decide (((rL m s).length:Int) > 0) then gI m.2.1 (rL m s) m.2.2.1 else m.2.1) else m.2.1:=fun {x} q1 q2=>by rw [q1,q2];cases x.2.1==0 <;> rfl
 cases c5:s.1==5 with
 | false =>
  refine stay ?_ (out c5);unfold jP;cases s.1==10 with
  | true=>cases m.1 <;> rfl
  | false =>
   cases s.1==11 with
   | true=>rfl
   | false =>
    cases !m.1 with
    | true=>rfl
    | false =>
     cases s.1==7 with
     | true=>rfl
     | false =>
      cases s.1==8 with
      | true=>rfl
      | false =>
       cases s.1==9 with
       | true=>rfl
       | false =>
        cases !wu m s with
        | true=>rfl
        | false=>exact OH c5
 | true =>
  unfold jP;rw [b_ c5 (c:=10) (by decide),b_ c5 (c:=11) (by decide),b_ c5 (c:=7) (by decide),b_ c5 (c:=8) (by decide),b_ c5 (c:=9) (by decide)];simp only [aJ];cases up:m.1 with
  | false=>rfl
  | true =>
   simp only [fw,aJ];cases hf:wu m s with
   | false=>rfl
   | true =>
    simp only [fw,aJ];have hf2:=hf;unfold wu at hf2;rw [iE,iE,decide_eq_true_eq,decide_eq_true_eq] at hf2;obtain ⟨r,_,hop⟩:=hf2;have e5:s.1=5:=yd c5;have hop':(lJ m s.2.1).1=true:=by
     rw [e5] at hop;cases q:(lJ m s.2.1).1 with
     | true=>rfl
     | false=>rw [q] at hop;cases hop
    have hn:rL m s=fZ (lJ m s.2.1).2.2.1:=by unfold rL bne;rw [c5,up,aW r,hop'];rfl
    rw [hn];unfold zQ;rw [b_ c5 (c:=1) (by decide),b_ c5 (c:=6) (by decide),c5];simp only [aa,aJ];unfold tC;cases lG (lJ m s.2.1).2.1 (uX (iZ m s.2.1 jZ).2.1) with
    | false=>rfl
    | true =>
     simp only [fw,aJ];cases c:((fZ (lJ m s.2.1).2.2.1).length:Int)==0 with
     | true =>
      have e:(fZ (lJ m s.2.1).2.2.1).length=0:=by have:=yd c;omega
      rw [e];rfl
     | false =>
      have c:=beq_eq_false_iff_ne.1 c;simp only [aJ];cases decide (((gI (iZ m s.2.1 jZ).2.1 (fZ (lJ m s.2.1).2.2.1) (iZ m s.2.1 jZ).2.2.1).length:Int) > 20) with
      | true=>rfl
      | false =>
       simp only [aJ];cases decide ((iZ m s.2.1 jZ).2.2.1 > 1000000) with
       | true=>rfl
       | false =>rw [aW (show ((fZ (lJ m s.2.1).2.2.1).length:Int) > 0 by omega)];rfl
def sq (l:bV) (acks:List (Ty.d m_)):bV:=acks.foldl (fun l a=>gI l a.2.1 a.1) l
theorem Ft:∀ (l:List (Ty.d aH)) {n:Int} {e:Ty.d bF} {m:Ty.d bB},ro n e m→n+(l.length:Int)≤82→(∀ s ∈ l,(s.1==11)=false)→sq m.2.1 (me e l)=(fm m l).1.2.1
 | [],n,e,m,h,_,_=>rfl
 | s::l,n,e,m,h,hn,h11=>by
  rw [j7,Int.natCast_succ] at hn;obtain ⟨a,b⟩:=sO h (by omega) (h11 s il);have ih:=Ft l b (by omega) fun q hq=>h11 q (kS _ hq)
  have hm:=It (m:=m) s;have eb:0<(rL m s).length→@Eq Int e.2.1.2.2.1 m.2.2.1:=fun q=>by
   obtain ⟨st,_,_,r2,r3⟩:=h.st;cases up:e.1 with
   | true=>rw [r3 up];exact r2
   | false =>
    exfalso;have:rL m s=[]:=by unfold rL;rw [← h.up,up];cases s.1 != 5 <;> rfl
    rw [this] at q;exact absurd q (Nat.lt_irrefl _)
  show sq m.2.1 (bif (jG e s).2.1==0 then (bif decide (((ri e s).length:Int) > 0) then (e.2.1.2.2.1,(ri e s,()))::me (jG e s).1 l else me (jG e s).1 l) else me (jG e s).1 l)=(fm (jP m s).1 l).1.2.1;rw [← ih,hm,a,Ay h];cases (jP m s).2.1==0 with
  | false=>rfl
  | true =>
   cases c:decide (((rL m s).length:Int) > 0) with
   | false=>rfl
   | true =>have c:=of_decide_eq_true c;simp only [aa];rw [eb (by omega)];rfl
def BM:List (Ty.d aH)→List (Ty.d aK)→Nat
 | s::l,a::q=>(bif s.1==5&&a.1==0 then 1 else 0)+BM l q
 | _,_=>0
theorem Oo {m:Ty.d bB} {s:Ty.d aH} (h5:(s.1==5)=true) (h:((jP m s).2.1==0)=true):0≤s.2.1∧s.2.1≤(m.2.2.2.1.length:Int)-1:=by
 revert h;unfold jP;rw [b_ h5 (c:=10) (by decide),b_ h5 (c:=11) (by decide),b_ h5 (c:=7) (by decide),b_ h5 (c:=8) (by decide),b_ h5 (c:=9) (by decide)];simp only [aJ];cases m.1 with
 | false=>exact fun h=>by cases h
 | true =>
  simp only [fw,aJ];cases hf:wu m s with
  | false=>exact fun h=>by cases h
  | true =>intro _;unfold wu at hf;rw [iE,decide_eq_true_eq] at hf;exact hf.1
theorem Mu {m:Ty.d bB} (hw:MW m) (st:pf) (s:Ty.d aH):(eT st s (jP m s).2).1.length=st.1.length+(bif s.1==5&&(jP m s).2.1==0 then 1 else 0):=by
 cases c:s.1==5&&(jP m s).2.1==0 with
 | true =>
  rw [iE] at c;obtain ⟨c5,c0⟩:=c;obtain ⟨h0,h1⟩:=Oo c5 c0;have hlen:=hw.len;have h0:LE.le (α:=Int) 0 s.2.1:=h0;have h1:LE.le (α:=Int) s.2.1 ((m.2.2.2.1.length:Int)-1):=h1;have h2:LE.le (α:=Int) s.2.1 2:=by rw [hlen] at h1;omega
  have e5:s.1=5:=yd c5;have hr:(decide ((0:Int)≤s.2.1∧s.2.1≤2)&&decide ((1:Int)≤s.1∧s.1≤6))=true:=by rw [aW ⟨h0,h2⟩,e5];rfl
  unfold eT;rw [b_ c5 (c:=9) (by decide),hr];simp only [Bool.false_and,aJ,aa];unfold mc jz;rw [b_ c5 (c:=1) (by decide),b_ c5 (c:=6) (by decide),c5,c0];show (_++[_]).length=_;rw [dt]
 | false =>
  show _=st.1.length+0;unfold eT;cases s.1==9&&(jP m s).2.1==0 with
  | true=>rfl
  | false =>
   cases decide ((0:Int)≤s.2.1∧s.2.1≤2)&&decide ((1:Int)≤s.1∧s.1≤6) with
   | false=>rfl
   | true =>
    simp only [aa,aJ];unfold mc;rw [c];cases jz s (jP m s).2.1 with
    | true=>rfl
    | false =>
     cases !(kI st.2.2 s).1 with
     | true=>rfl
     | false =>
      simp only [aJ];unfold oH;cases s.1==2&&(!(kE st.2.2 s)&&(jP m s).2.1==0) with
      | true=>rfl
      | false =>
       simp only [aJ];unfold qU;cases s.1==2&&(!(kE st.2.2 s)&&(jP m s).2.1==8) with
       | true=>rfl
       | false =>simp only [aJ];unfold s8;cases (s.1==3||s.1==4)&&(jP m s).2.1==0 <;> rfl
theorem AP:∀ (l:List (Ty.d aH)) {m:Ty.d bB} {st:pf},MW m→BK m st.2.2→(rl st l (fm m l).2).1.length=st.1.length+BM l (fm m l).2
 | [],m,st,_,_=>rfl
 | s::l,m,st,hw,hb=>by obtain ⟨b1,b2⟩:=Cu hw hb s;have ih:=AP l (m:=(jP m s).1) (st:=eT st s (jP m s).2) b2 (by rw [CY];exact b1);show (rl (eT st s (jP m s).2) l (fm (jP m s).1 l).2).1.length=st.1.length+((bif s.1==5&&(jP m s).2.1==0 then 1 else 0)+BM l (fm (jP m s).1 l).2);rw [ih,Mu hw];omega
theorem sI {α:Type} {o1 r:List α} {h d:α}:List.getD (o1++h::r) o1.length d=h:=by simp [List.getD]
theorem Fx {α:Type} (o1 r:List α):List.take o1.length (o1++r)=o1:=by simp
theorem qQ {α:Type} (o1 r:List α) (h:α):o1++h::r=(o1++[h])++r:=by simp
def NQ (o:ir):Prop:=∀ o1 h o2,o=o1++h::o2→(nS o1).length≤900∧h.2.2.2.1.length≤50
theorem B_ {o:ir} (h:tV o):NQ o:=fun o1 x o2 e=>⟨(h o1 x o2 e).2.1,(h o1 x o2 e).2.2.2.2⟩
theorem Gi {a b:ir} (h:NQ (a++b)):NQ a:=fun o1 x o2 e=>h o1 x (o2++b) (by rw [e,oK];rfl)
theorem BZ {k:Nat} (hk:2 ^ 50≤k) {o:ir} (ho:o.length≤1000) (hb:NQ o):eH.f k o=some (nS o,()):=by
 have loop:∀ (r o1:ir) (n:Nat),o=o1++r→r.length<n→eH.l0 k n o (o1.length:Int) (nS o1)=some (nS o,()):=by
  intro r
  induction r with
  | nil =>intro o1 n e hn;obtain ⟨n,rfl⟩:∃ q,n=q+1:=⟨n-1,by omega⟩;rw [List.append_nil] at e;subst e;simp only [eH.l0,eH.b0];rw [aY (by omega),aJ]
  | cons h r ih =>
   intro o1 n e hn;obtain ⟨n,rfl⟩:∃ q,n=q+1:=⟨n-1,by omega⟩;obtain ⟨b1,b2⟩:=hb o1 h r e;have hl:o.length=o1.length+(r.length+1):=by rw [e,nE,j7]
   rw [j7] at hn;have ih:=ih (o1++[h]) n (by rw [e,qQ]) (by omega);rw [tf,nE,List.length_singleton] at ih;simp only [eH.l0,eH.b0];rw [aW (by omega),aa,aT (by omega) (by omega),Int.toNat_natCast,show List.getD o o1.length (Ty.z au)=h by rw [e];exact sI,vv hk (by omega) (by omega),ac,aF (n:=(o1.length:Int)+1) (by omega) (by omega)];exact ih
 unfold eH.f eH.t;exact loop o [] k rfl (by omega)
theorem uM {k:Nat} (hk:2 ^ 50≤k) {o:ir} (ho:o.length≤1000) (hb:NQ o):cC.f k o=some (nS o,()):=by
 have loop:∀ (r o1:ir) (n:Nat),o=o1++r→r.length<n→cC.l0 k n o (o.length:Int) (o1.length:Int) (nS o1)=some (nS o,()):=by
  intro r
  induction r with
  | nil =>intro o1 n e hn;obtain ⟨n,rfl⟩:∃ q,n=q+1:=⟨n-1,by omega⟩;rw [List.append_nil] at e;subst e;simp only [cC.l0,cC.b0];rw [aY (by omega),aJ]
  | cons h r ih =>
   intro o1 n e hn;obtain ⟨n,rfl⟩:∃ q,n=q+1:=⟨n-1,by omega⟩;obtain ⟨b1,b2⟩:=hb o1 h r e;have hl:o.length=o1.length+(r.length+1):=by rw [e,nE,j7]
   rw [j7] at hn;have ih:=ih (o1++[h]) n (by rw [e,qQ]) (by omega);rw [tf,nE,List.length_singleton] at ih;simp only [cC.l0,cC.b0];rw [aW (by omega),aa,aT (by omega) (by omega),Int.toNat_natCast,show List.getD o o1.length (Ty.z au)=h by rw [e];exact sI,EM hk (by omega) (by omega),ac,aF (n:=(o1.length:Int)+1) (by omega) (by omega)];exact ih
 unfold cC.f cC.t;exact loop o [] k rfl (by omega)
theorem E5 {k:Nat} (hk:2 ^ 50≤k) {o:ir} (ho:o.length≤1000) (hs:tV o):ap.f k o=some (true,()):=by
 have hb:=B_ hs;have loop:∀ (r o1:ir) (n:Nat),o=o1++r→r.length<n→ap.l0 k n o (o1.length:Int)=some (true,()):=by
  intro r
  induction r with
  | nil =>intro o1 n e hn;obtain ⟨n,rfl⟩:∃ q,n=q+1:=⟨n-1,by omega⟩;rw [List.append_nil] at e;subst e;simp only [ap.l0,ap.b0];rw [aY (by omega),aJ]
  | cons h r ih =>
   intro o1 n e hn;obtain ⟨n,rfl⟩:∃ q,n=q+1:=⟨n-1,by omega⟩;obtain ⟨⟨s1,s2⟩,b1,b2,b3,b4⟩:=hs o1 h r e;have hl:o.length=o1.length+(r.length+1):=by rw [e,nE,j7]
   rw [j7] at hn;have ih:=ih (o1++[h]) n (by rw [e,qQ]) (by omega);rw [nE,List.length_singleton] at ih;have hg:List.getD o o1.length (Ty.z au)=h:=by rw [e];exact sI
   have L2:ap.l2 k (ap.l0 k n) k o (o1.length:Int) 0 (nS o1)=some (true,()):=by
    refine fj (L:=fun n' i (_:Unit)=>ap.l2 k (ap.l0 k n) n' o (o1.length:Int) i (nS o1)) (R:=fun _ _=>some (true,())) (Ty.z .str) h.2.2.1 (fun _ _=>True) (fun n' _ _=>?_) (fun n' i _ x rest h0 h1 hx hr hp ih2=>?_) (n:=k) (s:=()) (by omega) trivial
    · simp only [ap.l2,ap.b2];rw [aT (by omega) (by omega),Int.toNat_natCast,hg,aY (by omega),aJ,aF (n:=(o1.length:Int)+1) (by omega) (by omega)];exact ih
    · have hm:x ∈ h.2.2.1:=List.mem_of_mem_drop (by rw [hr];exact il);have hf:=s2 x hm;simp only [ap.l2,ap.b2];rw [aT (by omega) (by omega),Int.toNat_natCast,hg,aW h1,aa,aT (by omega) (by omega),aT h0 h1,hx,vV hk (by omega),ac];simp only [];rw [hf,aF (n:=i+1) (by omega) (by omega)];exact ih2 () trivial
   have L1:ap.l1 k (ap.l0 k n) k o (o1.length:Int) 0 (nS o1)=some (true,()):=by
    refine fj (L:=fun n' i (_:Unit)=>ap.l1 k (ap.l0 k n) n' o (o1.length:Int) i (nS o1)) (R:=fun _ _=>some (true,())) (Ty.z aB) h.2.1 (fun _ _=>True) (fun n' _ _=>?_) (fun n' i _ x rest h0 h1 hx hr hp ih2=>?_) (n:=k) (s:=()) (by omega) trivial
    · simp only [ap.l1,ap.b1];rw [aT (by omega) (by omega),Int.toNat_natCast,hg,aY (by omega),aJ];exact L2
    · have hm:x ∈ h.2.1:=List.mem_of_mem_drop (by rw [hr];exact il);obtain ⟨hf1,hf2⟩:=s1 x hm;simp only [ap.l1,ap.b1];rw [aT (by omega) (by omega),Int.toNat_natCast,hg,aW h1,aa,aT (by omega) (by omega),aT h0 h1,hx,vV hk (by omega),ac];simp only [];rw [hf1,aT (by omega) (by omega),aT h0 h1,hf2,bQ,aF (n:=i+1) (by omega) (by omega)];exact ih2 () trivial
   simp only [ap.l0,ap.b0];rw [aW (by omega),aa,d7 (by omega) (by omega),Int.toNat_natCast,show List.take o1.length o=o1 by rw [e];exact Fx o1 _,BZ hk (by omega) (Gi (b:=h::r) (by rw [← e];exact hb)),ac];exact L1
 unfold ap.f ap.t;exact loop o [] k rfl (by omega)
theorem wR {k:Nat} (hk:2 ^ 50≤k) {l:bV} (hl:l.length≤1000) (key:ByteArray):fv.f k l key=some ((bK l key).1,((bK l key).2==0,())):=by
 unfold fv.f fv.t;refine fj (L:=fun n i (_:Unit)=>fv.l0 k n key l (l.length:Int) i ByteArray.empty ByteArray.empty 0) (R:=fun r _=>some ((bK r key).1,((bK r key).2==0,()))) (Ty.z aB) l (fun _ _=>True) (fun n _ _=>?_) (fun n i _ x rest h0 h1 hx hr hp ih=>?_) (n:=k) (s:=()) (by omega) trivial
 · simp only [fv.l0,fv.b0];rw [aY (by omega),aJ];rfl
 · have ih:=ih () trivial;simp only [fv.l0,fv.b0];rw [aW h1,aa,aT h0 h1,hx,aF (n:=i+1) (by omega) (by omega),ih,show bK (x::rest) key=bif seq x.1 key then (x,0) else bK rest key from rfl];cases seq x.1 key <;> rfl
theorem GY {k:Nat} (hk:2 ^ 50≤k) {l:bV} (hl:l.length≤900) {h:Ty.d au} (h1':h.2.1.length≤1000) (h2':h.2.2.1.length≤1000) (hs:Fc l h):fa.f k l h=some (true,()):=by
 obtain ⟨s1,s2⟩:=hs;have L1:fa.l1 k k l h.2.2.1 (h.2.2.1.length:Int) 0=some (true,()):=by
  refine fj (L:=fun n i (_:Unit)=>fa.l1 k n l h.2.2.1 (h.2.2.1.length:Int) i) (R:=fun _ _=>some (true,())) (Ty.z .str) h.2.2.1 (fun _ _=>True) (fun n _ _=>?_) (fun n i _ x rest h0 h1 hx hr hp ih=>?_) (n:=k) (s:=()) (by omega) trivial
  · simp only [fa.l1,fa.b1];rw [aY (by omega),aJ]
  · have hm:x ∈ h.2.2.1:=List.mem_of_mem_drop (by rw [hr];exact il);simp only [fa.l1,fa.b1];rw [aW h1,aa,aT h0 h1,hx,wR hk (by omega),ac];simp only [];rw [s2 x hm,aF (n:=i+1) (by omega) (by omega)];exact ih () trivial
 unfold fa.f fa.t;refine fj (L:=fun n i (_:Unit)=>fa.l0 k n l h.2.1 (h.2.1.length:Int) i h.1 h.2.1 h.2.2.1 h.2.2.2.1) (R:=fun _ _=>some (true,())) (Ty.z aB) h.2.1 (fun _ _=>True) (fun n _ _=>?_) (fun n i _ x rest h0 h1 hx hr hp ih=>?_) (n:=k) (s:=()) (by omega) trivial
 · simp only [fa.l0,fa.b0];rw [aY (by omega),aJ];exact L1
 · have hm:x ∈ h.2.1:=List.mem_of_mem_drop (by rw [hr];exact il);obtain ⟨f1,f2⟩:=s1 x hm;simp only [fa.l0,fa.b0];rw [aW h1,aa,aT h0 h1,hx,wR hk (by omega),ac];simp only [];rw [f1,f2,bQ,aF (n:=i+1) (by omega) (by omega)];exact ih () trivial
theorem Dj {k:Nat} (hk:2 ^ 50≤k) {o:ir} (ho:o.length≤1000) (hs:tV o):dJ.f k o=some (true,()):=by
 have hb:=B_ hs;have loop:∀ (r o1:ir) (n:Nat),o=o1++r→r.length<n→dJ.l0 k n o o (o.length:Int) (o1.length:Int)=some (true,()):=by
  intro r
  induction r with
  | nil =>intro o1 n e hn;obtain ⟨n,rfl⟩:∃ q,n=q+1:=⟨n-1,by omega⟩;rw [List.append_nil] at e;subst e;simp only [dJ.l0,dJ.b0];rw [aY (by omega),aJ]
  | cons h r ih =>
   intro o1 n e hn;obtain ⟨n,rfl⟩:∃ q,n=q+1:=⟨n-1,by omega⟩;obtain ⟨s,b1,b2,b3,b4⟩:=hs o1 h r e;have hl:o.length=o1.length+(r.length+1):=by rw [e,nE,j7]
   rw [j7] at hn;have ih:=ih (o1++[h]) n (by rw [e,qQ]) (by omega);rw [nE,List.length_singleton] at ih;have hg:List.getD o o1.length (Ty.z au)=h:=by rw [e];exact sI
   simp only [dJ.l0,dJ.b0];rw [aW (by omega),aa,aT (by omega) (by omega),d7 (by omega) (by omega),Int.toNat_natCast,show List.take o1.length o=o1 by rw [e];exact Fx o1 _,uM hk (by omega) (Gi (b:=h::r) (by rw [← e];exact hb)),ac];simp only [];rw [hg,GY hk b1 b2 b3 s,ac];simp only [fw,aJ];rw [aF (n:=(o1.length:Int)+1) (by omega) (by omega)];exact ih
 unfold dJ.f dJ.t;exact loop o [] k rfl (by omega)
theorem F0 {k:Nat} (hk:2 ^ 50≤k) {acks:List (Ty.d m_)} (ha:acks.length≤1000) (hb:∀ a1 x a2,acks=a1++x::a2→(sq [] a1).length≤1000∧x.2.1.length≤1000):dI.f k [] acks=some (sq [] acks,()):=by
 have loop:∀ (r a1:List (Ty.d m_)) (n:Nat),acks=a1++r→r.length<n→dI.l0 k n acks (a1.length:Int) (sq [] a1)=some (sq [] acks,()):=by
  intro r
  induction r with
  | nil =>intro a1 n e hn;obtain ⟨n,rfl⟩:∃ q,n=q+1:=⟨n-1,by omega⟩;rw [List.append_nil] at e;subst e;simp only [dI.l0,dI.b0];rw [aY (by omega),aJ]
  | cons h r ih =>
   intro a1 n e hn;obtain ⟨n,rfl⟩:∃ q,n=q+1:=⟨n-1,by omega⟩;obtain ⟨b1,b2⟩:=hb a1 h r e;have hl:acks.length=a1.length+(r.length+1):=by rw [e,nE,j7]
   rw [j7] at hn;have ih:=ih (a1++[h]) n (by rw [e,qQ]) (by omega);rw [show sq [] (a1++[h])=gI (sq [] a1) h.2.1 h.1 by unfold sq;rw [List.foldl_append];rfl,nE,List.length_singleton] at ih;simp only [dI.l0,dI.b0];rw [aW (by omega),aa,aT (by omega) (by omega),aT (by omega) (by omega),Int.toNat_natCast,show List.getD acks a1.length (Ty.z m_)=h by rw [e];exact sI,vv hk b1 b2,ac,aF (n:=(a1.length:Int)+1) (by omega) (by omega)];exact ih
 unfold dI.f dI.t;rw [bn (by rw [List.length_nil];omega) (by decide)];exact loop acks [] k rfl (by omega)
abbrev NW:=Ty.d jD
abbrev P8:=Ty.d jD × Ty.d jD × Ty.d jD × Unit
def mE:NW:=(false,([],([],([],()))))
def mS (p:NW) (s:Ty.d aH) (a:Ty.d aK):NW :=
 bif !p.1 then p else
 bif s.1==2&&(a.1==0&&!(uY (ll p.2.2.2.1 s.2.2.1)).2.1) then (p.1,(p.2.1++[(s.2.2.1,(a.2.1,(0,())))],p.2.2)) else
 bif s.1==2&&(a.1==8&&!(uY (ll p.2.2.2.1 s.2.2.1)).2.1) then (p.1,(p.2.1,(p.2.2.1++[s.2.2.1],p.2.2.2))) else
 bif (s.1==3||s.1==4)&&a.1==0 then (p.1,(p.2.1,(p.2.2.1,(p.2.2.2.1++[mA s],())))) else p
def j3 (p:NW) (out:ir) (s:Ty.d aH) (a:Ty.d aK):NW × ir :=
 bif s.1==1&&a.1==0 then ((true,([],([],([],())))),out) else bif s.1==6&&a.1==0 then (mE,out) else
 bif s.1==5&&a.1==0 then (mE,out++[(s.2.1,(p.2.1,(p.2.2.1,(fZ p.2.2.2.1,()))))]) else
 bif s.1==5&&(!(a.1==4)&&!(a.1==6)) then (mE,out) else (mS p s a,out)
structure PB (p:NW):Prop where
 r:p.2.1.length≤1000
 m:p.2.2.1.length≤1000
 w:p.2.2.2.1.length≤1000
def rt (L0:aD.T0) (a:List (Ty.d aK)) (l:List (Ty.d aH)) (i:Nat) (A:P8) (out:ir):aD.Rs :=
 L0 a l (l.length:Int) ((i+1:Nat):Int) A.1.2.1 A.1.2.2.1 A.1.2.2.2.1 A.2.1.2.1 A.2.1.2.2.1 A.2.1.2.2.2.1 A.2.2.1.2.1 A.2.2.1.2.2.1 A.2.2.1.2.2.2.1 A.1.1 A.2.1.1 A.2.2.1.1 out
theorem Nb {k:Nat} (hk:2 ^ 50≤k) {A:P8} (h:PB A.1) (s:Ty.d aH) (a:Ty.d aK):eP.f k A s a=some ((mS A.1 s a,A.2),()):=by
 have h1:=h.r;have h2:=h.m;have h3:=h.w;unfold eP.f eP.t mS mA;rw [rh hk (t:=(false,([],A.1.2.2.2))) (by show A.1.2.2.2.1.length≤1000;omega),ac,bn (by omega) (by decide),bn (by omega) (by decide),bn (by omega) (by decide)];show (bif !A.1.1 then _ else _)=_;generalize (uY (ll A.1.2.2.2.1 s.2.2.1)).2.1=w;cases A.1.1 with
 | false=>rfl
 | true =>
  cases s.1==2 with
  | true=>cases a.1==0 <;> cases a.1==8 <;> cases w <;> cases s.1==3 <;> cases s.1==4 <;> rfl
  | false=>cases a.1==0 <;> cases s.1==3 <;> cases s.1==4 <;> rfl
section
variable {k:Nat} (hk:2 ^ 50≤k) {l:List (Ty.d aH)} {q:List (Ty.d aK)} {i:Nat} (hi:i≤1000) {A:P8} (h:PB A.1) {out:ir} (ho:out.length≤1000) {s:Ty.d aH} {a:Ty.d aK} {L0:aD.T0} (hq:i<q.length) (ha:List.getD q i (Ty.z aK)=a)
include hk hi h ho hq ha
theorem NO (f:Bool):aD.l5 k L0 k q (i:Int) l (l.length:Int) (i:Int) f A.1.2.1 A.1.2.2.1 A.1.2.2.2.1 A.2.1.2.1 A.2.1.2.2.1 A.2.1.2.2.2.1 A.2.2.1.2.1 A.2.2.1.2.2.1 A.2.2.1.2.2.2.1 A.1.1 A.2.1.1 A.2.2.1.1 out s.1 s.2.1 s.2.2.1 s.2.2.2.1 s.2.2.2.2.1=bif f then rt L0 q l i (mE,A.2) out else rt L0 q l i (mS A.1 s a,A.2) out:=by
 have ho:=ho;obtain ⟨k',e⟩:∃ k',k=k'+1:=⟨k-1,by omega⟩;have e1:aD.l5 k L0 k=aD.b5 k L0:=by rw [show aD.l5 k L0 k=aD.l5 k L0 (k'+1) from by rw [← e]];rfl
 rw [e1];unfold aD.b5;rw [aT (by omega) (by omega),Int.toNat_natCast,ha];refine (congrArg (fun z=>bif f then _ else Option.bind z _) (Nb hk h s a)).trans ?_;rw [ac,aF (n:=(i:Int)+1) (by omega) (by omega)];cases f <;> rfl
theorem MK (f:Bool):aD.l4 k L0 k q (i:Int) a.1 l (l.length:Int) (i:Int) f A.1.2.1 A.1.2.2.1 A.1.2.2.2.1 A.2.1.2.1 A.2.1.2.2.1 A.2.1.2.2.2.1 A.2.2.1.2.1 A.2.2.1.2.2.1 A.2.2.1.2.2.2.1 A.1.1 A.2.1.1 A.2.2.1.1 out s.1 s.2.1 s.2.2.1 s.2.2.2.1 s.2.2.2.2.1=bif f then rt L0 q l i (mE,A.2) (out++[(s.2.1,(A.1.2.1,(A.1.2.2.1,(fZ A.1.2.2.2.1,()))))]) else bif s.1==5&&(!(a.1==4)&&!(a.1==6)) then rt L0 q l i (mE,A.2) out else rt L0 q l i (mS A.1 s a,A.2) out:=by
 obtain ⟨k',e⟩:∃ k',k=k'+1:=⟨k-1,by omega⟩;have e1:aD.l4 k L0 k=aD.b4 k (aD.l5 k L0 k) L0:=by rw [show aD.l4 k L0 k=aD.l4 k L0 (k'+1) from by rw [← e]];rfl
 rw [e1];unfold aD.b4;rw [NO hk hi h ho hq ha,NO hk hi h ho hq ha,rE hk h.w,ac,bn (by omega) (by decide),aF (n:=(i:Int)+1) (by omega) (by omega)];simp only [bne];cases f <;> cases s.1==5 <;> cases a.1==4 <;> cases a.1==6 <;> rfl
theorem LH (f:Bool):aD.l3 k L0 k q (i:Int) a.1 l (l.length:Int) (i:Int) f A.1.2.1 A.1.2.2.1 A.1.2.2.2.1 A.2.1.2.1 A.2.1.2.2.1 A.2.1.2.2.2.1 A.2.2.1.2.1 A.2.2.1.2.2.1 A.2.2.1.2.2.2.1 A.1.1 A.2.1.1 A.2.2.1.1 out s.1 s.2.1 s.2.2.1 s.2.2.2.1 s.2.2.2.2.1=bif f then rt L0 q l i (mE,A.2) out else bif s.1==5&&a.1==0 then rt L0 q l i (mE,A.2) (out++[(s.2.1,(A.1.2.1,(A.1.2.2.1,(fZ A.1.2.2.2.1,()))))]) else bif s.1==5&&(!(a.1==4)&&!(a.1==6)) then rt L0 q l i (mE,A.2) out else rt L0 q l i (mS A.1 s a,A.2) out:=by
 obtain ⟨k',e⟩:∃ k',k=k'+1:=⟨k-1,by omega⟩;have e1:aD.l3 k L0 k=aD.b3 k (aD.l4 k L0 k) L0:=by rw [show aD.l3 k L0 k=aD.l3 k L0 (k'+1) from by rw [← e]];rfl
 rw [e1];unfold aD.b3;rw [MK hk hi h ho hq ha,MK hk hi h ho hq ha,aF (n:=(i:Int)+1) (by omega) (by omega)];cases f <;> cases s.1==5 <;> cases a.1==0 <;> rfl
theorem PI:aD.l2 k L0 k q (i:Int) a.1 l (l.length:Int) (i:Int) (s.1==1&&a.1==0) A.1.2.1 A.1.2.2.1 A.1.2.2.2.1 A.2.1.2.1 A.2.1.2.2.1 A.2.1.2.2.2.1 A.2.2.1.2.1 A.2.2.1.2.2.1 A.2.2.1.2.2.2.1 A.1.1 A.2.1.1 A.2.2.1.1 out s.1 s.2.1 s.2.2.1 s.2.2.2.1 s.2.2.2.2.1=rt L0 q l i ((j3 A.1 out s a).1,A.2) (j3 A.1 out s a).2:=by
 obtain ⟨k',e⟩:∃ k',k=k'+1:=⟨k-1,by omega⟩;have e1:aD.l2 k L0 k=aD.b2 k (aD.l3 k L0 k) L0:=by rw [show aD.l2 k L0 k=aD.l2 k L0 (k'+1) from by rw [← e]];rfl
 rw [e1];unfold aD.b2 j3;rw [LH hk hi h ho hq ha,LH hk hi h ho hq ha,aF (n:=(i:Int)+1) (by omega) (by omega)];cases s.1==1&&a.1==0 with
 | true=>rfl
 | false =>cases s.1==6 <;> cases a.1==0 <;> cases s.1==5 <;> cases (!(a.1==4)&&!(a.1==6)) <;> rfl
end
theorem Nl {k:Nat} (hk:2 ^ 50≤k) {A:P8} (h:PB A.2.1) (s:Ty.d aH) (a:Ty.d aK):dx.f k A s a=some ((A.1,(mS A.2.1 s a,A.2.2)),()):=by
 have h1:=h.r;have h2:=h.m;have h3:=h.w;unfold dx.f dx.t mS mA;rw [rh hk (t:=(false,([],A.2.1.2.2.2))) (by show A.2.1.2.2.2.1.length≤1000;omega),ac,bn (by omega) (by decide),bn (by omega) (by decide),bn (by omega) (by decide)];show (bif !A.2.1.1 then _ else _)=_;generalize (uY (ll A.2.1.2.2.2.1 s.2.2.1)).2.1=w;cases A.2.1.1 with
 | false=>rfl
 | true =>
  cases s.1==2 with
  | true=>cases a.1==0 <;> cases a.1==8 <;> cases w <;> cases s.1==3 <;> cases s.1==4 <;> rfl
  | false=>cases a.1==0 <;> cases s.1==3 <;> cases s.1==4 <;> rfl
section
variable {k:Nat} (hk:2 ^ 50≤k) {l:List (Ty.d aH)} {q:List (Ty.d aK)} {i:Nat} (hi:i≤1000) {A:P8} (h:PB A.2.1) {out:ir} (ho:out.length≤1000) {s:Ty.d aH} {a:Ty.d aK} {L0:aD.T0} (hq:i<q.length) (ha:List.getD q i (Ty.z aK)=a)
include hk hi h ho hq ha
theorem LY (f:Bool):aD.l9 k L0 k q (i:Int) l (l.length:Int) (i:Int) f A.1.2.1 A.1.2.2.1 A.1.2.2.2.1 A.2.1.2.1 A.2.1.2.2.1 A.2.1.2.2.2.1 A.2.2.1.2.1 A.2.2.1.2.2.1 A.2.2.1.2.2.2.1 A.1.1 A.2.1.1 A.2.2.1.1 out s.1 s.2.1 s.2.2.1 s.2.2.2.1 s.2.2.2.2.1=bif f then rt L0 q l i (A.1,(mE,A.2.2)) out else rt L0 q l i (A.1,(mS A.2.1 s a,A.2.2)) out:=by
 have ho:=ho;obtain ⟨k',e⟩:∃ k',k=k'+1:=⟨k-1,by omega⟩;have e1:aD.l9 k L0 k=aD.b9 k L0:=by rw [show aD.l9 k L0 k=aD.l9 k L0 (k'+1) from by rw [← e]];rfl
 rw [e1];unfold aD.b9;rw [aT (by omega) (by omega),Int.toNat_natCast,ha];refine (congrArg (fun z=>bif f then _ else Option.bind z _) (Nl hk h s a)).trans ?_;rw [ac,aF (n:=(i:Int)+1) (by omega) (by omega)];cases f <;> rfl
theorem Lz (f:Bool):aD.l8 k L0 k q (i:Int) a.1 l (l.length:Int) (i:Int) f A.1.2.1 A.1.2.2.1 A.1.2.2.2.1 A.2.1.2.1 A.2.1.2.2.1 A.2.1.2.2.2.1 A.2.2.1.2.1 A.2.2.1.2.2.1 A.2.2.1.2.2.2.1 A.1.1 A.2.1.1 A.2.2.1.1 out s.1 s.2.1 s.2.2.1 s.2.2.2.1 s.2.2.2.2.1=bif f then rt L0 q l i (A.1,(mE,A.2.2)) (out++[(s.2.1,(A.2.1.2.1,(A.2.1.2.2.1,(fZ A.2.1.2.2.2.1,()))))]) else bif s.1==5&&(!(a.1==4)&&!(a.1==6)) then rt L0 q l i (A.1,(mE,A.2.2)) out else rt L0 q l i (A.1,(mS A.2.1 s a,A.2.2)) out:=by
 obtain ⟨k',e⟩:∃ k',k=k'+1:=⟨k-1,by omega⟩;have e1:aD.l8 k L0 k=aD.b8 k (aD.l9 k L0 k) L0:=by rw [show aD.l8 k L0 k=aD.l8 k L0 (k'+1) from by rw [← e]];rfl
 rw [e1];unfold aD.b8;rw [LY hk hi h ho hq ha,LY hk hi h ho hq ha,rE hk h.w,ac,bn (by omega) (by decide),aF (n:=(i:Int)+1) (by omega) (by omega)];simp only [bne];cases f <;> cases s.1==5 <;> cases a.1==4 <;> cases a.1==6 <;> rfl
theorem LX (f:Bool):aD.l7 k L0 k q (i:Int) a.1 l (l.length:Int) (i:Int) f A.1.2.1 A.1.2.2.1 A.1.2.2.2.1 A.2.1.2.1 A.2.1.2.2.1 A.2.1.2.2.2.1 A.2.2.1.2.1 A.2.2.1.2.2.1 A.2.2.1.2.2.2.1 A.1.1 A.2.1.1 A.2.2.1.1 out s.1 s.2.1 s.2.2.1 s.2.2.2.1 s.2.2.2.2.1=bif f then rt L0 q l i (A.1,(mE,A.2.2)) out else bif s.1==5&&a.1==0 then rt L0 q l i (A.1,(mE,A.2.2)) (out++[(s.2.1,(A.2.1.2.1,(A.2.1.2.2.1,(fZ A.2.1.2.2.2.1,()))))]) else bif s.1==5&&(!(a.1==4)&&!(a.1==6)) then rt L0 q l i (A.1,(mE,A.2.2)) out else rt L0 q l i (A.1,(mS A.2.1 s a,A.2.2)) out:=by
 obtain ⟨k',e⟩:∃ k',k=k'+1:=⟨k-1,by omega⟩;have e1:aD.l7 k L0 k=aD.b7 k (aD.l8 k L0 k) L0:=by rw [show aD.l7 k L0 k=aD.l7 k L0 (k'+1) from by rw [← e]];rfl
 rw [e1];unfold aD.b7;rw [Lz hk hi h ho hq ha,Lz hk hi h ho hq ha,aF (n:=(i:Int)+1) (by omega) (by omega)];cases f <;> cases s.1==5 <;> cases a.1==0 <;> rfl
theorem Ot:aD.l6 k L0 k q (i:Int) a.1 l (l.length:Int) (i:Int) (s.1==1&&a.1==0) A.1.2.1 A.1.2.2.1 A.1.2.2.2.1 A.2.1.2.1 A.2.1.2.2.1 A.2.1.2.2.2.1 A.2.2.1.2.1 A.2.2.1.2.2.1 A.2.2.1.2.2.2.1 A.1.1 A.2.1.1 A.2.2.1.1 out s.1 s.2.1 s.2.2.1 s.2.2.2.1 s.2.2.2.2.1=rt L0 q l i (A.1,((j3 A.2.1 out s a).1,A.2.2)) (j3 A.2.1 out s a).2:=by
 obtain ⟨k',e⟩:∃ k',k=k'+1:=⟨k-1,by omega⟩;have e1:aD.l6 k L0 k=aD.b6 k (aD.l7 k L0 k) L0:=by rw [show aD.l6 k L0 k=aD.l6 k L0 (k'+1) from by rw [← e]];rfl
 rw [e1];unfold aD.b6 j3;rw [LX hk hi h ho hq ha,LX hk hi h ho hq ha,aF (n:=(i:Int)+1) (by omega) (by omega)];cases s.1==1&&a.1==0 with
 | true=>rfl
 | false =>cases s.1==6 <;> cases a.1==0 <;> cases s.1==5 <;> cases (!(a.1==4)&&!(a.1==6)) <;> rfl
end
theorem OW {k:Nat} (hk:2 ^ 50≤k) {A:P8} (h:PB A.2.2.1) (s:Ty.d aH) (a:Ty.d aK):dy.f k A s a=some ((A.1,(A.2.1,(mS A.2.2.1 s a,A.2.2.2))),()):=by
 have h1:=h.r;have h2:=h.m;have h3:=h.w;unfold dy.f dy.t mS mA;rw [rh hk (t:=(false,([],A.2.2.1.2.2.2))) (by show A.2.2.1.2.2.2.1.length≤1000;omega),ac,bn (by omega) (by decide),bn (by omega) (by decide),bn (by omega) (by decide)];show (bif !A.2.2.1.1 then _ else _)=_;generalize (uY (ll A.2.2.1.2.2.2.1 s.2.2.1)).2.1=w;cases A.2.2.1.1 with
 | false=>rfl
 | true =>
  cases s.1==2 with
  | true=>cases a.1==0 <;> cases a.1==8 <;> cases w <;> cases s.1==3 <;> cases s.1==4 <;> rfl
  | false=>cases a.1==0 <;> cases s.1==3 <;> cases s.1==4 <;> rfl
section
variable {k:Nat} (hk:2 ^ 50≤k) {l:List (Ty.d aH)} {q:List (Ty.d aK)} {i:Nat} (hi:i≤1000) {A:P8} (h:PB A.2.2.1) {out:ir} (ho:out.length≤1000) {s:Ty.d aH} {a:Ty.d aK} {L0:aD.T0} (hq:i<q.length) (ha:List.getD q i (Ty.z aK)=a)
include hk hi h ho hq ha
theorem LW (f:Bool):aD.l13 k L0 k q (i:Int) l (l.length:Int) (i:Int) f A.1.2.1 A.1.2.2.1 A.1.2.2.2.1 A.2.1.2.1 A.2.1.2.2.1 A.2.1.2.2.2.1 A.2.2.1.2.1 A.2.2.1.2.2.1 A.2.2.1.2.2.2.1 A.1.1 A.2.1.1 A.2.2.1.1 out s.1 s.2.1 s.2.2.1 s.2.2.2.1 s.2.2.2.2.1=bif f then rt L0 q l i (A.1,(A.2.1,(mE,A.2.2.2))) out else rt L0 q l i (A.1,(A.2.1,(mS A.2.2.1 s a,A.2.2.2))) out:=by
 have ho:=ho;obtain ⟨k',e⟩:∃ k',k=k'+1:=⟨k-1,by omega⟩;have e1:aD.l13 k L0 k=aD.b13 k L0:=by rw [show aD.l13 k L0 k=aD.l13 k L0 (k'+1) from by rw [← e]];rfl
 rw [e1];unfold aD.b13;rw [aT (by omega) (by omega),Int.toNat_natCast,ha];refine (congrArg (fun z=>bif f then _ else Option.bind z _) (OW hk h s a)).trans ?_;rw [ac,aF (n:=(i:Int)+1) (by omega) (by omega)];cases f <;> rfl
theorem ND (f:Bool):aD.l12 k L0 k q (i:Int) a.1 l (l.length:Int) (i:Int) f A.1.2.1 A.1.2.2.1 A.1.2.2.2.1 A.2.1.2.1 A.2.1.2.2.1 A.2.1.2.2.2.1 A.2.2.1.2.1 A.2.2.1.2.2.1 A.2.2.1.2.2.2.1 A.1.1 A.2.1.1 A.2.2.1.1 out s.1 s.2.1 s.2.2.1 s.2.2.2.1 s.2.2.2.2.1=bif f then rt L0 q l i (A.1,(A.2.1,(mE,A.2.2.2))) (out++[(s.2.1,(A.2.2.1.2.1,(A.2.2.1.2.2.1,(fZ A.2.2.1.2.2.2.1,()))))]) else bif s.1==5&&(!(a.1==4)&&!(a.1==6)) then rt L0 q l i (A.1,(A.2.1,(mE,A.2.2.2))) out else rt L0 q l i (A.1,(A.2.1,(mS A.2.2.1 s a,A.2.2.2))) out:=by
 obtain ⟨k',e⟩:∃ k',k=k'+1:=⟨k-1,by omega⟩;have e1:aD.l12 k L0 k=aD.b12 k (aD.l13 k L0 k) L0:=by rw [show aD.l12 k L0 k=aD.l12 k L0 (k'+1) from by rw [← e]];rfl
 rw [e1];unfold aD.b12;rw [LW hk hi h ho hq ha,LW hk hi h ho hq ha,rE hk h.w,ac,bn (by omega) (by decide),aF (n:=(i:Int)+1) (by omega) (by omega)];simp only [bne];cases f <;> cases s.1==5 <;> cases a.1==4 <;> cases a.1==6 <;> rfl
theorem Lu (f:Bool):aD.l11 k L0 k q (i:Int) a.1 l (l.length:Int) (i:Int) f A.1.2.1 A.1.2.2.1 A.1.2.2.2.1 A.2.1.2.1 A.2.1.2.2.1 A.2.1.2.2.2.1 A.2.2.1.2.1 A.2.2.1.2.2.1 A.2.2.1.2.2.2.1 A.1.1 A.2.1.1 A.2.2.1.1 out s.1 s.2.1 s.2.2.1 s.2.2.2.1 s.2.2.2.2.1=bif f then rt L0 q l i (A.1,(A.2.1,(mE,A.2.2.2))) out else bif s.1==5&&a.1==0 then rt L0 q l i (A.1,(A.2.1,(mE,A.2.2.2))) (out++[(s.2.1,(A.2.2.1.2.1,(A.2.2.1.2.2.1,(fZ A.2.2.1.2.2.2.1,()))))]) else bif s.1==5&&(!(a.1==4)&&!(a.1==6)) then rt L0 q l i (A.1,(A.2.1,(mE,A.2.2.2))) out else rt L0 q l i (A.1,(A.2.1,(mS A.2.2.1 s a,A.2.2.2))) out:=by
 obtain ⟨k',e⟩:∃ k',k=k'+1:=⟨k-1,by omega⟩;have e1:aD.l11 k L0 k=aD.b11 k (aD.l12 k L0 k) L0:=by rw [show aD.l11 k L0 k=aD.l11 k L0 (k'+1) from by rw [← e]];rfl
 rw [e1];unfold aD.b11;rw [ND hk hi h ho hq ha,ND hk hi h ho hq ha,aF (n:=(i:Int)+1) (by omega) (by omega)];cases f <;> cases s.1==5 <;> cases a.1==0 <;> rfl
theorem PF:aD.l10 k L0 k q (i:Int) a.1 l (l.length:Int) (i:Int) (s.1==1&&a.1==0) A.1.2.1 A.1.2.2.1 A.1.2.2.2.1 A.2.1.2.1 A.2.1.2.2.1 A.2.1.2.2.2.1 A.2.2.1.2.1 A.2.2.1.2.2.1 A.2.2.1.2.2.2.1 A.1.1 A.2.1.1 A.2.2.1.1 out s.1 s.2.1 s.2.2.1 s.2.2.2.1 s.2.2.2.2.1=rt L0 q l i (A.1,(A.2.1,((j3 A.2.2.1 out s a).1,A.2.2.2))) (j3 A.2.2.1 out s a).2:=by
 obtain ⟨k',e⟩:∃ k',k=k'+1:=⟨k-1,by omega⟩;have e1:aD.l10 k L0 k=aD.b10 k (aD.l11 k L0 k) L0:=by rw [show aD.l10 k L0 k=aD.l10 k L0 (k'+1) from by rw [← e]];rfl
 rw [e1];unfold aD.b10 j3;rw [Lu hk hi h ho hq ha,Lu hk hi h ho hq ha,aF (n:=(i:Int)+1) (by omega) (by omega)];cases s.1==1&&a.1==0 with
 | true=>rfl
 | false =>cases s.1==6 <;> cases a.1==0 <;> cases s.1==5 <;> cases (!(a.1==4)&&!(a.1==6)) <;> rfl
end
def qb (b:List (Ty.d aV)) (j:Nat):Ty.d aV:=b.getD j (Ty.z aV)
def pJ (st:pf) (j:Nat):NW:=((qb st.2.2 j).1,((sA st.2.1 j).2.1,((sA st.2.1 j).2.2.1,((qb st.2.2 j).2.2.1,()))))
def kM (st:pf):P8:=(pJ st 0,(pJ st 1,(pJ st 2,())))
theorem CQ {b:List (Ty.d aV)} (hl:b.length=3) {i:Nat} (h:i<3) (x:Ty.d aV) (j:Nat):qb (b.set i x) j=if j=i then x else qb b j:=by
 unfold qb;by_cases q:j=i
 · rw [if_pos q,q,kQ (by omega)]
 · rw [if_neg q,iW q]
section
variable {st:pf} {n:Nat} (h:HB n st) {j:Nat} (hj:j<3)
include h hj
theorem PX (o:ir) (x:Ty.d au) (t:Ty.d aV) (i:Nat):pJ (o,(st.2.1.set j x,st.2.2.set j t)) i=if i=j then (t.1,(x.2.1,(x.2.2.1,(t.2.2.1,())))) else pJ st i:=by
 unfold pJ;show ((qb (st.2.2.set j t) i).1,((sA (st.2.1.set j x) i).2.1,((sA (st.2.1.set j x) i).2.2.1,((qb (st.2.2.set j t) i).2.2.1,()))))=_;rw [CQ h.bl hj,AJ h.nl hj];by_cases q:i=j
 · rw [if_pos q,if_pos q,if_pos q]
 · rw [if_neg q,if_neg q,if_neg q]
theorem Ir (o:ir) (x:Ty.d au) (i:Nat):pJ (o,(st.2.1.set j x,st.2.2)) i=if i=j then ((qb st.2.2 j).1,(x.2.1,(x.2.2.1,((qb st.2.2 j).2.2.1,())))) else pJ st i:=by
 unfold pJ;show ((qb st.2.2 i).1,((sA (st.2.1.set j x) i).2.1,((sA (st.2.1.set j x) i).2.2.1,((qb st.2.2 i).2.2.1,()))))=_;rw [AJ h.nl hj];by_cases q:i=j
 · rw [if_pos q,if_pos q,q]
 · rw [if_neg q,if_neg q]
theorem OE (o:ir) (t:Ty.d aV) (i:Nat):pJ (o,(st.2.1,st.2.2.set j t)) i=if i=j then (t.1,((sA st.2.1 j).2.1,((sA st.2.1 j).2.2.1,(t.2.2.1,())))) else pJ st i:=by
 unfold pJ;show ((qb (st.2.2.set j t) i).1,((sA st.2.1 i).2.1,((sA st.2.1 i).2.2.1,((qb (st.2.2.set j t) i).2.2.1,()))))=_;rw [CQ h.bl hj];by_cases q:i=j
 · rw [if_pos q,if_pos q,q]
 · rw [if_neg q,if_neg q]
end
theorem Ep {st:pf} {j:Nat} (i:Nat):pJ st i=if i=j then pJ st j else pJ st i:=by
 by_cases q:i=j
 · rw [if_pos q,q]
 · rw [if_neg q]
theorem pL {p:NW} {s:Ty.d aH} {a:Ty.d aK} (h2:(s.1==2)=false) (h34:((s.1==3||s.1==4)&&a.1==0)=false):mS p s a=p:=by unfold mS;rw [h2,h34];cases p.1 <;> rfl
theorem Ni {st:pf} {n:Nat} (h:HB n st) {s:Ty.d aH} {a:Ty.d aK} (h9:(s.1==9&&a.1==0)=false) (r0:LE.le (α:=Int) 0 s.2.1) (r2:LE.le (α:=Int) s.2.1 2) :
 (∀ i,pJ (eT st s a) i=if i=s.2.1.toNat then (j3 (pJ st s.2.1.toNat) st.1 s a).1 else pJ st i)∧(eT st s a).1=(j3 (pJ st s.2.1.toNat) st.1 s a).2:=by
 have hj:s.2.1.toNat<3:=by omega
 have stay:eT st s a=st→j3 (pJ st s.2.1.toNat) st.1 s a=(pJ st s.2.1.toNat,st.1)→(∀ i,pJ (eT st s a) i=if i=s.2.1.toNat then (j3 (pJ st s.2.1.toNat) st.1 s a).1 else pJ st i)∧(eT st s a).1=(j3 (pJ st s.2.1.toNat) st.1 s a).2:=fun q1 q2=>by rw [q1,q2];exact ⟨fun i=>Ep i,rfl⟩
 by_cases hr:(1:Int)≤s.1∧s.1≤6
 · have hrg:(decide ((0:Int)≤s.2.1∧s.2.1≤2)&&decide ((1:Int)≤s.1∧s.1≤6))=true:=by rw [aW ⟨r0,r2⟩,aW hr];rfl
   have hM:eT st s a=mc (jz s a.1) st s a:=by unfold eT;rw [h9,hrg];rfl
   have put:∀ (b:Bool) (o:ir),eT st s a=(o,(st.2.1.set s.2.1.toNat (FT s.2.1),st.2.2.set s.2.1.toNat (b,([],([],())))))→j3 (pJ st s.2.1.toNat) st.1 s a=((b,([],([],([],())))),o)→(∀ i,pJ (eT st s a) i=if i=s.2.1.toNat then (j3 (pJ st s.2.1.toNat) st.1 s a).1 else pJ st i)∧(eT st s a).1=(j3 (pJ st s.2.1.toNat) st.1 s a).2:=fun b o q1 q2=>by rw [q1,q2];exact ⟨fun i=>PX h hj _ _ _ i,rfl⟩
   cases c5:s.1==5 with
   | true =>
    have n1:=b_ c5 (c:=1) (by decide);have n6:=b_ c5 (c:=6) (by decide);cases a0:a.1==0 with
    | true =>
     refine put false (st.1++[(s.2.1,((o9 st.2.1 s).2.1,((o9 st.2.1 s).2.2.1,(fZ (kI st.2.2 s).2.2.1,()))))]) ?_ ?_
     · rw [hM];unfold mc jz;rw [n1,n6,c5,a0];rfl
     · unfold j3;rw [n1,n6,c5,a0];rfl
    | false =>
     cases c46:(!(a.1==4)&&!(a.1==6)) with
     | true =>
      refine put false st.1 ?_ ?_
      · rw [hM];unfold mc jz;rw [n1,n6,c5,a0,c46];rfl
      · unfold j3;rw [n1,n6,c5,a0,c46];rfl
     | false =>
      refine stay ?_ ?_
      · rw [hM];unfold mc jz oH qU s8;rw [n1,n6,c5,a0,c46,b_ c5 (c:=2) (by decide),b_ c5 (c:=3) (by decide),b_ c5 (c:=4) (by decide)];cases (kI st.2.2 s).1 <;> rfl
      · unfold j3;rw [n1,n6,c5,a0,c46,pL (b_ c5 (c:=2) (by decide)) (by rw [a0,Bool.and_false])];rfl
   | false =>
    cases c1:s.1==1 with
    | true =>
     have n6:=b_ c1 (c:=6) (by decide);cases a0:a.1==0 with
     | true =>
      refine put true st.1 ?_ ?_
      · rw [hM];unfold mc jz;rw [c1,a0];rfl
      · unfold j3;rw [c1,a0];rfl
     | false =>
      refine stay ?_ ?_
      · rw [hM];unfold mc jz oH qU s8;rw [c1,n6,c5,a0,b_ c1 (c:=2) (by decide),b_ c1 (c:=3) (by decide),b_ c1 (c:=4) (by decide)];cases (kI st.2.2 s).1 <;> rfl
      · unfold j3;rw [c1,n6,c5,a0,pL (b_ c1 (c:=2) (by decide)) (by rw [a0,Bool.and_false])];rfl
    | false =>
     cases c6:s.1==6 with
     | true =>
      cases a0:a.1==0 with
      | true =>
       refine put false st.1 ?_ ?_
       · rw [hM];unfold mc jz;rw [c1,c6,a0];rfl
       · unfold j3;rw [c1,c6,a0];rfl
      | false =>
       refine stay ?_ ?_
       · rw [hM];unfold mc jz oH qU s8;rw [c1,c6,c5,a0,b_ c6 (c:=2) (by decide),b_ c6 (c:=3) (by decide),b_ c6 (c:=4) (by decide)];cases (kI st.2.2 s).1 <;> rfl
       · unfold j3;rw [c1,c6,c5,a0,pL (b_ c6 (c:=2) (by decide)) (by rw [a0,Bool.and_false])];rfl
     | false =>
      have hS:j3 (pJ st s.2.1.toNat) st.1 s a=(mS (pJ st s.2.1.toNat) s a,st.1):=by unfold j3;rw [c1,c6,c5];rfl
      have hM2:eT st s a=bif !(kI st.2.2 s).1 then st else oH (s.1==2&&(!(kE st.2.2 s)&&a.1==0)) st s a:=by rw [hM];unfold mc jz;rw [c1,c6,c5];rfl
      rw [hS,hM2];unfold mS;show (∀ i,pJ _ i=if i=s.2.1.toNat then (bif !(kI st.2.2 s).1 then _ else bif s.1==2&&(a.1==0&&!(kE st.2.2 s)) then _ else bif s.1==2&&(a.1==8&&!(kE st.2.2 s)) then _ else _:NW) else pJ st i)∧_;cases (kI st.2.2 s).1 with
      | false=>exact ⟨fun i=>Ep i,rfl⟩
      | true =>
       simp only [fw,aJ];unfold oH;rw [Bool.and_comm (a.1==0) (!(kE st.2.2 s)),Bool.and_comm (a.1==8) (!(kE st.2.2 s))];cases s.1==2&&(!(kE st.2.2 s)&&a.1==0) with
       | true=>exact ⟨fun i=>Ir h hj _ _ i,rfl⟩
       | false =>
        simp only [aJ];unfold qU;cases s.1==2&&(!(kE st.2.2 s)&&a.1==8) with
        | true=>exact ⟨fun i=>Ir h hj _ _ i,rfl⟩
        | false =>
         simp only [aJ];unfold s8;cases (s.1==3||s.1==4)&&a.1==0 with
         | true=>exact ⟨fun i=>OE h hj _ _ i,rfl⟩
         | false=>exact ⟨fun i=>Ep i,rfl⟩
 · have ne:∀ c:Int,1≤c→c≤6→(s.1==c)=false:=fun c h1 h6=>qi fun q=>hr (by rw [q];exact ⟨h1,h6⟩)
   refine stay (qa st h9 (aY hr)) ?_;unfold j3;rw [ne 1 (by decide) (by decide),ne 6 (by decide) (by decide),ne 5 (by decide) (by decide),pL (ne 2 (by decide) (by decide)) (by rw [ne 3 (by decide) (by decide),ne 4 (by decide) (by decide)];rfl)];rfl
theorem HB.pb {n:Nat} {st:pf} (h:HB n st) (hn:n≤1000) (j:Nat):PB (pJ st j):=by have h1:=o6 (P:=fun x:Ty.d au=>x.2.1.length≤n∧x.2.2.1.length≤n) (d:=Ty.z au) h.nr ⟨Nat.zero_le _,Nat.zero_le _⟩ j;have h2:=o6 (P:=fun x:Ty.d aV=>x.2.2.1.length≤n) (d:=Ty.z aV) h.bw (Nat.zero_le _) j;exact ⟨Nat.le_trans h1.1 hn,Nat.le_trans h1.2 hn,Nat.le_trans h2 hn⟩
section
variable {k:Nat} (hk:2 ^ 50≤k) {l:List (Ty.d aH)} {q:List (Ty.d aK)} {i:Nat} (hi:i≤1000) {st:pf} (h:HB i st) {s:Ty.d aH} {a:Ty.d aK} {L0:aD.T0} (hq:i<q.length) (ha:List.getD q i (Ty.z aK)=a)
include hk hi h hq ha
theorem PW (h9:(s.1==9&&a.1==0)=false):aD.l1 k L0 k q (i:Int) a.1 l (l.length:Int) (i:Int) (kM st).1.2.1 (kM st).1.2.2.1 (kM st).1.2.2.2.1 (kM st).2.1.2.1 (kM st).2.1.2.2.1 (kM st).2.1.2.2.2.1 (kM st).2.2.1.2.1 (kM st).2.2.1.2.2.1 (kM st).2.2.1.2.2.2.1 (kM st).1.1 (kM st).2.1.1 (kM st).2.2.1.1 st.1 s.1 s.2.1 s.2.2.1 s.2.2.2.1 s.2.2.2.2.1=rt L0 q l i (kM (eT st s a)) (eT st s a).1:=by
 obtain ⟨k',e⟩:∃ k',k=k'+1:=⟨k-1,by omega⟩;have ho:=h.ol;have e1:aD.l1 k L0 k=aD.b1 k (aD.l2 k L0 k) (aD.l6 k L0 k) (aD.l10 k L0 k) L0:=by rw [show aD.l1 k L0 k=aD.l1 k L0 (k'+1) from by rw [← e]];rfl
 rw [e1];unfold aD.b1;rw [iL,ac];simp only [];by_cases r:(0:Int)≤s.2.1∧s.2.1≤2
 · rw [aW r];simp only [fw,aJ];obtain ⟨p1,p2⟩:=Ni h h9 r.1 r.2;have c0:=PI hk (l:=l) hi (A:=kM st) (h.pb hi 0) (out:=st.1) (by omega) (s:=s) (a:=a) (L0:=L0) hq ha;have c1:=Ot hk (l:=l) hi (A:=kM st) (h.pb hi 1) (out:=st.1) (by omega) (s:=s) (a:=a) (L0:=L0) hq ha;have c2:=PF hk (l:=l) hi (A:=kM st) (h.pb hi 2) (out:=st.1) (by omega) (s:=s) (a:=a) (L0:=L0) hq ha;have key:s.2.1=0∨s.2.1=1∨s.2.1=2:=by
    have:∀ x:Int,0≤x→x≤2→x=0∨x=1∨x=2:=by omega
    exact this s.2.1 r.1 r.2
   have b01:∀ f:Bool→aD.Rs,(bif s.1==1 then f (a.1==0) else f false)=f (s.1==1&&a.1==0):=fun f=>by cases s.1==1 <;> rfl
   rcases key with g | g | g
   · have gn:s.2.1.toNat=0:=by rw [g];rfl
     rw [gn] at p1 p2;rw [show F2 s.2.1 0=true by rw [g];rfl,aa];refine (b01 fun f=>aD.l2 k L0 k q (i:Int) a.1 l (l.length:Int) (i:Int) f (kM st).1.2.1 (kM st).1.2.2.1 (kM st).1.2.2.2.1 (kM st).2.1.2.1 (kM st).2.1.2.2.1 (kM st).2.1.2.2.2.1 (kM st).2.2.1.2.1 (kM st).2.2.1.2.2.1 (kM st).2.2.1.2.2.2.1 (kM st).1.1 (kM st).2.1.1 (kM st).2.2.1.1 st.1 s.1 s.2.1 s.2.2.1 s.2.2.2.1 s.2.2.2.2.1).trans (c0.trans ?_);rw [p2];show rt L0 q l i ((j3 (pJ st 0) st.1 s a).1,(pJ st 1,(pJ st 2,()))) _=rt L0 q l i (pJ (eT st s a) 0,(pJ (eT st s a) 1,(pJ (eT st s a) 2,()))) _;rw [p1 0,p1 1,p1 2,if_pos rfl,if_neg (by decide),if_neg (by decide)];rfl
   · have gn:s.2.1.toNat=1:=by rw [g];rfl
     rw [gn] at p1 p2;rw [show F2 s.2.1 0=false by rw [g];rfl,aJ,show F2 s.2.1 1=true by rw [g];rfl,aa];refine (b01 fun f=>aD.l6 k L0 k q (i:Int) a.1 l (l.length:Int) (i:Int) f (kM st).1.2.1 (kM st).1.2.2.1 (kM st).1.2.2.2.1 (kM st).2.1.2.1 (kM st).2.1.2.2.1 (kM st).2.1.2.2.2.1 (kM st).2.2.1.2.1 (kM st).2.2.1.2.2.1 (kM st).2.2.1.2.2.2.1 (kM st).1.1 (kM st).2.1.1 (kM st).2.2.1.1 st.1 s.1 s.2.1 s.2.2.1 s.2.2.2.1 s.2.2.2.2.1).trans (c1.trans ?_);rw [p2];show rt L0 q l i (pJ st 0,((j3 (pJ st 1) st.1 s a).1,(pJ st 2,()))) _=rt L0 q l i (pJ (eT st s a) 0,(pJ (eT st s a) 1,(pJ (eT st s a) 2,()))) _;rw [p1 0,p1 1,p1 2,if_neg (by decide),if_pos rfl,if_neg (by decide)];rfl
   · have gn:s.2.1.toNat=2:=by rw [g];rfl
     rw [gn] at p1 p2;rw [show F2 s.2.1 0=false by rw [g];rfl,aJ,show F2 s.2.1 1=false by rw [g];rfl,aJ,show F2 s.2.1 2=true by rw [g];rfl,aa];refine (b01 fun f=>aD.l10 k L0 k q (i:Int) a.1 l (l.length:Int) (i:Int) f (kM st).1.2.1 (kM st).1.2.2.1 (kM st).1.2.2.2.1 (kM st).2.1.2.1 (kM st).2.1.2.2.1 (kM st).2.1.2.2.2.1 (kM st).2.2.1.2.1 (kM st).2.2.1.2.2.1 (kM st).2.2.1.2.2.2.1 (kM st).1.1 (kM st).2.1.1 (kM st).2.2.1.1 st.1 s.1 s.2.1 s.2.2.1 s.2.2.2.1 s.2.2.2.2.1).trans (c2.trans ?_);rw [p2];show rt L0 q l i (pJ st 0,(pJ st 1,((j3 (pJ st 2) st.1 s a).1,()))) _=rt L0 q l i (pJ (eT st s a) 0,(pJ (eT st s a) 1,(pJ (eT st s a) 2,()))) _;rw [p1 0,p1 1,p1 2,if_neg (by decide),if_neg (by decide),if_pos rfl];rfl
 · have e2:eT st s a=st:=by
    unfold eT;rw [h9,aY r];rfl
   rw [aY r,e2,aF (n:=(i:Int)+1) (by omega) (by omega)];rfl
theorem PY (hl:i<l.length) (hs:List.getD l i (Ty.z aH)=s):aD.b0 k (aD.l1 k L0 k) L0 q l (l.length:Int) (i:Int) (kM st).1.2.1 (kM st).1.2.2.1 (kM st).1.2.2.2.1 (kM st).2.1.2.1 (kM st).2.1.2.2.1 (kM st).2.1.2.2.2.1 (kM st).2.2.1.2.1 (kM st).2.2.1.2.2.1 (kM st).2.2.1.2.2.2.1 (kM st).1.1 (kM st).2.1.1 (kM st).2.2.1.1 st.1=rt L0 q l i (kM (eT st s a)) (eT st s a).1:=by
 unfold aD.b0;rw [aW (by omega),aa,aT (by omega) (by omega),aY (by omega),aJ,aT (by omega) (by omega),Int.toNat_natCast,hs,ha];cases c9:s.1==9&&a.1==0 with
 | false =>
  have e:=PW hk (l:=l) hi h (L0:=L0) hq ha (s:=s) c9;rw [e];revert c9;cases s.1==9 with
  | false=>exact fun _=>rfl
  | true =>
   cases a.1==0 with
   | false=>exact fun _=>rfl
   | true=>exact fun c9=>by cases c9
 | true =>
  rw [iE] at c9;obtain ⟨c9,c0⟩:=c9;rw [c9,c0];simp only [aa];have hz:HB i ((st.1,(List.replicate 3 (Ty.z au),List.replicate 3 (Ty.z aV))):pf):=⟨h.ol,rfl,rfl,fun x hx=>by rw [List.eq_of_mem_replicate hx];exact ⟨Nat.zero_le _,Nat.zero_le _⟩,fun x hx=>by rw [List.eq_of_mem_replicate hx];exact Nat.zero_le _⟩;have e9:s.1=9:=yd c9;have ho:=h.ol;obtain ⟨k',e⟩:∃ k',k=k'+1:=⟨k-1,by omega⟩;have e1:aD.l1 k L0 k=aD.b1 k (aD.l2 k L0 k) (aD.l6 k L0 k) (aD.l10 k L0 k) L0:=by rw [show aD.l1 k L0 k=aD.l1 k L0 (k'+1) from by rw [← e]];rfl
  have eM:eT st s a=(st.1,(List.replicate 3 (Ty.z au),List.replicate 3 (Ty.z aV))):=by unfold eT;rw [c9,c0];rfl
  have sP:∀ p:NW,j3 p st.1 s a=(p,st.1):=fun p=>by unfold j3;rw [b_ c9 (c:=1) (by decide),b_ c9 (c:=6) (by decide),b_ c9 (c:=5) (by decide),pL (b_ c9 (c:=2) (by decide)) (by rw [b_ c9 (c:=3) (by decide),b_ c9 (c:=4) (by decide)];rfl)];rfl
  rw [eM,e1];have c0':=PI hk (l:=l) hi (A:=kM (st.1,(List.replicate 3 (Ty.z au),List.replicate 3 (Ty.z aV)))) (hz.pb hi 0) (out:=st.1) (by omega) (s:=s) (a:=a) (L0:=L0) hq ha;have c1':=Ot hk (l:=l) hi (A:=kM (st.1,(List.replicate 3 (Ty.z au),List.replicate 3 (Ty.z aV)))) (hz.pb hi 1) (out:=st.1) (by omega) (s:=s) (a:=a) (L0:=L0) hq ha;have c2':=PF hk (l:=l) hi (A:=kM (st.1,(List.replicate 3 (Ty.z au),List.replicate 3 (Ty.z aV)))) (hz.pb hi 2) (out:=st.1) (by omega) (s:=s) (a:=a) (L0:=L0) hq ha;rw [sP,b_ c9 (c:=1) (by decide)] at c0' c1' c2';unfold aD.b1;rw [iL,ac,b_ c9 (c:=1) (by decide)];simp only [aJ];by_cases r:(0:Int)≤s.2.1∧s.2.1≤2
  · rw [aW r];simp only [fw,aJ];have key:s.2.1=0∨s.2.1=1∨s.2.1=2:=by
     have:∀ x:Int,0≤x→x≤2→x=0∨x=1∨x=2:=by omega
     exact this s.2.1 r.1 r.2
    rcases key with g | g | g
    · rw [show F2 s.2.1 0=true by rw [g];rfl,aa];exact c0'
    · rw [show F2 s.2.1 0=false by rw [g];rfl,aJ,show F2 s.2.1 1=true by rw [g];rfl,aa];exact c1'
    · rw [show F2 s.2.1 0=false by rw [g];rfl,aJ,show F2 s.2.1 1=false by rw [g];rfl,aJ,show F2 s.2.1 2=true by rw [g];rfl,aa];exact c2'
  · rw [aY r,aF (n:=(i:Int)+1) (by omega) (by omega)];rfl
end
theorem y8 {k:Nat} (hk:2 ^ 50≤k) {l:List (Ty.d aH)} {q:List (Ty.d aK)} (hl:l.length≤1000) (hlq:q.length=l.length):∀ (r:List (Ty.d aH)) (t:List (Ty.d aK)) (n i:Nat) (st:pf),l.drop i=r→q.drop i=t→i≤l.length→r.length<n→HB i st →
 aD.l0 k n q l (l.length:Int) (i:Int) (kM st).1.2.1 (kM st).1.2.2.1 (kM st).1.2.2.2.1 (kM st).2.1.2.1 (kM st).2.1.2.2.1 (kM st).2.1.2.2.2.1 (kM st).2.2.1.2.1 (kM st).2.2.1.2.2.1 (kM st).2.2.1.2.2.2.1 (kM st).1.1 (kM st).2.1.1 (kM st).2.2.1.1 st.1=some ((rl st r t).1,())
 | r,t,0,i,st,hd,hd2,hi,hn,h=>absurd hn (Nat.not_lt_zero _)
 | [],t,n+1,i,st,hd,hd2,hi,hn,h=>by have hlen:=congrArg List.length hd;rw [List.length_drop,List.length_nil] at hlen;simp only [aD.l0];unfold aD.b0;rw [aY (by omega),aJ];rfl
 | s::r,[],n+1,i,st,hd,hd2,hi,hn,h=>by have hlen:=congrArg List.length hd;rw [List.length_drop,j7] at hlen;have hlen2:=congrArg List.length hd2;rw [List.length_drop,List.length_nil] at hlen2;omega
 | s::r,a::t,n+1,i,st,hd,hd2,hi,hn,h=>by
  have hlen:=congrArg List.length hd;rw [List.length_drop,j7] at hlen;have hget:List.getD l i (Ty.z aH)=s:=by have:=congrArg (fun q=>q.getD 0 (Ty.z aH)) hd;simpa only [List.getD,List.getElem?_drop,Nat.add_zero,List.getElem?_cons_zero,Option.getD_some] using this
  have hget2:List.getD q i (Ty.z aK)=a:=by have:=congrArg (fun q=>q.getD 0 (Ty.z aK)) hd2;simpa only [List.getD,List.getElem?_drop,Nat.add_zero,List.getElem?_cons_zero,Option.getD_some] using this
  have hd3:l.drop (i+1)=r:=by have:=congrArg (List.drop 1) hd;rw [List.drop_drop] at this;exact this
  have hd4:q.drop (i+1)=t:=by have:=congrArg (List.drop 1) hd2;rw [List.drop_drop] at this;exact this
  have e:=PY hk (l:=l) (by omega) h (L0:=aD.l0 k n) (by omega) hget2 (by omega) hget;refine Eq.trans ?_ (e.trans (y8 hk hl hlq r t n (i+1) (eT st s a) hd3 hd4 (by omega) (by rw [j7] at hn;omega) (Gz h s a)));rfl
theorem Ff {k:Nat} (hk:2 ^ 50≤k) {l:List (Ty.d aH)} {q:List (Ty.d aK)} (hl:l.length≤1000) (hlq:q.length=l.length):aD.f k l q=some ((rl rq l q).1,()):=by unfold aD.f aD.t;exact y8 hk hl hlq l q k 0 rq rfl rfl (Nat.zero_le _) (by omega) G9
theorem Ol (k:Nat) {c:oM} (h:CI c) {n:Int} (h0:0<n) (h1:n≤256):pO (bS.f k c n) (fun r=>CI r.1):=su (oa k h h0 h1) fun _ q=>q.1
theorem PR {k:Nat} (hk:2 ^ 50≤k) {c:oM} (h:CI c) {m:Int} (h0:0≤m) (h1:m≤200):pO (fR.f k c m) (fun r=>CI r.1):=su (MS hk h h0 h1) fun _ q=>q.1
theorem PS (k:Nat) {c:oM} (h:CI c) {l:List ByteArray} (h0:0<l.length) (h1:l.length≤256):pO (d8.f k c l) (fun r=>CI r.1):=su (FA k h h0 h1) fun _ q=>q.1
theorem JZ {α:Type} {P:α→Prop} {b:Nat} {n:Int} {x:Option α} (h0:0≤n) (h1:n≤1099511627776) (hb:b≤128) (h:pO x P):pO (yl b n x) P:=by rw [IQ h0 h1 hb];exact h
abbrev Pt (s:Ty.d aH):Prop:=(s.1==11)=false
theorem LK (k:Nat) {c:oM} (h:CI c) {l:List Int} (h0:0<l.length) (h1:l.length≤256) (hl:∀ y ∈ l,(y==11)=false):pO (ah.f k c l) (fun r=>CI r.1∧(r.2.1==11)=false):=su (GX k h h0 h1) fun r q=>⟨q.1,hl _ q.2⟩
theorem Jr {k:Nat} (hk:2 ^ 50≤k) {c:oM} (h:CI c):pO (jk.f k c) (fun r=>CI r.1∧Pt r.2.1):=by
 unfold jk.f jk.t;refine gV (LK k h (by decide) (by decide) (by decide)) fun r1 q1=>?_
 obtain ⟨c1,n1⟩:=q1
 repeat' first
  | exact lT ⟨by assumption,rfl⟩
  | exact lT ⟨by assumption,n1⟩
  | exact lT ⟨by assumption,by assumption⟩
  | refine gV (Ol k (by assumption) (by omega) (by omega)) fun _ _=>?_
  | refine gV (OQ k (by assumption)) fun _ _=>?_
  | refine gV (PR hk (by assumption) (by omega) (by omega)) fun _ _=>?_
  | (refine gV (LK k (by assumption) (by decide) (by decide) (by decide)) fun _ q=>?_;obtain ⟨_,_⟩:=q)
  | refine gV (PS k (by assumption) (by decide) (by decide)) fun _ _=>?_
  | refine q7 (fun _=>?_) (fun _=>?_)
theorem wS {α:Type} {P:α→Prop} {l:List α} {x:α} (h:∀ s ∈ l,P s) (hx:P x):∀ s ∈ l++[x],P s:=fun s hs=>by
 rcases List.mem_append.1 hs with q | q
 · exact h s q
 · rw [List.mem_singleton.1 q];exact hx
theorem KZ {k:Nat} (hk:2 ^ 50≤k):∀ (m n:Nat) (c:oM) (out:List (Ty.d aH)) (rows:List Bool),m<n→CI c→out.length+2*m≤1000→rows.length=3→(∀ s ∈ out,Pt s) →
 pO (ez.l0 k n (m:Int) c.1 c.2.1 c.2.2.1 out rows) (fun r=>CI r.1∧r.2.1.length≤1000∧∀ s ∈ r.2.1,Pt s):=by
 intro m
 induction m with
 | zero =>intro n c out rows hn hc ho hr ha;obtain ⟨n,rfl⟩:∃ q,n=q+1:=⟨n-1,by omega⟩;simp only [ez.l0,ez.b0];exact Ls (aY (by omega)) (lT ⟨hc,by show out.length≤1000;omega,ha⟩)
 | succ m ih =>
  intro n c out rows hn hc ho hr ha;obtain ⟨n,rfl⟩:∃ q,n=q+1:=⟨n-1,by omega⟩;have hw:aQ (((m+1:Nat):Int)-1)=(m:Int):=by rw [aF (by omega) (by omega)];omega
  simp only [ez.l0,ez.b0,hw];refine Iw (aW (by omega)) (gV (Jr hk hc) fun r2 q2=>?_);obtain ⟨q2,n2⟩:=q2
  repeat' first
   | exact ih n _ _ _ (by omega) (by assumption) (by simp only [nE,List.length_singleton];omega) (by first | exact hr | rfl | (simp only [List.length_set];exact hr)) (by first | exact wS ha n2 | exact wS ha rfl | exact wS (wS ha n2) rfl)
   | refine gV (LL k (by assumption) (by omega) (by omega)) fun _ _=>?_
   | refine Lp (by first | omega | (simp only [nE,List.length_singleton];omega)) (by decide) ?_
   | refine JZ (by omega) (by omega) (by decide) ?_
   | refine oj (ML k _ _ _) (q7 (fun hq=>?_) (fun _=>?_))
   | refine DU (by have hq':=of_decide_eq_true hq;exact hq'.1) (by have hq':=of_decide_eq_true hq;exact Int.lt_of_le_of_lt hq'.2 (by rw [hr];decide)) ?_
   | refine q7 (fun _=>?_) (fun _=>?_)
theorem Dm {k:Nat} (hk:2 ^ 50≤k) {c:oM} (h:CI c):pO (ez.f k c 60) (fun r=>CI r.1∧r.2.1.length≤1000∧∀ s ∈ r.2.1,Pt s):=by unfold ez.f ez.t;rw [show aQ (60+1)=61 from by decide];refine JZ (by omega) (by omega) (by decide) (gV (oa k h (by omega) (by omega)) fun r q=>?_);obtain ⟨hc,a,b⟩:=q;have:=KZ hk r.2.1.toNat k r.1 [] (List.replicate (Int.toNat 3) (Ty.z .bool)) (by omega) hc (by simp only [List.length_nil];omega) rfl (fun s hs=>by cases hs);rw [show ((r.2.1.toNat:Nat):Int)=r.2.1 by omega] at this;exact this
theorem C3 {k:Nat} (hk:2 ^ 50≤k) {l:bV} (hl:l.length≤1048576):d9.f k l=some (l.map LS,()):=by
 unfold d9.f d9.t;refine (fj (L:=fun n i (s:bV)=>d9.l0 k n l i s) (R:=fun r s=>some (s++r.map LS,())) (Ty.z aB) l (fun i s=>(s.length:Int)≤i) (fun n s hs=>?_) (fun n i s x rest h0 h1 hx hr hp ih=>?_) (n:=k) (s:=[]) (by omega) (by decide)).trans (by rw [List.nil_append])
 · simp only [d9.l0,d9.b0];rw [aY (by omega),aJ,List.map_nil,List.append_nil]
 · simp only [d9.l0,d9.b0];rw [aW h1,aa]
   repeat rw [aT h0 h1]
   rw [hx,aF (n:=i+1) (by omega) (by omega),bn (by omega) (by decide)];refine (ih (s++[LS x]) (by rw [nE,List.length_singleton];omega)).trans ?_;rw [List.map_cons,oK];rfl
theorem tD {k:Nat} (hk:2 ^ 50≤k) {l:bV} (hl:l.length≤1048576):bW.f k l l=some (true,()):=by
 unfold bW.f bW.t;rw [bne_self_eq_false,aJ];refine fj (L:=fun n i (_:Unit)=>bW.l0 k n l l i) (R:=fun r _=>some (true,())) (Ty.z aB) l (fun _ _=>True) (fun n _ _=>?_) (fun n i _ x rest h0 h1 hx hr hp ih=>?_) (n:=k) (s:=()) (by omega) trivial
 · simp only [bW.l0,bW.b0];rw [aY (by omega),aJ]
 · simp only [bW.l0,bW.b0];rw [aW h1,aa]
   repeat rw [aT h0 h1]
   rw [hx,aF (n:=i+1) (by omega) (by omega),bQ,bQ,beq_self_eq_true];exact ih () trivial
theorem uf:∀ (l:List (Ty.d aH)) (m:Ty.d bB),(fm m l).2.length=l.length
 | [],_=>rfl
 | s::l,m=>congrArg (·+1) (uf l (jP m s).1)
theorem N0 {k:Nat} (hk:2 ^ 50≤k) {code:List Int} (hl:code.length≤1048576):pO (fU.f k code) (fun r=>r.1.length≤1000∧∀ s ∈ r.1,Pt s):=by
 unfold fU.f fU.t;refine gV (Na hk hl) fun r1 q1=>?_
 refine gV (Dm hk q1) fun r2 q2=>?_
 exact lT q2.2
theorem Ow:∀ (l:List (Ty.d aH)) {n:Int} {e:Ty.d bF} {m:Ty.d bB},ro n e m→n+(l.length:Int)≤82→(∀ s ∈ l,(s.1==11)=false)→∀ a1 x a2,me e l=a1++x::a2→(sq m.2.1 a1).length≤1000∧x.2.1.length≤1000
 | [],n,e,m,h,_,_,a1,x,a2,q=>by have:=congrArg List.length q;rw [nE,j7] at this;have:0=a1.length+(a2.length+1):=this;omega
 | s::l,n,e,m,h,hn,h11,a1,x,a2,q=>by
  rw [j7,Int.natCast_succ] at hn;obtain ⟨a,b⟩:=sO h (by omega) (h11 s il);have ih:=fun a1=>Ow l b (by omega) (fun q hq=>h11 q (kS _ hq)) a1 x a2
  have hm:=It (m:=m) s;have hmap:=h.mv.map;have hnet:=F7 h.ew s;have eb:0<(rL m s).length→@Eq Int e.2.1.2.2.1 m.2.2.1:=fun q=>by
   obtain ⟨st,_,_,r2,r3⟩:=h.st;cases up:e.1 with
   | true=>rw [r3 up];exact r2
   | false =>
    exfalso;have:rL m s=[]:=by unfold rL;rw [← h.up,up];cases s.1 != 5 <;> rfl
    rw [this] at q;exact absurd q (Nat.lt_irrefl _)
  have q:(bif (jG e s).2.1==0 then (bif decide (((ri e s).length:Int) > 0) then (e.2.1.2.2.1,(ri e s,()))::me (jG e s).1 l else me (jG e s).1 l) else me (jG e s).1 l)=a1++x::a2:=q;rw [a,Ay h] at q;rw [Ay h] at hnet;revert hm q;cases (jP m s).2.1==0 with
  | false =>intro hm q;have:=ih a1 q;rw [hm] at this;exact this
  | true =>
   cases c:decide (((rL m s).length:Int) > 0) with
   | false =>intro hm q;have:=ih a1 q;rw [hm] at this;exact this
   | true =>
    have c:=of_decide_eq_true c;intro hm q;rw [eb (by omega)] at q;simp only [aa] at q hm;cases a1 with
    | nil =>have e2:=(List.cons.inj q).1;exact ⟨Nat.le_trans hmap (by decide),by rw [← e2];exact hnet⟩
    | cons y a1 =>obtain ⟨e2,e3⟩:=List.cons.inj q;have:=ih a1 e3;rw [hm] at this;rw [← e2];exact this
def DT (k:Nat) (l:List (Ty.d aH)) (c N:Int) (q:List (Ty.d aK)) (acks:List (Ty.d m_)) (h:ir) (p:bV):bm.Rs :=
 bif ((List.length q:Int) != (List.length l:Int)) then some (false,()) else bif ((List.length h:Int) != N) then some (false,()) else
 (ap.f k h).bind fun r7=>bif !r7.1 then some (false,()) else (dJ.f k h).bind fun r8=>bif !r8.1 then some (false,()) else bif c==6 then some (true,()) else
 (d9.f k p).bind fun r9=>(cC.f k h).bind fun r10=>(d9.f k r10.1).bind fun r11=>(bW.f k r9.1 r11.1).bind fun r12=>bif r12.1 then ((dI.f k [] acks).bind fun r13=>(bW.f k p r13.1).bind fun r14=>some r14) else some (false,())
theorem Hb {k:Nat} {l:List (Ty.d aH)} (hl:l.length≤1000) {q:List (Ty.d aK)} (hlq:q.length=l.length) (c:Int) (x4:List Int) (x5:List (Ty.d aC)) (x6:List (Ty.d aB)) (x7:List (Ty.d aV)) (acks:List (Ty.d m_)) (x10:List (Ty.d aM)) (x11:Bool) (x12 x13 x14 x15 x16 x17:Int) (x18:Bool) (h:ir) (p:bV) :
 ∀ (r:List (Ty.d aH)) (t:List (Ty.d aK)) (n i N:Nat),l.drop i=r→q.drop i=t→i≤l.length→r.length<n→N≤i →
 bm.l1 k n l c (N:Int) (i:Int) x4 x5 x6 x7 q acks x10 x11 x12 x13 x14 x15 x16 x17 x18 h p=DT k l c ((N+BM r t:Nat):Int) q acks h p
 | r,t,0,i,N,hd,hd2,hi,hn,hN=>absurd hn (Nat.not_lt_zero _)
 | [],t,n+1,i,N,hd,hd2,hi,hn,hN=>by have hlen:=congrArg List.length hd;rw [List.length_drop,List.length_nil] at hlen;simp only [bm.l1,bm.b1];rw [aY (by omega),aJ];rfl
 | s::r,[],n+1,i,N,hd,hd2,hi,hn,hN=>by have hlen:=congrArg List.length hd;rw [List.length_drop,j7] at hlen;have hlen2:=congrArg List.length hd2;rw [List.length_drop,List.length_nil] at hlen2;omega
 | s::r,a::t,n+1,i,N,hd,hd2,hi,hn,hN=>by
  have hlen:=congrArg List.length hd;rw [List.length_drop,j7] at hlen;have hget:List.getD l i (Ty.z aH)=s:=by have:=congrArg (fun q=>q.getD 0 (Ty.z aH)) hd;simpa only [List.getD,List.getElem?_drop,Nat.add_zero,List.getElem?_cons_zero,Option.getD_some] using this
  have hget2:List.getD q i (Ty.z aK)=a:=by have:=congrArg (fun q=>q.getD 0 (Ty.z aK)) hd2;simpa only [List.getD,List.getElem?_drop,Nat.add_zero,List.getElem?_cons_zero,Option.getD_some] using this
  have hd3:l.drop (i+1)=r:=by have:=congrArg (List.drop 1) hd;rw [List.drop_drop] at this;exact this
  have hd4:q.drop (i+1)=t:=by have:=congrArg (List.drop 1) hd2;rw [List.drop_drop] at this;exact this
  rw [j7] at hn;have ih1:=Hb hl hlq c x4 x5 x6 x7 acks x10 x11 x12 x13 x14 x15 x16 x17 x18 h p r t n (i+1) N hd3 hd4 (by omega) (by omega) (by omega) (k:=k);have ih2:=Hb hl hlq c x4 x5 x6 x7 acks x10 x11 x12 x13 x14 x15 x16 x17 x18 h p r t n (i+1) (N+1) hd3 hd4 (by omega) (by omega) (by omega) (k:=k);simp only [bm.l1,bm.b1];rw [aW (by omega),aa,aW (by omega),aa,aT (by omega) (by omega),aT (by omega) (by omega),Int.toNat_natCast,hget,hget2,aF (n:=(i:Int)+1) (by omega) (by omega),aF (n:=(N:Int)+1) (by omega) (by omega)];rw [show ((i:Int)+1)=((i+1:Nat):Int) from rfl,show ((N:Int)+1)=((N+1:Nat):Int) from rfl,ih1,ih2];show _=DT k l c ((N+((bif s.1==5&&a.1==0 then 1 else 0)+BM r t):Nat):Int) q acks h p;cases s.1==5 with
  | false=>simp only [aJ,Bool.false_and,Nat.zero_add]
  | true =>
   cases a.1==0 with
   | false=>simp only [aJ,aa,Bool.true_and,Nat.zero_add]
   | true =>simp only [aa,Bool.true_and];rw [show N+1+BM r t=N+(1+BM r t) by omega]
theorem Mr {k:Nat}:∀ n,bm.l0 k n=bm.l1 k n
 | 0=>rfl
 | n+1=>by show bm.b0 k (bm.l0 k n)=bm.b1 k (bm.l1 k n);rw [Mr n];rfl
theorem KR {k:Nat} (hk:2 ^ 50≤k) {l:List (Ty.d aH)} (hl:l.length≤80) (h11:∀ s ∈ l,Pt s) {c:Int} {p:bV} (hp:c=6∨p=(fm nw l).1.2.1) :
 DT k l c ((BM l (fm nw l).2:Nat):Int) (fm nw l).2 (me (j_ (g6 (ik 100000))) l) (rl rq l (fm nw l).2).1 p=some (true,()):=by
 have hal:=CS l rI.2 (by omega) h11;have hse:=M9 l JO hal G9 (by omega) BK.new QA;have hlen:=uf l nw;have hcom:=AP l (st:=rq) JO BK.new;have hsim:=(zC l rI.2 (by omega) h11).2;have hmap:=hsim.mv.map;have hol:(rl rq l (fm nw l).2).1.length≤1000:=by
  have key:∀ (l:List (Ty.d aH)) (q:List (Ty.d aK)),BM l q≤l.length:=by
   intro l
   induction l with
   | nil=>intro q;exact Nat.le_refl _
   | cons s l ih =>
    intro q;cases q with
    | nil=>exact Nat.zero_le _
    | cons a q =>
     have:=ih q;rw [j7];show (bif s.1==5&&a.1==0 then 1 else 0)+BM l q≤_;cases s.1==5&&a.1==0
     · show 0+_≤_;omega
     · show 1+_≤_;omega
  have:=key l (fm nw l).2;rw [hcom];show 0+_≤_;omega
 have hh:(rl rq l (fm nw l).2).1.length=BM l (fm nw l).2:=by rw [hcom];exact Nat.zero_add _
 unfold DT;rw [hlen,bne_self_eq_false,aJ,hh,bne_self_eq_false,aJ,E5 hk hol hse.ok,ac];simp only [fw,aJ];rw [Dj hk hol hse.ok,ac];simp only [fw,aJ];rcases hp with hp | hp
 · rw [hp];rfl
 · cases c==6 with
   | true=>rfl
   | false =>
    have e1:(nS (rl rq l (fm nw l).2).1).map LS=(fm nw l).1.2.1.map LS:=by rw [hse.mp];unfold nF;rw [List.map_map];rfl
    have hsl:(nS (rl rq l (fm nw l).2).1).length≤900:=by rw [hse.mp];unfold nF;rw [List.length_map];exact hmap
    have ha:(me (j_ (g6 (ik 100000))) l).length≤1000:=by
     have key:∀ (l:List (Ty.d aH)) (e:Ty.d bF),(me e l).length≤l.length:=by
      intro l
      induction l with
      | nil=>intro e;exact Nat.le_refl _
      | cons s l ih =>
       intro e;have:=ih (jG e s).1;show (bif (jG e s).2.1==0 then (bif decide (((ri e s).length:Int) > 0) then (e.2.1.2.2.1,(ri e s,()))::me (jG e s).1 l else me (jG e s).1 l) else me (jG e s).1 l).length≤_;rw [j7];cases (jG e s).2.1==0 with
       | false=>show (me (jG e s).1 l).length≤_;omega
       | true =>
        cases decide (((ri e s).length:Int) > 0) with
        | false=>show (me (jG e s).1 l).length≤_;omega
        | true=>show (_::me (jG e s).1 l).length≤_;rw [j7];omega
     have:=key l (j_ (g6 (ik 100000)));omega
    have hf:=Ft l rI.2 (by omega) h11;have hf:sq [] (me (j_ (g6 (ik 100000))) l)=(fm nw l).1.2.1:=hf;simp only [aJ];rw [hp,C3 hk (by omega),ac];simp only [];rw [uM hk hol (B_ hse.ok),ac];simp only [];rw [C3 hk (by omega),ac];simp only [];rw [e1,tD hk (by rw [List.length_map];omega),ac];simp only [aa];rw [F0 hk ha (Ow l rI.2 (by omega) h11),ac];simp only [];rw [hf,tD hk (by omega)];rfl
theorem F_ {k:Nat} (hk:2 ^ 50≤k) {l:List (Ty.d aH)} (hl:l.length≤80) (h11:∀ s ∈ l,Pt s) :
 pO ((lh.f k l).bind fun r3=>(lA.f k r3.1).bind fun r4=>(aD.f k l r4.1.2.1).bind fun r5=>(fS.f k r4.1.1).bind fun r6 =>
  bm.l1 k k l r6.2.1 0 0 r4.1.1.2.1.1.2.1 r4.1.1.2.1.2.1 r4.1.1.2.2.1.1 r4.1.1.2.2.2.1 r4.1.2.1 r4.1.2.2.1 r4.1.2.2.2.1 r4.1.1.1 r4.1.1.2.1.1.1 r4.1.1.2.1.2.2.1 r4.1.1.2.1.2.2.2.1 r4.1.1.2.1.2.2.2.2.1 r4.1.1.2.2.1.2.1 r4.1.1.2.2.1.2.2.1 r4.1.1.2.2.1.2.2.2.1 r5.1 r6.1) (fun r=>r=(true,())):=by
 have hlen:=uf l nw;have hsim:=(zC l rI.2 (by omega) h11).2;refine oj (show lh.f k l=some ((100000,((-1),(l,()))),()) from rfl) ?_;refine oj (Fp hk (by omega) h11) ?_;have e1:(pQ (j_ (g6 (ik 100000)),([],([],([],())))) l).2.1=(fm nw l).2:=by have:=(zC l rI.2 (by omega) h11).1;show []++(lE (j_ (g6 (ik 100000))) l).2=_;rw [List.nil_append,this]
 have e2:(pQ (j_ (g6 (ik 100000)),([],([],([],())))) l).2.2.1=me (j_ (g6 (ik 100000))) l:=List.nil_append _;simp only [];rw [e1,e2];refine oj (Ff hk (by omega) hlen) ?_;have em:∃ (p:bV) (c:Int),fS.f k (pQ (j_ (g6 (ik 100000)),([],([],([],())))) l).1=some (p,(c,()))∧(c=6∨p=(fm nw l).1.2.1):=by
  show ∃ (p:bV) (c:Int),fS.f k (lE (j_ (g6 (ik 100000))) l).1=some (p,(c,()))∧(c=6∨p=(fm nw l).1.2.1);unfold fS.f fS.t;cases up:(lE (j_ (g6 (ik 100000))) l).1.1 with
  | false=>exact ⟨[],6,rfl,.inl rfl⟩
  | true =>obtain ⟨_,r1,_,_⟩:=hsim.store up;have ew:=hsim.ew;have hdir:=ew.dir up;refine ⟨(fm nw l).1.2.1,0,?_,.inr rfl⟩;simp only [fw,aJ];rw [yA hk ew.sz (by omega),r1];rfl
 obtain ⟨p,c,e3,hp⟩:=em;refine oj e3 ?_;simp only [];have e4:=Hb (k:=k) (l:=l) (by omega) hlen c (pQ (j_ (g6 (ik 100000)),([],([],([],())))) l).1.2.1.1.2.1 (pQ (j_ (g6 (ik 100000)),([],([],([],())))) l).1.2.1.2.1 (pQ (j_ (g6 (ik 100000)),([],([],([],())))) l).1.2.2.1.1 (pQ (j_ (g6 (ik 100000)),([],([],([],())))) l).1.2.2.2.1 (me (j_ (g6 (ik 100000))) l) (pQ (j_ (g6 (ik 100000)),([],([],([],())))) l).2.2.2.1 (pQ (j_ (g6 (ik 100000)),([],([],([],())))) l).1.1 (pQ (j_ (g6 (ik 100000)),([],([],([],())))) l).1.2.1.1.1 (pQ (j_ (g6 (ik 100000)),([],([],([],())))) l).1.2.1.2.2.1 (pQ (j_ (g6 (ik 100000)),([],([],([],())))) l).1.2.1.2.2.2.1 (pQ (j_ (g6 (ik 100000)),([],([],([],())))) l).1.2.1.2.2.2.2.1 (pQ (j_ (g6 (ik 100000)),([],([],([],())))) l).1.2.2.1.2.1 (pQ (j_ (g6 (ik 100000)),([],([],([],())))) l).1.2.2.1.2.2.1 (pQ (j_ (g6 (ik 100000)),([],([],([],())))) l).1.2.2.1.2.2.2.1 (rl rq l (fm nw l).2).1 p l (fm nw l).2 k 0 0 rfl rfl (Nat.zero_le _) (by omega) (Nat.le_refl _);rw [Nat.zero_add,KR hk hl h11 hp] at e4;exact ⟨_,e4,rfl⟩
theorem I3 {k:Nat} (hk:2 ^ 50≤k) {code:List Int}:bm.f k code=some (true,()):=by
 refine QE ?_;unfold bm.f bm.t;have hbig:qg.f k code=some (decide ((code.length:Int) > 1048576),()):=rfl;refine oj hbig ?_;refine q7 (fun _=>lT rfl) fun hbg=>?_
 have hl:code.length≤1048576:=by have:=of_decide_eq_false hbg;omega
 refine gV (N0 hk hl) fun r2 q2=>?_
 obtain ⟨z1,z2⟩:=q2;refine q7 (fun c=>?_) fun c=>?_
 · have c:=of_decide_eq_true c;refine Oi (by omega) (by omega) ?_;have ht:(List.take 80 r2.1).length≤80:=by rw [List.length_take];omega
   rw [Mr];exact F_ hk ht fun s hs=>z2 s (List.mem_of_mem_take hs)
 · have c:=of_decide_eq_false c;exact F_ hk (by omega) z2
theorem fnSerial_pure:∀ x,Wf (tup [.slice (.int .u8)]) x→∃ k r,bm.f k x.1=some r∧pM (B:=[.bool]) (hZ ([.val (.slice (.int .u8))])) r=(true,()):=by
 rintro ⟨a0,_⟩ ⟨f0,_⟩
 suffices Ev (fun k=>bm.f k a0) (true,()) by obtain ⟨k,h⟩:=this.some;exact ⟨k,(true,()),h,rfl⟩
 exact QP fun k hk=>I3 hk
end Go.Proofs.YtaaincbnjkmapaaGreatDoor.G
