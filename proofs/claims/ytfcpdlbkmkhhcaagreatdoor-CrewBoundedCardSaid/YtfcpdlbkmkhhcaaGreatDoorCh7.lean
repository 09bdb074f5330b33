/-
  Texts of this claim, joined. No condition.
-/
import Derived.Test.YtfcpdlbkmkhhcaaGreatDoorCh1
import Derived.Test.YtfcpdlbkmkhhcaaGreatDoorCh6
namespace Go.Proofs.YtfcpdlbkmkhhcaaGreatDoor
set_option maxRecDepth 100000
set_option maxHeartbeats 40000000
namespace Ex
open Go
variable [au]
section
variable {P:Program}{ρ ρ':Ren}
theorem MR.modify {nv:AV}{key y:Value}:∀ {es:List (AV×AV)} {xs:List MapEntry} (j:Nat),MR ρ es xs→(∀ x,xs[j]?=some x→x.key=key)→VR ρ nv y→MR ρ (es.modify j fun p=>(p.1,nv)) (xs.modify j fun e=>{ e with key:=key,val:=y })
 |[],xs,j,h,_,_=>by
  have:xs=[]:=h;subst this;simpa using h
 |p::es,xs,0,h,hk,hv=>by
  obtain⟨x,xs',rfl,h1,h2,h3⟩:=h;have:=hk x rfl;exact⟨_,xs',rfl,by rw[← this];exact h1,hv,h3⟩
 |p::es,xs,j+1,h,hk,hv=>by
  obtain⟨x,xs',rfl,h1,h2,h3⟩:=h;simp only[List.modify_succ_cons];exact⟨x,_,rfl,h1,h2,MR.modify j h3 (fun z hz=>hk z (by simpa using hz)) hv⟩
theorem MR.erase:∀ {es:List (AV×AV)} {xs:List MapEntry} (j:Nat),MR ρ es xs→MR ρ (es.eraseIdx j) (xs.eraseIdx j)
 |[],xs,j,h=>by
  have:xs=[]:=h;subst this;simpa using h
 |p::es,xs,0,h=>by
  obtain⟨x,xs',rfl,h1,h2,h3⟩:=h;simpa using h3
 |p::es,xs,j+1,h=>by
  obtain⟨x,xs',rfl,h1,h2,h3⟩:=h;simp only[List.eraseIdx_cons_succ];exact⟨x,_,rfl,h1,h2,MR.erase j h3⟩
theorem MR.push:∀ {es:List (AV×AV)} {xs:List MapEntry} {p:AV×AV} {e:MapEntry},MR ρ es xs→VR ρ p.1 e.key→VR ρ p.2 e.val→MR ρ (es++[p]) (xs++[e])
 |[],xs,p,e,h,h1,h2=>by
  have:xs=[]:=h;subst this;exact⟨e,[],rfl,h1,h2,rfl⟩
 |q::es,xs,p,e,h,h1,h2=>by
  obtain⟨e',xs',rfl,k1,k2,k3⟩:=h;exact⟨e',_,rfl,k1,k2,MR.push k3 h1 h2⟩
omit [au] in
theorem Gb {r:Nat}{w:World}{xs:Array MapEntry}{c:Nat}(h:w.heap[r]?=some (.map xs c))(o:Obj):(setObj r o).run P w = .ok () { w with heap:=w.heap.setIfInBounds r o }:=by
 simp only[setObj,Sem.run,h]
omit [au] in
theorem SA (f:MapEntry→MapEntry)(hf:∀ e,(f e).born=e.born):∀ (l:List MapEntry) (j:Nat),(l.modify j f).map (·.born)=l.map (·.born)
 |[],j=>by simp
 |e::l,0=>by simp[hf]
 |e::l,j+1=>by simp[SA f hf l j]
theorem XL {t:TypeId}{vs:List AV}{h h':AH}{v:AV}{w:World}{u1 u2 u3:Value}(ha:aloud.lH P t vs h=some (.val v h'))(hr:HR ρ h.get h.next w)(hv:aH ρ vs [u1,u2,u3]) :
 ∃ w',(Instr.mapUpdate t u1 u2 u3).run P w = .ok () w'∧Stp ρ h.get h.next w ρ h'.get h'.next w'∧v=und:=by
 unfold aloud.lH at ha;split at ha<;>try(cases ha;done)
 rename_i kt et hu;split at ha<;>try(cases ha;done)
 rename_i n ky nv;obtain⟨y1,y2,y3,hy,h1,h2,h3⟩:=hv.three;simp only[List.cons.injEq,and_true]at hy;obtain⟨rfl,rfl,rfl⟩:=hy;unfold VR at h1;obtain⟨b,s,hb,rfl⟩:=h1;split at ha<;>try(cases ha;done)
 rename_i es bs ck hg;obtain⟨b',s',dP,hO⟩:=hr.obj _ _ hg;rw[hb]at dP;cases dP;obtain⟨xs,hx,hm,lY⟩:=hO;have aK:b<w.heap.size:=(Array.getElem?_eq_some_iff.1 hx).1;obtain⟨r0,kg⟩:∃ r0,vO P kt es ky=some r0:=by
  cases hl:vO P kt es ky with
  |none=>rw[hl]at ha;cases ha
  |some r=>exact⟨r,rfl⟩
 obtain⟨uQ,Ij,gZ⟩:=Ph kg hm h2;have qi:=uQ false w;have iT:=Ij w;rw[kg]at ha;split at ha<;>try(cases ha;done)
 ·rename_i j u heq
  cases heq;simp only[ZlP,AN.val.injEq]at ha;obtain⟨rfl,rfl⟩:=ha;obtain⟨e,g1,g2,g3⟩:∃ e:MapEntry,(∀ w,(Instr.findKey kt u2 xs.toList).run P w = .ok (some (j,e.val)) w)∧xs.toList[j]?=some e∧e.key=u2:=by
   rcases gZ with⟨g,_⟩|⟨j',v',x',g,g1,g2,g3,g4⟩
   ·cases g
   ·cases g
    exact⟨x',g1,g2,g3⟩
  have lg:=g1 w;have Rl:xs[j]?=some e:=by simpa using g2
  refine⟨{ w with heap:=w.heap.setIfInBounds b (.map (xs.modify j fun e=>{ e with key:=u2,val:=u3 }) ck) },?_,?_,rfl⟩
  ·unfold Instr.mapUpdate
   simp only[Zxy,run_underlying hu w,Zxs,wN hx,qi,lg,Rl,Option.map_some,Option.getD_some,g3,iT,Gb hx]
  ·rw[qZ]
   refine Stp.change hr (n:=n) (b:=b) (s:=s) (by rw[hg];rfl) hb (o:=.map (es.modify j fun p=>(p.1,nv)) bs ck) ?_ rfl rfl rfl (by simp) (fun q _ hq=>by simp[Ne.symm hq]) ?_
   ·refine⟨xs.modify j fun e=>{ e with key:=u2,val:=u3 },by simp[aK],?_,?_⟩
    ·have:=MR.modify (ρ:=ρ) (nv:=nv) (key:=u2) (y:=u3) j hm (fun z hz=>by rw[g2]at hz;cases hz;exact g3) h3
     simpa using this
    ·rw[← lY]
     simpa using SA (fun e=>{ e with key:=u2,val:=u3 }) (fun _=>rfl) xs.toList j
   ·intro q o' gU
    rcases nX gU with⟨q1,q2⟩|q1
    ·exact .inl ⟨q1,by cases q2;rfl⟩
    ·exact .inr q1
 ·rename_i heq
  cases heq;simp only[ZlP,AN.val.injEq]at ha;obtain⟨rfl,rfl⟩:=ha;have g1:∀ w,(Instr.findKey kt u2 xs.toList).run P w = .ok none w:=by
   rcases gZ with⟨_,g⟩|⟨_,_,_,g,_⟩
   ·exact g
   ·cases g
  have lg:=g1 w;refine⟨{ w with heap:=w.heap.setIfInBounds b (.map (xs.push { key:=u2,val:=u3,born:=ck }) (ck+1)) },?_,?_,rfl⟩
  ·unfold Instr.mapUpdate
   simp only[Zxy,run_underlying hu w,Zxs,wN hx,qi,lg,Gb hx]
  ·rw[qZ]
   refine Stp.change hr (n:=n) (b:=b) (s:=s) (by rw[hg];rfl) hb (o:=.map (es++[(ky,nv)]) (bs++[ck]) (Nat.add ck 1)) ?_ rfl rfl rfl (by simp) (fun q _ hq=>by simp[Ne.symm hq]) ?_
   ·refine⟨xs.push { key:=u2,val:=u3,born:=ck },by simp[aK],?_,?_⟩
    ·simp only[Array.toList_push]
     exact hm.push h2 h3
    ·simp[← lY]
   ·intro q o' gU
    rcases nX gU with⟨q1,q2⟩|q1
    ·exact .inl ⟨q1,by cases q2;rfl⟩
    ·exact .inr q1
omit [au] in
theorem YP {α β:Type}(f:α→β):∀ (l:List α) (j:Nat),(l.eraseIdx j).map f=(l.map f).eraseIdx j
 |[],j=>by simp
 |a::l,0=>by simp
 |a::l,j+1=>by simp[YP f l j]
theorem Zjz {t:TypeId}{vs:List AV}{h h':AH}{v:AV}{w:World}{u1 u2:Value}{argTypes:Array TypeId}{ty:TypeId}(gK:argTypes[0]?=some t)(ha:aloud.nV P t vs h=some (.val v h'))(hr:HR ρ h.get h.next w)(hv:aH ρ vs [u1,u2]) :
 ∃ w',(Builtin.delete_ argTypes ty #[u1,u2]).run P w = .ok (.tuple #[]) w'∧Stp ρ h.get h.next w ρ h'.get h'.next w'∧v=und:=by
 unfold aloud.nV at ha;split at ha<;>try(cases ha;done)
 rename_i kt et hu;split at ha<;>try(cases ha;done)
 rename_i n ky;obtain⟨y1,y2,hy,h1,h2⟩:=hv.two;simp only[List.cons.injEq,and_true]at hy;obtain⟨rfl,rfl⟩:=hy;unfold VR at h1;obtain⟨b,s,hb,rfl⟩:=h1;split at ha<;>try(cases ha;done)
 rename_i es bs ck hg;obtain⟨b',s',dP,hO⟩:=hr.obj _ _ hg;rw[hb]at dP;cases dP;obtain⟨xs,hx,hm,lY⟩:=hO;have aK:b<w.heap.size:=(Array.getElem?_eq_some_iff.1 hx).1;obtain⟨r0,kg⟩:∃ r0,vO P kt es ky=some r0:=by
  cases hl:vO P kt es ky with
  |none=>rw[hl]at ha;cases ha
  |some r=>exact⟨r,rfl⟩
 obtain⟨uQ,-,gZ⟩:=Ph kg hm h2;have qi:=uQ xs.isEmpty w;rw[kg]at ha;split at ha<;>try(cases ha;done)
 ·rename_i heq
  cases heq;simp only[ZlP,AN.val.injEq]at ha;obtain⟨rfl,rfl⟩:=ha;have g1:∀ w,(Instr.findKey kt u2 xs.toList).run P w = .ok none w:=by
   rcases gZ with⟨_,g⟩|⟨_,_,_,g,_⟩
   ·exact g
   ·cases g
  have lg:=g1 w;refine⟨{ w with heap:=w.heap.setIfInBounds b (.map xs ck) },?_,?_,rfl⟩
  ·unfold Builtin.delete_
   simp only[gK,Zx3,ZxN,List.getElem?_cons_succ,Zxy,run_underlying hu w,Zxs,wN hx,qi,lg,Gb hx];rfl
  ·rw[qZ]
   refine Stp.change hr (n:=n) (b:=b) (s:=s) (by rw[hg];rfl) hb (o:=.map es bs ck) ?_ rfl rfl rfl (by simp) (fun q _ hq=>by simp[Ne.symm hq]) ?_
   ·exact⟨xs,by simp[aK],hm,lY⟩
   ·intro q o' gU
    rcases nX gU with⟨q1,q2⟩|q1
    ·exact .inl ⟨q1,by cases q2;rfl⟩
    ·exact .inr q1
 ·rename_i j u heq
  cases heq;simp only[ZlP,AN.val.injEq]at ha;obtain⟨rfl,rfl⟩:=ha;obtain⟨x,g1,g2⟩:∃ x,(∀ w,(Instr.findKey kt u2 xs.toList).run P w = .ok (some (j,x)) w)∧j<xs.toList.length:=by
   rcases gZ with⟨g,_⟩|⟨j',v',x',g,g1,g2,g3,g4⟩
   ·cases g
   ·cases g
    exact⟨_,g1,(List.getElem?_eq_some_iff.1 g2).1⟩
  have g3:=MR.erase j hm;have lg:=g1 w;refine⟨{ w with heap:=w.heap.setIfInBounds b (.map (xs.eraseIdxIfInBounds j) ck) },?_,?_,rfl⟩
  ·unfold Builtin.delete_
   simp only[gK,Zx3,ZxN,List.getElem?_cons_succ,Zxy,run_underlying hu w,Zxs,wN hx,qi,lg,Gb hx];rfl
  ·rw[qZ]
   have hj:j<xs.size:=(by simpa using g2);have he:(xs.eraseIdxIfInBounds j).toList=xs.toList.eraseIdx j:=(by simp[Array.eraseIdxIfInBounds,hj]);refine Stp.change hr (n:=n) (b:=b) (s:=s) (by rw[hg];rfl) hb (o:=.map (es.eraseIdx j) (bs.eraseIdx j) ck) ?_ rfl rfl rfl (by simp) (fun q _ hq=>by simp[Ne.symm hq]) ?_
   ·refine⟨xs.eraseIdxIfInBounds j,by simp[aK],by rw[he];exact g3,?_⟩
    rw[he,← lY,YP]
   ·intro q o' gU
    rcases nX gU with⟨q1,q2⟩|q1
    ·exact .inl ⟨q1,by cases q2;rfl⟩
    ·exact .inr q1
omit [au] in
theorem ZkV {xs:Array MapEntry}{j:Nat}{e:MapEntry}(h:xs[j]?=some e):xs.modify j (fun x=>{ x with key:=e.key })=xs:=by
 apply Array.ext';rw[Array.toList_modify];apply List.ext_getElem?;intro i;rw[List.getElem?_modify];have h':xs.toList[j]?=some e:=by simpa using h
 by_cases hi:j=i
 ·subst hi
  rw[h'];simp
 ·simp[hi]
theorem ZjA {t:TypeId}{vs:List AV}{h h':AH}{v:AV}{w:World}{u1 u2:Value}(ha:aloud.qz P t vs h=some (.val v h'))(hr:HR ρ h.get h.next w)(hv:aH ρ vs [u1,u2]) :
 ∃ y w',(Instr.mapEntry t u1 u2).run P w = .ok y w'∧Stp ρ h.get h.next w ρ h'.get h'.next w'∧VR ρ v y:=by
 unfold aloud.qz at ha;split at ha<;>try(cases ha;done)
 rename_i kt et hu;split at ha<;>try(cases ha;done)
 rename_i n ky;obtain⟨y1,y2,hy,h1,h2⟩:=hv.two;simp only[List.cons.injEq,and_true]at hy;obtain⟨rfl,rfl⟩:=hy;unfold VR at h1;obtain⟨b,s,hb,rfl⟩:=h1;split at ha<;>try(cases ha;done)
 rename_i es bs ck hg;obtain⟨b',s',dP,hO⟩:=hr.obj _ _ hg;rw[hb]at dP;cases dP;obtain⟨xs,hx,hm,lY⟩:=hO;have aK:b<w.heap.size:=(Array.getElem?_eq_some_iff.1 hx).1;obtain⟨r0,kg⟩:∃ r0,vO P kt es ky=some r0:=by
  cases hl:vO P kt es ky with
  |none=>rw[hl]at ha;cases ha
  |some r=>exact⟨r,rfl⟩
 obtain⟨uQ,Ij,gZ⟩:=Ph kg hm h2;have qi:=uQ false w;have iT:=Ij w;rw[kg]at ha;split at ha<;>try(cases ha;done)
 ·rename_i j u heq
  cases heq;split at ha<;>try(cases ha;done)
  rename_i stamp aW;simp only[ZlP,AN.val.injEq]at ha;obtain⟨rfl,rfl⟩:=ha;obtain⟨e,g1,g2,g3,g4⟩:∃ e:MapEntry,(∀ w,(Instr.findKey kt u2 xs.toList).run P w = .ok (some (j,e.val)) w)∧xs.toList[j]?=some e∧e.key=u2∧VR ρ u e.val:=by
   rcases gZ with⟨g,_⟩|⟨j',v',x',g,g1,g2,g3,g4⟩
   ·cases g
   ·cases g
    exact⟨x',g1,g2,g3,g4⟩
  have lg:=g1 w;have Rl:xs[j]?=some e:=by simpa using g2
  have M8:e.born=stamp:=by
   have:(xs.toList.map (·.born))[j]?=some e.born:=(by rw[List.getElem?_map,g2];rfl);rw[lY,aW]at this;exact(ZxZ this).symm
  refine⟨.tuple #[e.val,goInt e.born],{ w with heap:=w.heap.setIfInBounds b (.map xs ck) },?_,?_,?_⟩
  ·unfold Instr.mapEntry
   have NT:=ZkV Rl;rw[g3]at NT;simp only[Zxy,run_underlying hu w,Zxs,wN hx,qi,lg,Rl,Option.map_some,Option.getD_some,g3,iT,Gb hx,NT,ZxM]
  ·rw[qZ]
   refine Stp.change hr (n:=n) (b:=b) (s:=s) (by rw[hg];rfl) hb (o:=.map es bs ck) ?_ rfl rfl rfl (by simp) (fun q _ hq=>by simp[Ne.symm hq]) ?_
   ·exact⟨xs,by simp[aK],hm,lY⟩
   ·intro q o' gU
    rcases nX gU with⟨q1,q2⟩|q1
    ·exact .inl ⟨q1,by cases q2;rfl⟩
    ·exact .inr q1
  ·unfold VR
   exact⟨_,rfl,aH.cons g4 (aH.cons (by unfold VR;rw[M8];rfl) aH.nil)⟩
 ·rename_i heq
  cases heq;split at ha<;>try(cases ha;done)
  rename_i z hz;simp only[ZlP,AN.val.injEq]at ha;obtain⟨rfl,rfl⟩:=ha;obtain⟨_,zv,_,_,j3,sH⟩:=EG hz;have Bb:=Bu ρ j3;have g1:∀ w,(Instr.findKey kt u2 xs.toList).run P w = .ok none w:=by
   rcases gZ with⟨_,g⟩|⟨_,_,_,g,_⟩
   ·exact g
   ·cases g
  have lg:=g1 w;refine⟨.tuple #[zv,goInt ck],{ w with heap:=w.heap.setIfInBounds b (.map (xs.push { key:=u2,val:=zv,born:=ck }) (ck+1)) },?_,?_,?_⟩
  ·unfold Instr.mapEntry
   simp only[Zxy,run_underlying hu w,Zxs,wN hx,qi,lg,sH w,Gb hx,ZxM]
  ·rw[qZ]
   refine Stp.change hr (n:=n) (b:=b) (s:=s) (by rw[hg];rfl) hb (o:=.map (es++[(ky,z)]) (bs++[ck]) (Nat.add ck 1)) ?_ rfl rfl rfl (by simp) (fun q _ hq=>by simp[Ne.symm hq]) ?_
   ·refine⟨xs.push { key:=u2,val:=zv,born:=ck },by simp[aK],?_,?_⟩
    ·simp only[Array.toList_push]
     exact hm.push h2 Bb
    ·simp[← lY]
   ·intro q o' gU
    rcases nX gU with⟨q1,q2⟩|q1
    ·exact .inl ⟨q1,by cases q2;rfl⟩
    ·exact .inr q1
  ·unfold VR
   exact⟨_,rfl,aH.cons Bb (aH.cons (by unfold VR;rfl) aH.nil)⟩
omit [au] in
theorem Yd {b:Nat}:∀ {bs:List Nat} {xs:List MapEntry} {j:Nat},idxOf b bs=some j→xs.map (·.born)=bs→xs.findIdx? (fun e=>((e.born:Nat):Int)==(b:Int))=some j∧j<xs.length
 |[],xs,j,h,_=>by unfold idxOf at h;cases h
 |c::bs,[],j,_,hb=>by cases hb
 |c::bs,x::xs,j,h,hb=>by
  simp only[List.map_cons,List.cons.injEq]at hb;unfold idxOf at h;split at h
  ·rename_i hc
   have hc:c=b:=Zxq hc;cases h;have hxb:x.born=b:=(by rw[hb.1,hc]);rw[List.findIdx?_cons,hxb];simp
  ·rename_i hc
   have hc:c≠b:=Nat.ne_of_beq_eq_false hc;split at h<;>try(cases h;done)
   rename_i k hk;cases h;obtain⟨h1,h2⟩:=Yd hk hb.2;have:((x.born:Int)==(b:Int))=false:=by
    rw[beq_eq_false_iff_ne,hb.1];omega
   rw[List.findIdx?_cons,this];simp only[Bool.false_eq_true,if_false,h1,ZxJ];exact⟨rfl,by show k+1<_;omega⟩
theorem Zjf {t:TypeId}{vs:List AV}{h h':AH}{v:AV}{w:World}{u1 u2 u3:Value}(ha:aloud.qg vs h=some (.val v h'))(hr:HR ρ h.get h.next w)(hv:aH ρ vs [u1,u2,u3]) :
 ∃ w',(Instr.entryStore t u1 u2 u3).run P w = .ok () w'∧Stp ρ h.get h.next w ρ h'.get h'.next w'∧v=und:=by
 unfold aloud.qg at ha;split at ha<;>try(cases ha;done)
 rename_i n kk st nv;obtain⟨y1,y2,y3,hy,h1,h2,h3⟩:=hv.three;simp only[List.cons.injEq,and_true]at hy;obtain⟨rfl,rfl,rfl⟩:=hy;unfold VR at h1 h2;obtain⟨b,s,hb,rfl⟩:=h1;subst h2;split at ha<;>try(cases ha;done)
 rename_i es bs ck hg;obtain⟨b',s',dP,hO⟩:=hr.obj _ _ hg;rw[hb]at dP;cases dP;obtain⟨xs,hx,hm,lY⟩:=hO;have aK:b<w.heap.size:=(Array.getElem?_eq_some_iff.1 hx).1;split at ha<;>try(cases ha;done)
 rename_i j hj;simp only[ZlP,AN.val.injEq]at ha;obtain⟨rfl,rfl⟩:=ha;obtain⟨V9,Ah⟩:=Yd hj lY;obtain⟨e,he⟩:∃ e,xs.toList[j]?=some e:=⟨_,Zxp Ah⟩;refine⟨{ w with heap:=w.heap.setIfInBounds b (.map (xs.modify j fun e=>{ e with val:=u3 }) ck) },?_,?_,rfl⟩
 ·unfold Instr.entryStore
  have J4:xs.findIdx? (fun e=>((e.born:Nat):Int)==(Int.ofNat st))=some j:=by
   rw[show xs=xs.toList.toArray from Array.toArray_toList.symm,List.findIdx?_toArray];simpa using V9
  have hai:(asInt (.int kk (Int.ofNat st))).run P w = .ok (Int.ofNat st) w:=rfl;simp only[Zxy,Zxs,wN hx,hai,J4,Gb hx]
 ·rw[qZ]
  refine Stp.change hr (n:=n) (b:=b) (s:=s) (by rw[hg];rfl) hb (o:=.map (es.modify j fun p=>(p.1,nv)) bs ck) ?_ rfl rfl rfl (by simp) (fun q _ hq=>by simp[Ne.symm hq]) ?_
  ·refine⟨xs.modify j fun e=>{ e with val:=u3 },by simp[aK],?_,?_⟩
   ·have:=MR.modify (ρ:=ρ) (nv:=nv) (key:=e.key) (y:=u3) j hm (fun z hz=>by rw[he]at hz;cases hz;rfl) h3
    have e2:xs.toList.modify j (fun x=>{ x with key:=e.key,val:=u3 })=xs.toList.modify j (fun x=>{ x with val:=u3 }):=by
     apply List.ext_getElem?;intro i;rw[List.getElem?_modify,List.getElem?_modify];by_cases hi:j=i
     ·subst hi
      rw[he];simp
     ·simp[hi]
    rw[e2]at this;simpa using this
   ·rw[← lY]
    simpa using SA (fun e=>{ e with val:=u3 }) (fun _=>rfl) xs.toList j
  ·intro q o' gU
   rcases nX gU with⟨q1,q2⟩|q1
   ·exact .inl ⟨q1,by cases q2;rfl⟩
   ·exact .inr q1
omit [au] in
theorem Sl {r:Nat}{w:World}{m:Option Nat}{since last:Nat}{seen:Array Nat}(h:w.heap[r]?=some (.mapIter m since seen last)):(getObj r).run P w = .ok (.mapIter m since seen last) w:=by
 simp only[getObj,Sem.run,h]
omit [au] in
theorem Zk4 {r:Nat}{w:World}{m:Option Nat}{since last:Nat}{seen:Array Nat}(h:w.heap[r]?=some (.mapIter m since seen last))(o:Obj):(setObj r o).run P w = .ok () { w with heap:=w.heap.setIfInBounds r o }:=by
 simp only[setObj,Sem.run,h]
theorem ZiY {t kt et:TypeId}(hu:P.underlying t=some (.map kt et)){vs:List AV}{h h':AH}{v:AV}{w:World}{u1:Value}(ha:aloud.qc vs h=some (.val v h'))(hr:HR ρ h.get h.next w)(hv:aH ρ vs [u1]) :
 ∃ ρ' y w',(Instr.range t u1).run P w = .ok y w'∧Stp ρ h.get h.next w ρ' h'.get h'.next w'∧VR ρ' v y:=by
 unfold aloud.qc at ha;split at ha<;>try(cases ha;done)
 ·obtain⟨y,hy,h1⟩:=hv.one
  simp only[List.cons.injEq,and_true]at hy;subst hy;unfold VR at h1;subst h1;split at ha<;>try(cases ha;done)
  rename_i h1 lZ;simp only[ZlP,AN.val.injEq]at ha;obtain⟨rfl,rfl⟩:=ha;obtain⟨hn,hg⟩:=Ga lZ;obtain⟨aW,xM⟩:=Stp.new (s:=0) (obj:=.mapIter none 0 #[] 0) (w':=w.alloc (.mapIter none 0 #[] 0)) hr h.get (fun _ _ h=>h) hn hg (show OR ρ (.qR none 0 [] 0) 0 _ from rfl) rfl rfl rfl rfl;refine⟨_,.pointer (some ⟨w.heap.size,0,none⟩),_,?_,aW,?_⟩
  ·unfold Instr.range
   simp only[Zxy,run_underlying hu w,Zxs,ZxM,newObj,Sem.run];rfl
  ·unfold VR
   exact⟨_,_,xM,rfl⟩
 ·rename_i n
  obtain⟨y,hy,h1⟩:=hv.one;simp only[List.cons.injEq,and_true]at hy;subst hy;unfold VR at h1;obtain⟨b,s,hb,rfl⟩:=h1;split at ha<;>try(cases ha;done)
  rename_i es bs ck J5;split at ha<;>try(cases ha;done)
  rename_i h1 lZ;simp only[ZlP,AN.val.injEq]at ha;obtain⟨rfl,rfl⟩:=ha;obtain⟨b',s',dP,hO⟩:=hr.obj _ _ J5;rw[hb]at dP;cases dP;obtain⟨xs,hx,hm,lY⟩:=hO;obtain⟨hn,hg⟩:=Ga lZ;obtain⟨aW,xM⟩:=Stp.new (s:=0) (obj:=.mapIter (some b) ck #[] ck) (w':=w.alloc (.mapIter (some b) ck #[] ck)) hr h.get (fun _ _ h=>h) hn hg (show OR ρ (.qR (some n) ck [] ck) 0 _ from⟨b,s,hb,rfl⟩) rfl rfl rfl rfl;refine⟨_,.pointer (some ⟨w.heap.size,0,none⟩),_,?_,aW,?_⟩
  ·unfold Instr.range
   simp only[Zxy,run_underlying hu w,Zxs,ZxM,wN hx,newObj,Sem.run];rfl
  ·unfold VR
   exact⟨_,_,xM,rfl⟩
omit [au] in
theorem Yy (w:World):(choose (Question.mapNext 1)).run P w = .ok 0 w:=by
 simp[choose,Sem.run,Question.forced]
def LR (ρ:Ren):List (AV×AV×Nat)→List MapEntry→Prop
 |[],l=>l=[]
 |(k,v,b)::r,l=>∃ e es,l=e::es∧VR ρ k e.key∧VR ρ v e.val∧e.born=b∧LR ρ r es
theorem XK {seen:List Nat}:∀ {es:List (AV×AV)} {bs:List Nat} {xs:List MapEntry},MR ρ es xs→xs.map (·.born)=bs→LR ρ (leftOf es bs seen) (xs.filter fun e => !seen.contains e.born)
 |[],bs,xs,hm,hb=>by
  have:xs=[]:=hm;subst this;subst hb;rfl
 |(k,v)::es,bs,xs,hm,hb=>by
  obtain⟨e,xs',rfl,h1,h2,h3⟩:=hm;subst hb;have ih:=XK (seen:=seen) h3 rfl;rw[List.map_cons];unfold leftOf;cases hc:seen.contains e.born with
  |true =>
   rw[List.filter_cons_of_neg (by rw[hc];simp)];exact ih
  |false =>
   rw[List.filter_cons_of_pos (by rw[hc];rfl)];exact⟨e,_,rfl,h1,h2,rfl,ih⟩
omit [au] in
theorem ZjI {bs seen:List Nat}{last:Nat}{xs:Array MapEntry}(h:UD bs seen last=true)(hb:xs.toList.map (·.born)=bs):(!seen.toArray.isEmpty && !xs.isEmpty&&xs.all fun e=>decide (e.born≥last))=false:=by
 unfold UD at h;rw[Bool.or_eq_true,Bool.or_eq_true]at h;rcases h with h|h|h
 ·have:seen=[]:=by simpa using h
  subst this;rfl
 ·have:bs=[]:=by simpa using h
  subst this;have hx:xs.toList=[]:=by simpa using hb
  have:xs=#[]:=Array.toList_eq_nil_iff.1 hx;subst this;simp
 ·obtain⟨b,z8,JY⟩:=List.any_eq_true.1 h
  rw[← hb]at z8;obtain⟨e,he,rfl⟩:=List.mem_map.1 z8;have JY:e.born<last:=by simpa using JY
  have:(xs.all fun e=>decide (e.born≥last))=false:=by
   rw[← Array.all_toList];rw[List.all_eq_false];exact⟨e,he,by simp;omega⟩
  rw[this,Bool.and_false]
theorem Zks {vs:List AV}{h h':AH}{v:AV}{w:World}{u1:Value}{ty:TypeId}(ha:aloud.vW vs h=some (.val v h'))(hr:HR ρ h.get h.next w)(hv:aH ρ vs [u1]) :
 ∃ y w',(Instr.next u1 false ty).run P w = .ok y w'∧Stp ρ h.get h.next w ρ h'.get h'.next w'∧VR ρ v y:=by
 unfold aloud.vW at ha;split at ha<;>try(cases ha;done)
 rename_i n;obtain⟨y,hy,h1⟩:=hv.one;simp only[List.cons.injEq,and_true]at hy;subst hy;obtain⟨b,s,hb,rfl⟩:=h1.zx;have FD:VR ρ (.gV [.bool false]) (.tuple #[.bool false]):=by
  unfold VR;exact⟨_,rfl,aH.cons (by unfold VR;rfl) aH.nil⟩
 split at ha<;>try(cases ha;done)
 ·rename_i hg
  simp only[ZlP,AN.val.injEq]at ha;obtain⟨rfl,rfl⟩:=ha;obtain⟨b',s',dP,hO⟩:=hr.obj _ _ hg;rw[hb]at dP;cases dP;have hx:w.heap[b]?=some (.mapIter none 0 #[] 0):=hO;refine⟨.tuple #[.bool false],w,?_,Stp.refl hr,FD⟩;unfold Instr.next;simp only[Zxy,Sl hx,Zxs,ZxM]
 ·rename_i m since seen last hg
  split at ha<;>try(cases ha;done)
  rename_i es bs ck kN;obtain⟨b',s',dP,hO⟩:=hr.obj _ _ hg;rw[hb]at dP;cases dP;obtain⟨bm,sm,z8,hx⟩:=hO;obtain⟨b',s',dP,VO⟩:=hr.obj _ _ kN;rw[z8]at dP;cases dP;obtain⟨xs,Kl,hm,lY⟩:=VO;split at ha<;>try(cases ha;done)
  rename_i uX;have uX:=ZjI uX lY;have hL:=XK (seen:=seen) hm lY;have wo:(xs.filter fun e => !seen.toArray.contains e.born).toList=xs.toList.filter fun e => !seen.contains e.born:=by
   rw[Array.toList_filter];simp
  split at ha<;>try(cases ha;done)
  ·rename_i hl
   simp only[ZlP,AN.val.injEq]at ha;obtain⟨rfl,rfl⟩:=ha;rw[hl]at hL;have hL:xs.toList.filter (fun e => !seen.contains e.born)=[]:=hL;have pJ:(xs.filter fun e => !seen.toArray.contains e.born)=#[]:=by
    apply Array.ext';rw[wo,hL]
   refine⟨.tuple #[.bool false],w,?_,Stp.refl hr,FD⟩;unfold Instr.next;simp only[Zxy,Sl hx,wN Kl,Zxs,uX,pJ];have Ab:((if (Array.filter (fun x:MapEntry=>decide (x.born<since)) #[]).isEmpty=true then #[none] else #[])++Array.map some (Array.filter (fun x:MapEntry=>decide (x.born<since)) #[]++Array.filter (fun x:MapEntry=>decide (x.born≥since)) #[]))=#[none]:=(by simp);rw[if_neg Bool.false_ne_true];simp only[Ab,Zxy,Yy,Zxs,show(#[(none:Option MapEntry)]).size=1 from rfl,show(#[(none:Option MapEntry)])[0]?=some none from rfl,ZxM]
  ·rename_i k nv bo hl
   split at ha<;>try(cases ha;done)
   rename_i aK;have aK:bo<since:=(by simpa using aK);simp only[ZlP,AN.val.injEq]at ha;obtain⟨rfl,rfl⟩:=ha;rw[hl]at hL;obtain⟨e,es',he,hk,hv',VW,qo⟩:=hL;have qo:es'=[]:=qo;subst qo;have pJ:(xs.filter fun e => !seen.toArray.contains e.born)=#[e]:=by
    apply Array.ext';rw[wo,he]
   have f1:Array.filter (fun x=>decide (x.born<since)) #[e]=#[e]:=(by simp[VW,aK]);have f2:Array.filter (fun x=>decide (x.born≥since)) #[e]=#[]:=(by simp[VW,aK]);have VV:b<w.heap.size:=(Array.getElem?_eq_some_iff.1 hx).1;refine⟨.tuple #[.bool true,e.key,e.val],{ w with heap:=w.heap.setIfInBounds b (.mapIter (some bm) since (seen.toArray.push e.born) ck) },?_,?_,?_⟩
   ·unfold Instr.next
    simp only[Zxy,Sl hx,wN Kl,Zxs,uX,pJ,f1,f2];have Ab:((if (#[e]:Array MapEntry).isEmpty=true then #[none] else #[])++Array.map some (#[e]++#[]))=#[some e]:=(by simp);rw[if_neg Bool.false_ne_true];have mE:=Zk4 (P:=P) hx (.mapIter (some bm) since (seen.toArray.push e.born) ck);simp only[Ab,Zxy,Yy,Zxs,show(#[some e]).size=1 from rfl,show(#[some e])[0]?=some (some e) from rfl,mE,ZxM]
   ·rw[qZ]
    refine Stp.change hr (n:=n) (b:=b) (s:=s) (by rw[hg];rfl) hb (o:=.qR (some m) since (seen++[bo]) ck) ?_ rfl rfl rfl (by simp) (fun q _ hq=>by simp[Ne.symm hq]) ?_
    ·exact⟨bm,sm,z8,by simp[VV,VW]⟩
    ·intro q o' gU
     rcases nX gU with⟨q1,q2⟩|q1
     ·exact .inl ⟨q1,by cases q2;rfl⟩
     ·exact .inr q1
   ·unfold VR
    exact⟨_,rfl,aH.cons (by unfold VR;rfl) (aH.cons hk (aH.cons hv' aH.nil))⟩
def ZO (P:Program)(ρ:Ren)(a:Act)(o:Oper)(h:AH)(w:World)(v:AV)(h':AH):Prop :=
 ∃ ρ' x w' nx,(execOp a.eval o).run P w = .ok nx w'∧(nx = .value x∨(nx = .skip∧x=undef))∧Stp ρ h.get h.next w ρ' h'.get h'.next w'∧VR ρ' v x
def rz (P : Program) (f : FuncId) : Prop := ∃ fn c, P.funcs[f]? = some fn ∧ (fn.name == "runtime.NumGoroutine") = false ∧ fn.body = some c
theorem XN {e:SE}{ks:List CK}:∀ {vs:List AV} {ys:List Value} {l l':SE} {j:Nat},EN l e ks j vs=some l'→aH ρ vs ys →
 l'.iR au.σ=l.iR au.σ∧j+ys.length≤ks.length∨vs=[]∧l'=l
 |[],ys,l,l',j,h,hv=>by
  simp only[EN,ZlP]at h;exact .inr ⟨rfl,h.symm⟩
 |v::vs,ys,l,l',j,h,hv=>by
  unfold EN at h;split at h<;>try(cases h;done)
  rename_i k hk;split at h<;>try(cases h;done)
  rename_i x hx;obtain⟨y,ys',rfl,h1,h2⟩:=hv.nA;have hj:=(List.getElem?_eq_some_iff.1 hk).1;rcases XN h h2 with⟨h3,h4⟩|⟨h3,h4⟩
  ·refine .inl ⟨by rw[h3];simp only[SE.iR],?_⟩
   have:Nat.add j 1=j+1:=rfl;rw[this]at h4;simp only[ZxJ];omega
  ·subst h3;subst h4
   unfold aH at h2;subst h2;refine .inl ⟨by simp only[SE.iR],?_⟩;simp only[ZxJ,List.length_nil];omega
theorem YW {e:SE}{ks:List CK}:∀ {vs:List AV} {ys:List Value} {l l':SE} {j:Nat},EN l e ks j vs=some l'→aH ρ vs ys→∀ (q i:Nat) (k:CK),ks[i]?=some k →
 (q=(e.ev au.σ).toNat∧j≤i∧i<j+ys.length∧ys[i - j]?=some (k.val (l'.jd au.σ q i)))∨(¬ (q=(e.ev au.σ).toNat∧j≤i∧i<j+ys.length)∧l'.jd au.σ q i=l.jd au.σ q i)
 |[],ys,l,l',j,h,hv,q,i,k,hk=>by
  simp only[EN,ZlP]at h;subst h;unfold aH at hv;subst hv;exact .inr ⟨by simp only[List.length_nil];omega,rfl⟩
 |v::vs,ys,l,l',j,h,hv,q,i,k,hk=>by
  unfold EN at h;split at h<;>try(cases h;done)
  rename_i k0 Ii;split at h<;>try(cases h;done)
  rename_i x hx;obtain⟨y,ys',rfl,h1,h2⟩:=hv.nA;have qM:Nat.add j 1=j+1:=rfl;rcases YW h h2 q i k hk with⟨h3,h4,h5,h6⟩|⟨h3,h4⟩
  ·rw[qM]at h4 h5 h6
   refine .inl ⟨h3,by omega,by simp only[ZxJ];omega,?_⟩;rw[show i - j=(i - (j+1))+1 from by omega,List.getElem?_cons_succ];exact h6
  ·rw[qM]at h3
   simp only[SE.jd]at h4;by_cases Oe:q=(e.ev au.σ).toNat∧i=j
   ·obtain⟨hq,rfl⟩:=Oe
    rw[if_pos ⟨hq,rfl⟩]at h4;rw[hk]at Ii;cases Ii;refine .inl ⟨hq,Zxt _,by simp only[ZxJ];omega,?_⟩;rw[Nat.sub_self,ZxN,h4,TG hx h1]
   ·rw[if_neg Oe]at h4
    refine .inr ⟨?_,h4⟩;simp only[ZxJ];rintro⟨a,b,c⟩;apply Oe;refine⟨a,?_⟩;rcases Nat.lt_or_ge j i with aK|eD
    ·exact absurd ⟨a,by omega,by omega⟩ h3
    ·omega
theorem XE {t:TypeId}{n s:Nat}{l x:SE}{ks:List CK}{e:TypeId}{j off:Nat}{v y:AV}{h h':AH}{w:World}{b:Nat}{s0:Nat}{u:Value}(hl:aloud.iX n l x ks e j y h=some (.val v h'))(hr:HR ρ h.get h.next w)
 (hs:iA P t=some s) (hlen:y.cells.length=s) (h1:kz y.cells=true) (hg:h.get n=some (.recs l ks e)) (hb:ρ n=some (b,s0)) (hu:VR ρ y u) (nQ:off=(x.ev au.σ).toNat * ks.length+j) :
 ∃ w',(storeVar t ⟨b,off,none⟩ u).run P w = .ok () w'∧Stp ρ h.get h.next w ρ h'.get h'.next w'∧v=und:=by
 subst nQ;unfold aloud.iX at hl;split at hl<;>try(cases hl;done)
 rename_i hw;obtain⟨w1,w2⟩:=Gg hw;rw[Gn]at w2;have IC:(x.ev au.σ).toNat<l.iR au.σ:=by omega
 split at hl<;>try(cases hl;done)
 rename_i l' mE;simp only[ZlP,AN.val.injEq]at hl;obtain⟨rfl,rfl⟩:=hl;obtain⟨b',s',dP,hO⟩:=hr.obj _ _ hg;rw[hb]at dP;cases dP;obtain⟨cur,dJ,hcs,hk,gK⟩:=hO;have hc:=hu.cells;have mV:u.cells.toList.length=s:=by rw[← hc.len,hlen]
 have dn:u.cells.size=s:=by simpa using mV
 have hrows:(x.ev au.σ).toNat * ks.length+ks.length≤l.iR au.σ * ks.length:=by
  have:=ZxR ks.length (show(x.ev au.σ).toNat+1≤l.iR au.σ from IC)
  rwa [Nat.add_mul,Nat.one_mul]at this
 rcases XN mE hc with⟨hN,hfit0⟩|⟨he,D7⟩
 ·have fQ:(x.ev au.σ).toNat * ks.length+j+u.cells.toList.length≤cur.size:=by omega
  have aW:=run_storeCells_at P b ((x.ev au.σ).toNat * ks.length+j) e u.cells.toList 0 cur w dJ (by simpa using fQ) (hc.ones h1);simp only[Nat.add_zero]at aW;refine⟨w.setRow b (cur.toList.take ((x.ev au.σ).toNat * ks.length+j)++u.cells.toList++cur.toList.drop ((x.ev au.σ).toNat * ks.length+j+u.cells.toList.length)).toArray,?_,?_,rfl⟩
  ·simp only[storeVar,Zxy,Zxs,oD hs w,dn,ne_eq,not_true_eq_false,if_false,aW]
  ·rw[qZ]
   refine Stp.change hr (n:=n) (b:=b) (s:=s0) (by rw[hg];rfl) hb (o:=.recs l' ks e) ?_ rfl rfl rfl (by simp) (fun q _ hq=>setRow_other w b q _ hq) ?_
   ·rw[setRow_heap w b cur _ e (0,0) dJ]
    refine⟨_,rfl,by rw[KY fQ];exact hcs,by rw[hN];exact hk,fun q i k hq Ai => ?_⟩;rw[hN]at hq;have hi:i<ks.length:=(List.getElem?_eq_some_iff.1 Ai).1;rw[Zx3,Le (by simpa using fQ)];rcases YW mE hc q i k Ai with⟨h3,h4,h5,h6⟩|⟨h3,h4⟩
    ·subst h3
     rw[if_pos ⟨by omega,by omega⟩,← h6]
     congr 1
     omega
    ·have hne:¬ ((x.ev au.σ).toNat * ks.length+j≤q * ks.length+i∧q * ks.length+i<(x.ev au.σ).toNat * ks.length+j+u.cells.toList.length):=by
      rintro⟨a1,a2⟩;apply h3;have Ke:q=(x.ev au.σ).toNat:=by
       rcases Nat.lt_trichotomy q (x.ev au.σ).toNat with c|c|c
       ·exfalso
        have:=ZxR ks.length (show q+1≤(x.ev au.σ).toNat from c);rw[Nat.add_mul,Nat.one_mul]at this;omega
       ·exact c
       ·exfalso
        have:=ZxR ks.length (show(x.ev au.σ).toNat+1≤q from c);rw[Nat.add_mul,Nat.one_mul]at this;omega
      subst Ke;exact⟨rfl,by omega,by omega⟩
     rw[if_neg hne,h4,Array.getElem?_toList];exact gK q i k hq Ai
   ·intro q o' gU
    rcases nX gU with⟨q1,q2⟩|q1
    ·exact .inl ⟨q1,by cases q2;rfl⟩
    ·exact .inr q1
 ·subst D7
  have cO:s=0:=by rw[← hlen,he];rfl
  have qo:u.cells.toList=[]:=List.eq_nil_of_length_eq_zero (by rw[mV,cO]);have fQ:(0:Nat)+u.cells.toList.length≤cur.size:=by rw[qo];simp
  refine⟨w,?_,?_,rfl⟩
  ·simp only[storeVar,Zxy,Zxs,oD hs w,dn,ne_eq,not_true_eq_false,if_false]
   have:u.cells=#[]:=(by apply Array.ext';simpa using qo);rw[this];rfl
  ·rw[qZ]
   refine Stp.change hr (n:=n) (b:=b) (s:=s0) (by rw[hg];rfl) hb (o:=.recs l' ks e) ⟨cur,dJ,hcs,hk,gK⟩ rfl rfl rfl (Zxt _) (fun q _ hq=>rfl) ?_;intro q o' gU;rcases nX gU with⟨q1,q2⟩|q1
   ·exact .inl ⟨q1,by cases q2;rfl⟩
   ·exact .inr q1
theorem Zo2 {o:Oper}{a:Act}{vs:List AV}{v:AV}{h h':AH}{w:World}(hl:aloud P o.op vs h=some (.val v h'))(hr:HR ρ h.get h.next w)(hv:aH ρ vs (o.op.operands.toList.map a.eval)):ZO P ρ a o h w v h':=by
 unfold ZO execOp;generalize o.op=op at hl hv;have Fe:∀ ρ:Ren,VR ρ und undef:=fun ρ=>by unfold und VR;exact⟨#[],rfl,aH.nil⟩
 cases op with
 |store t p x =>
  simp only[aloud]at hl;split at hl<;>try(cases hl;done)
  case h_2 =>
   rename_i n q z j y;split at hl<;>try(cases hl;done)
   rename_i s hs;split at hl<;>try(cases hl;done)
   rename_i hlen;have hlen:=Zxq hlen;split at hl<;>try(cases hl;done)
   rename_i h1;split at hl<;>try(cases hl;done)
   rename_i l ks e hg;split at hl<;>try(cases hl;done)
   rename_i hz;have hz:=Zxq hz;subst hz;obtain⟨y1,y2,hy,jL,dO⟩:=hv.two;simp[Op.operands]at hy;obtain⟨e1,e2⟩:=hy;unfold VR at jL;obtain⟨b,s0,hb,rfl⟩:=jL;obtain⟨w',aO,aW,rfl⟩:=XE hl hr hs hlen h1 hg hb dO rfl;refine⟨ρ,undef,w',.skip,?_,.inr ⟨rfl,rfl⟩,aW,Fe ρ⟩;simp only[e1,e2,Instr.storeAt,Instr.sureAddr,Zxy,ZxM,Zxs,aO]
  rename_i n off y;split at hl<;>try(cases hl;done)
  rename_i s hs;split at hl<;>try(cases hl;done)
  rename_i hlen;have hlen:=Zxq hlen;split at hl<;>try(cases hl;done)
  rename_i h1;split at hl<;>try(cases hl;done)
  rotate_left
  ·rename_i l ks e hg
   split at hl<;>try(cases hl;done)
   obtain⟨y1,y2,hy,jL,dO⟩:=hv.two;simp[Op.operands]at hy;obtain⟨e1,e2⟩:=hy;obtain⟨b,s0,hb,rfl⟩:=jL.zx;obtain⟨w',aO,aW,rfl⟩:=XE (off:=off) hl hr hs hlen h1 hg hb dO (by simp only[SE.ev];exact Zr off);refine⟨ρ,undef,w',.skip,?_,.inr ⟨rfl,rfl⟩,aW,Fe ρ⟩;simp only[e1,e2,Instr.storeAt,Instr.sureAddr,Zxy,ZxM,Zxs,aO]
  rename_i cs k e hg;split at hl<;>try(cases hl;done)
  rename_i hk;have hk:off+s≤k:=Zx4 hk;simp only[ZlP,AN.val.injEq]at hl;obtain⟨rfl,rfl⟩:=hl;obtain⟨y1,y2,hy,jL,dO⟩:=hv.two;simp[Op.operands]at hy;obtain⟨e1,e2⟩:=hy;obtain⟨b,s0,hb,rfl⟩:=jL.zx;obtain⟨b',s',dP,hO⟩:=hr.obj _ _ hg;rw[hb]at dP;cases dP;obtain⟨cur,dJ,hcs,iT,gu⟩:=hO;have hc:=dO.cells;have mV:y2.cells.toList.length=s:=by rw[← hc.len,hlen]
  have fQ:off+y2.cells.toList.length≤cur.size:=by rw[mV];omega
  have aW:=run_storeCells_at P b off e y2.cells.toList 0 cur w dJ (by simpa using fQ) (hc.ones h1);simp only[Nat.add_zero]at aW;refine⟨ρ,undef,w.setRow b (cur.toList.take off++y2.cells.toList++cur.toList.drop (off+y2.cells.toList.length)).toArray,.skip,?_,.inr ⟨rfl,rfl⟩,?_,Fe ρ⟩
  ·have dn:y2.cells.size=s:=by simpa using mV
   simp only[e1,e2,Instr.storeAt,Instr.sureAddr,storeVar,Zxy,ZxM,Zxs,oD hs w,dn,ne_eq,not_true_eq_false,if_false,aW]
  ·rw[qZ]
   refine Stp.change hr (n:=n) (b:=b) (s:=s0) (by rw[hg];rfl) hb (o:=.cells (Dz cs off y.cells) k e) ?_ rfl rfl rfl (by simp) (fun q _ hq=>setRow_other w b q _ hq) ?_
   ·rw[setRow_heap w b cur _ e (0,0) dJ]
    exact⟨_,rfl,by rw[KY fQ];exact hcs,iT,YZ gu hc h1 fQ⟩
   ·intro q o' gU
    rcases nX gU with⟨q1,q2⟩|q1
    ·exact .inl ⟨q1,by cases q2;rfl⟩
    ·exact .inr q1
 |mapUpdate t m k x =>
  simp only[aloud]at hl;obtain⟨w',aO,aW,rfl⟩:=XL hl hr (u1:=a.eval m) (u2:=a.eval k) (u3:=a.eval x) (by simpa [Op.operands] using hv);exact⟨ρ,undef,w',.skip,by simp[aO],.inr ⟨rfl,rfl⟩,aW,Fe ρ⟩
 |insert t m k x =>
  simp only[aloud]at hl;obtain⟨w',aO,aW,rfl⟩:=XL hl hr (u1:=a.eval m) (u2:=a.eval k) (u3:=a.eval x) (by simpa [Op.operands] using hv);exact⟨ρ,undef,w',.skip,by simp[aO],.inr ⟨rfl,rfl⟩,aW,Fe ρ⟩
 |mapEntry t m k =>
  simp only[aloud]at hl;obtain⟨y,w',aO,aW,yO⟩:=ZjA hl hr (u1:=a.eval m) (u2:=a.eval k) (by simpa [Op.operands] using hv);exact⟨ρ,y,w',.value y,by simp[aO],.inl rfl,aW,yO⟩
 |entryStore t m k x =>
  simp only[aloud]at hl;obtain⟨w',aO,aW,rfl⟩:=Zjf (P:=P) (t:=t) hl hr (u1:=a.eval m) (u2:=a.eval k) (u3:=a.eval x) (by simpa [Op.operands] using hv);exact⟨ρ,undef,w',.skip,by simp[aO],.inr ⟨rfl,rfl⟩,aW,Fe ρ⟩
 |range t x =>
  simp only[aloud]at hl;split at hl<;>try(cases hl;done)
  rename_i kt et hu;obtain⟨ρ',y,w',aO,aW,yO⟩:=ZiY hu hl hr (u1:=a.eval x) (by simpa [Op.operands] using hv);exact⟨ρ',y,w',.value y,by simp[aO],.inl rfl,aW,yO⟩
 |next x st =>
  simp only[aloud]at hl;split at hl<;>try(cases hl;done)
  obtain⟨y,w',aO,aW,yO⟩:=Zks (P:=P) (ty:=o.type) hl hr (u1:=a.eval x) (by simpa [Op.operands] using hv);exact⟨ρ,y,w',.value y,by simp[aO],.inl rfl,aW,yO⟩
 |call c =>
  simp only[aloud]at hl;obtain⟨callee,args,argTypes⟩:=c;cases callee with
  |builtin b =>
   have dX:(Op.call ⟨.builtin b,args,argTypes⟩).operands=args:=(by simp[Op.operands,Call.operands]);rw[dX]at hv
   cases b<;>first
    |(cases hl;done)
    |skip
   rotate_left
   ·dsimp only at hl
    split at hl<;>try(cases hl;done)
    rename_i t gK;have h2:∃ u1 u2,args.toList.map a.eval=[u1,u2]:=by
     unfold aloud.nV at hl;split at hl<;>try(cases hl;done)
     split at hl<;>try(cases hl;done)
     split at hl<;>try(cases hl;done)
     obtain⟨y1,y2,hy,_,_⟩:=hv.two;exact⟨y1,y2,hy⟩
    obtain⟨u1,u2,hy⟩:=h2;rw[hy]at hv;obtain⟨w',aO,aW,rfl⟩:=Zjz (ty:=o.type) gK hl hr hv;refine⟨ρ,.tuple #[],w',.value (.tuple #[]),?_,.inl rfl,aW,by unfold und VR;exact⟨_,rfl,aH.nil⟩⟩;have Hr:args.map a.eval=#[u1,u2]:=by
     apply Array.ext';rw[Array.toList_map,hy]
    simp only[resolve,invoke,builtin,Zxy,ZxM,Zxs,Hr];rw[aO];rfl
   dsimp only at hl;split at hl<;>try(cases hl;done)
   rename_i s x t t';split at hl<;>try(cases hl;done)
   rename_i WU;have WU:=Zxq WU;subst WU;split at hl<;>try(cases hl;done)
   rename_i v' h1 ha;simp only[ZlP,AN.val.injEq]at hl;obtain⟨rfl,rfl⟩:=hl;obtain⟨y1,y2,hy,jL,dO⟩:=hv.two;obtain⟨ρ',y,w',aO,aW,yO⟩:=ZiX (ty:=o.type) ha hr jL dO;refine⟨ρ',y,w',.value y,?_,.inl rfl,aW,yO⟩;have Hr:args.map a.eval=#[y1,y2]:=by
    apply Array.ext';rw[Array.toList_map,hy]
   simp only[resolve,invoke,builtin,Zxy,ZxM,Zxs,Hr];rw[show(Builtin.append_ { toList:=[t,t] } o.type #[y1,y2]).run P w = .ok y w' from aO];rfl
  |value f =>
   dsimp only at hl;split at hl<;>cases hl
  |invoke r m=>cases hl
 |_=>simp[aloud]at hl
theorem ZnF {o:Oper}{a:Act}{vs:List AV}{f:FuncId}{args:List AV}{h:AH}(hl:aloud P o.op vs h=some (.call f args))(hv:aH ρ vs (o.op.operands.toList.map a.eval))(hf:rz P f) :
 ∃ args':Array Value,aH ρ args args'.toList∧∀ w,(execOp a.eval o).run P w = .ok (.enter f args') w:=by
 unfold execOp;generalize o.op=op at hl hv;cases op with
 |store t p x =>
  simp only[aloud]at hl;have fJ:∀ {n:Nat} {l x:SE} {ks:List CK} {e:TypeId} {j:Nat} {v:AV},aloud.iX n l x ks e j v h≠some (.call f args):=by
   intro n l x ks e j v hc;unfold aloud.iX at hc;split at hc<;>try(cases hc;done)
   split at hc<;>cases hc
  split at hl<;>try(cases hl;done)
  ·split at hl<;>try(cases hl;done)
   split at hl<;>try(cases hl;done)
   split at hl<;>try(cases hl;done)
   split at hl<;>try(cases hl;done)
   ·split at hl<;>cases hl
   ·split at hl<;>try(cases hl;done)
    exact absurd hl fJ
  ·split at hl<;>try(cases hl;done)
   split at hl<;>try(cases hl;done)
   split at hl<;>try(cases hl;done)
   split at hl<;>try(cases hl;done)
   split at hl<;>try(cases hl;done)
   exact absurd hl fJ
 |mapUpdate t m k x =>
  simp only[aloud,aloud.lH]at hl;split at hl<;>try(cases hl;done)
  split at hl<;>try(cases hl;done)
  split at hl<;>try(cases hl;done)
  split at hl<;>cases hl
 |insert t m k x =>
  simp only[aloud,aloud.lH]at hl;split at hl<;>try(cases hl;done)
  split at hl<;>try(cases hl;done)
  split at hl<;>try(cases hl;done)
  split at hl<;>cases hl
 |mapEntry t m k =>
  simp only[aloud,aloud.qz]at hl;split at hl<;>try(cases hl;done)
  split at hl<;>try(cases hl;done)
  split at hl<;>try(cases hl;done)
  split at hl<;>try(cases hl;done)
  ·split at hl<;>cases hl
  ·split at hl<;>cases hl
 |entryStore t m k x =>
  simp only[aloud,aloud.qg]at hl;split at hl<;>try(cases hl;done)
  split at hl<;>try(cases hl;done)
  split at hl<;>cases hl
 |range t x =>
  simp only[aloud,aloud.qc]at hl;split at hl<;>try(cases hl;done)
  split at hl<;>try(cases hl;done)
  ·split at hl<;>cases hl
  ·split at hl<;>try(cases hl;done)
   split at hl<;>cases hl
 |next x st =>
  simp only[aloud,aloud.vW]at hl;split at hl<;>try(cases hl;done)
  split at hl<;>try(cases hl;done)
  split at hl<;>try(cases hl;done)
  split at hl<;>try(cases hl;done)
  split at hl<;>try(cases hl;done)
  split at hl<;>try(cases hl;done)
  split at hl<;>cases hl
 |call c =>
  simp only[aloud]at hl;obtain⟨callee,zS,argTypes⟩:=c;cases callee with
  |builtin b =>
   cases b<;>first
    |(cases hl;done)
    |skip
   rotate_left
   ·simp only[aloud.nV]at hl
    split at hl<;>try(cases hl;done)
    split at hl<;>try(cases hl;done)
    split at hl<;>try(cases hl;done)
    split at hl<;>try(cases hl;done)
    split at hl<;>cases hl
   dsimp only at hl;split at hl<;>try(cases hl;done)
   split at hl<;>try(cases hl;done)
   split at hl<;>cases hl
  |value fv =>
   dsimp only at hl;split at hl<;>try(cases hl;done)
   rename_i g x y l;simp only[ZlP,AN.call.injEq]at hl;obtain⟨rfl,rfl⟩:=hl;have dX:(Op.call ⟨.value fv,zS,argTypes⟩).operands.toList.map a.eval=a.eval fv::(zS.map a.eval).toList:=(by simp[Op.operands,Call.operands]);rw[dX]at hv;obtain⟨u,us,hy,h1,h2⟩:=hv.nA;simp only[List.cons.injEq]at hy;obtain⟨rfl,rfl⟩:=hy;unfold VR at h1;obtain⟨fa,ca,hfv,J4,hca⟩:=h1;obtain⟨fn,c,q1,q2,q3⟩:=hf;refine⟨fa++zS.map a.eval++ca,?_,fun w => ?_⟩
   ·simp only[Array.toList_append,ZxG]
    exact J4.append (h2.append hca)
   · have q2' : ¬ fn.name = "runtime.NumGoroutine" := by simpa using q2
     simp[resolve,hfv,Deferred.ofValue,invoke,callFunc,q1,q2',q3]
  |invoke r m=>cases hl
 |_=>simp[aloud]at hl
def BO (P:Program)(call:FuncId→List AV→AH→Option (AV×AH)):Prop :=
 ∀ f args h v h',call f args h=some (v,h')→rz P f∧∀ (ρ:Ren) (w:World) (args':Array Value),HR ρ h.get h.next w→aH ρ args args'.toList →
  Calls P f args' w fun e w'=>∃ ρ' x,e = .returned x∧VR ρ' v x∧Stp ρ h.get h.next w ρ' h'.get h'.next w'
theorem Zc {call:FuncId→List AV→AH→Option (AV×AH)}(hc:BO P call){o:Oper}{a:Act}{vs:List AV}{v:AV}{h h':AH}{w:World}{K:Act→World→Prop}{Q:Exit→Act→World→Prop}
 (hk:kd o.op = .loud) (dX:Ef P call o.op vs h=some (v,h')) (hr:HR ρ h.get h.next w) (hv:aH ρ vs (o.op.operands.toList.map a.eval))
 (hK:∀ ρ' x w',Stp ρ h.get h.next w ρ' h'.get h'.next w'→VR ρ' v x→K (a.put o.dst x) w'):o.wp P a w K Q:=by
 unfold Ef at dX;rw[hk]at dX;dsimp only at dX;split at dX<;>try(cases dX;done)
 ·rename_i v1 h1 hl
  simp only[ZlP,ZxA]at dX;obtain⟨rfl,rfl⟩:=dX;obtain⟨ρ',x,w',nx,aO,ou,aW,yO⟩:=Zo2 hl hr hv;unfold Oper.wp;rw[aO];rcases ou with rfl|⟨rfl,rfl⟩
  ·exact hK ρ' x w' aW yO
  ·exact hK ρ' undef w' aW yO
 ·rename_i f args hl
  obtain⟨hf,Nb⟩:=hc _ _ _ _ _ dX;obtain⟨args',bJ,aO⟩:=ZnF hl hv hf;unfold Oper.wp;rw[aO w];refine(Nb ρ w args' hr bJ).mono ?_;rintro e w' ⟨ρ',x,rfl,yO,aW⟩;exact hK ρ' x w' aW yO
theorem ZtC {call:FuncId→List AV→AH→Option (AV×AH)}(hc:BO P call){o:Oper}{a:Act}{vs:List AV}{v:AV}{h h':AH}{w:World}{K:Act→World→Prop}{Q:Exit→Act→World→Prop}
 (dX:Ef P call o.op vs h=some (v,h')) (hr:HR ρ h.get h.next w) (hv:aH ρ vs (o.op.operands.toList.map a.eval))
 (hK:∀ ρ' x w',Stp ρ h.get h.next w ρ' h'.get h'.next w'→VR ρ' v x→K (a.put o.dst x) w'):o.wp P a w K Q:=by
 cases hk:kd o.op with
 |pure =>
  unfold Ef at dX;rw[hk]at dX;dsimp only at dX;split at dX<;>try(cases dX;done)
  rename_i u hu;simp only[ZlP,ZxA]at dX;obtain⟨rfl,rfl⟩:=dX;obtain⟨x,hx,aO⟩:=Yj hu hv;unfold Oper.wp;rw[aO w];exact hK ρ x w (Stp.refl hr) hx
 |read =>
  unfold Ef at dX;rw[hk]at dX;dsimp only at dX;split at dX<;>try(cases dX;done)
  rename_i u hu;simp only[ZlP,ZxA]at dX;obtain⟨rfl,rfl⟩:=dX;obtain⟨x,hx,aO⟩:=SG hr hu hv;unfold Oper.wp;rw[aO];exact hK ρ x w (Stp.refl hr) hx
 |alloc =>
  unfold Ef at dX;rw[hk]at dX;dsimp only at dX;split at dX<;>try(cases dX;done)
  rename_i ao k ha;split at dX<;>try(cases dX;done)
  rename_i h1 lZ;simp only[ZlP,ZxA]at dX;obtain⟨rfl,rfl⟩:=dX;obtain⟨obj,s,hO,aO⟩:=X8 ha hv;obtain⟨x,WM,hx⟩:=aO w;obtain⟨hn,hg⟩:=Ga lZ;obtain⟨aW,xM⟩:=Stp.new (w':=w.alloc obj) hr h.get (fun _ _ h=>h) hn hg hO rfl rfl rfl rfl;unfold Oper.wp;rw[WM];exact hK _ x _ aW (hx _ _ xM)
 |loud=>exact Zc hc hk dX hr hv hK
end
end Ex
end Go.Proofs.YtfcpdlbkmkhhcaaGreatDoor
