/-
  Texts of this claim, joined. No condition.
-/
import Derived.Test.YtfcpdlbkmkhhcaaGreatDoorCh1
import Derived.Test.YtfcpdlbkmkhhcaaGreatDoorCh8
import Derived.Below
namespace Go.Proofs.YtfcpdlbkmkhhcaaGreatDoor
set_option maxRecDepth 100000
set_option maxHeartbeats 40000000
namespace Ex
open Go
noncomputable section
variable [au]
section
variable {P:Program}{call:FuncId→List AV→AH→Option (AV×AH)}{nt:Nat}{ops:Array Oper}{bF:T AV}{h:AH}{rs:List Rk}{al:List (Nat×AO)}
variable {ρ0 ρ:Ren}{w0 w:World}{L L':Nat→Bool}{lam:Nat}{a:Act}
omit [au] in
theorem Qa {i:Nat}(hL:∀ j,L' j=true↔L j=true∨j=i){q:Nat}(h:q≠i):L' q=L q:=by
 have:=hL q;cases h1:L q<;>cases h2:L' q<;>simp_all
theorem AI.alloc (hI:AI nt ops bF h rs ρ0 w0 L lam ρ w a){i:Nat}{o:Oper}{ao:AO}{v:AV}{x:Value}{obj:Obj}{s:Nat}(hk:Ex.kL ops=true)(hr:mI ops L i o)(j5:rs[i]?=some (.alloc ao v))(hL:∀ j,L' j=true↔L j=true∨j=i)(hd:∀ d,o.dst=some d→d<nt)
 (hO:OR ρ ao s (some obj)) (hx:∀ ρ':Ren,ρ' (h.next+i)=some (w.heap.size,s)→VR ρ' v x):AI nt ops bF h rs ρ0 w0 L' lam (upd ρ (h.next+i) (w.heap.size,s)) (w.alloc obj) (a.put o.dst x):=by
 have hi:i<ops.size:=(Array.getElem?_eq_some_iff.1 hr.op).1;have hCi:kw ops rs lam i=false:=by
  cases hc:kw ops rs lam i with
  |false=>rfl
  |true =>
   obtain⟨l,u,g,h1,h2,h3⟩:=Ev.1 hc;have:=Pt h3 hI.cl ((hI.loud l u g h2).2 h1);rw[hr.no]at this;cases this
 have Cy:∀ {q:Nat} {u:AV} {g:AH},rs[q]?=some (.loud u g)→q≠i:=fun hq he=>by
  subst he;rw[j5]at hq;cases hq
 obtain⟨aW,hm⟩:=Stp.kept (w':=w.alloc obj) (g':=gF h.next rs L' (kw ops rs lam) (lK ops h rs lam)) hI.st (h.next+i) (hI.nm i hi hr.no) (by omega) (by have:=hI.nx;omega) hO rfl rfl rfl rfl (fun m o' hm=>by
  rcases Tw hm with⟨q,u,rfl,h1,h2,h3⟩|⟨h1,h2⟩
  ·by_cases hq:q=i
   ·subst hq
    rw[j5]at h1;cases h1;exact .inl ⟨rfl,rfl⟩
   ·exact .inr ⟨by omega,PD h1 (by rw[← Qa hL hq];exact h2) h3⟩
  ·by_cases hmi:m=h.next+i
   ·have:=h2 i ao v hmi j5 ((hL i).2 (.inr rfl))
    rw[hCi]at this;cases this
   ·refine .inr ⟨hmi,Ub h1 fun q MO v' he hq VL=>h2 q MO v' he hq ((hL q).2 (.inl VL))⟩)
 have xM:upd ρ (h.next+i) (w.heap.size,s) (h.next+i)=some (w.heap.size,s):=by simp[upd]
 refine⟨SB hI.cl hr hL,fun j hj => ?_,hI.IX,fun q u g hq => ?_,aW,hI.nx,fun j hj hn => ?_,hI.mask,by rw[put_defers];exact hI.dz,by rw[PU];exact hI.size,
  TS hk hI.cl hr j5 hL hd hI.size hI.val hm (hx _ xM)⟩
 ·rcases(hL j).1 hj with h1|rfl
  ·exact hI.lt j h1
  ·exact hi
 ·rw[← hI.loud q u g hq,Qa hL (Cy hq)]
 ·have uU:j≠i:=fun he=>by
   subst he;rw[(hL j).2 (.inr rfl)]at hn;cases hn
  rw[Qa hL uU]at hn;unfold upd;rw[if_neg (by omega)];exact hI.nm j hj hn
omit [au] in
theorem Zns {o:Oper}(h:kd o.op = .loud):BK o=true:=by unfold BK;rw[h]
theorem CW.gap (hR:CW P call nt ops bF h rs al)(hI:AI nt ops bF h rs ρ0 w0 L lam ρ w a){i:Nat}{o:Oper}(hr:mI ops L i o)(Ka:kd o.op = .loud){l:Nat}{u:AV}{g:AH}(hl:rs[l]?=some (.loud u g))(pK:l<i):l<lam:=by
 have aK:l<rs.length:=(List.getElem?_eq_some_iff.1 hl).1;obtain⟨q,hq⟩:∃ q,ops[l]?=some q:=⟨_,ZxH (by rw[← hR.len];exact aK)⟩;have hql:BK q=true:=by
  obtain⟨env,h1,cons,al',_,_,hf⟩:=hR.fact l _ q hl hq;rcases hf with⟨_,h2⟩|⟨_,vs,_,h2⟩
  ·cases h2
  ·unfold KF at h2
   unfold BK;split at h2
   ·obtain⟨_,_,h3⟩:=h2;cases h3
   ·obtain⟨_,h3⟩:=h2;cases h3
   ·obtain⟨_,_,_,h3⟩:=h2;cases h3
   ·rename_i hk;rw[hk]
 have:=(TY hR.kL hr.op hq (by omega) (.inr ⟨Zns Ka,hql⟩)).1 pK;exact(hI.loud l u g hl).1 (mI.ahead hI.cl this hr (by omega))
theorem CW.ZqY (hR:CW P call nt ops bF h rs al)(hI:AI nt ops bF h rs ρ0 w0 L lam ρ w a){i:Nat}{o:Oper}(hr:mI ops L i o)(Ka:kd o.op = .loud)(iF:lam≤i) :
 uh (h.skip ops.size) (rs.take i)=lK ops h rs lam:=by
 have hs:rs.take i=rs.take lam++(rs.drop lam).take (i - lam):=by
  rw[← List.take_add,show lam+(i - lam)=i from by omega]
 rw[hs,vK,Gc]
 ·rfl
 ·intro r bY
  obtain⟨k,hk⟩:=List.mem_iff_getElem?.1 bY;obtain⟨h1,h2⟩:=Jl.1 hk;rw[List.getElem?_drop]at h2;cases r with
  |loud u g =>
   have:=hR.gap hI hr Ka h2 (by omega);omega
  |_=>rfl
theorem AI.ZsK (hR:CW P call nt ops bF h rs al)(hI:AI nt ops bF h rs ρ0 w0 L lam ρ w a){i:Nat}{o:Oper}{v:AV}{H' V:AH}{x:Value}{ρ':Ren}{w':World}(hr:mI ops L i o)(Ka:kd o.op = .loud)(j5:rs[i]?=some (.loud v H'))(hL:∀ j,L' j=true↔L j=true∨j=i)(hd:∀ d,o.dst=some d→d<nt)
 (VP:V.next=(lK ops h rs lam).next) (hV:∀ m o',V.get m=some o'→(∃ q,ahead (bf ops) q i=true∧kw ops rs lam q=false∧m=h.next+q∧∃ u,rs[q]?=some (.alloc o' u))∨(lK ops h rs lam).get m=some o')
 (hVi:∀ m o',V.get m=some o'→gF h.next rs L (kw ops rs lam) (lK ops h rs lam) m=some o')
 (aW:Stp ρ V.get V.next w ρ' H'.get H'.next w') (hx:VR ρ' v x):AI nt ops bF h rs ρ0 w0 L' (i+1) ρ' w' (a.put o.dst x):=by
 have hi:i<ops.size:=(Array.getElem?_eq_some_iff.1 hr.op).1;have pK:lam≤i:=by
  rcases Nat.lt_or_ge i lam with h1|h1
  ·have:=(hI.loud i v H' j5).2 h1
   rw[hr.no]at this;cases this
  ·exact h1
 have uV:lK ops h rs (i+1)=H':=by
  unfold lK;have aK:=(List.getElem?_eq_some_iff.1 j5).1;have WK:rs[i] = .loud v H':=(List.getElem?_eq_some_iff.1 j5).2;rw[List.take_succ_eq_append_getElem aK,vK,WK];rfl
 have FB:∀ q,kw ops rs lam q=true→kw ops rs (i+1) q=true:=fun q hq=>by
  obtain⟨l,u,g,h1,h2,h3⟩:=Ev.1 hq;exact Ev.2 ⟨l,u,g,by omega,h2,h3⟩
 have Am:∀ q,ahead (bf ops) q i=true→kw ops rs (i+1) q=true:=fun q hq=>Ev.2 ⟨i,v,H',by omega,j5,hq⟩;have V3:∀ q,kw ops rs (i+1) q=true→kw ops rs lam q=true∨ahead (bf ops) q i=true:=fun q hq=>by
  obtain⟨l,u,g,h1,h2,h3⟩:=Ev.1 hq;rcases Nat.lt_or_ge l i with h4|h4
  ·exact .inl (Ev.2 ⟨l,u,g,hR.gap hI hr Ka h2 h4,h2,h3⟩)
  ·have:l=i:=by omega
   subst this;exact .inr h3
 have IK:Stp ρ (gF h.next rs L (kw ops rs lam) (lK ops h rs lam)) (lK ops h rs lam).next w ρ' (gF h.next rs L' (kw ops rs (i+1)) H') H'.next w':=by
  rw[VP]at aW;refine Stp.frame hI.st.hr hVi aW _ fun m o' hm => ?_;rcases Tw hm with⟨q,u,rfl,h1,h2,h3⟩|⟨h1,h2⟩
  ·left
   have Oe:q≠i:=fun he=>(by subst he;rw[j5]at h1;cases h1);have hq0:kw ops rs lam q=false:=by
    cases hc:kw ops rs lam q with
    |false=>rfl
    |true=>rw[FB q hc]at h3;cases h3
   refine⟨PD h1 (by rw[← Qa hL Oe];exact h2) hq0,?_⟩;cases hg:V.get (h.next+q) with
   |none=>rfl
   |some o2 =>
    rcases hV _ _ hg with⟨q',h4,_,h5,_⟩|h4
    ·have:q'=q:=by omega
     subst this;rw[Am _ h4]at h3;cases h3
    ·have:=hI.mask q (by rw[← hR.len];exact(List.getElem?_eq_some_iff.1 h1).1) (by rw[h4];rfl)
     rw[hq0]at this;cases this
  ·exact .inr h1
 have hgr:=aW.gr;rw[VP]at hgr;have ou:h.next+ops.size≤H'.next:=ZxL hI.nx hgr
 refine⟨SB hI.cl hr hL,fun j hj => ?_,.inr ⟨i,v,H',rfl,j5⟩,fun q u g hq => ?_,by rw[uV];exact hI.st.trans IK,by rw[uV];exact ou,fun j hj hn => ?_,fun j hj hm => ?_,by rw[put_defers];exact hI.dz,by rw[PU];exact hI.size,
  TS hR.kL hI.cl hr j5 hL hd hI.size hI.val (Stp.mono hI.st.hr IK) hx⟩
 ·rcases(hL j).1 hj with h1|rfl
  ·exact hI.lt j h1
  ·exact hi
 ·rw[hL,hI.loud q u g hq]
  constructor
  ·rintro(h1|rfl)<;>omega
  ·intro h1
   rcases Nat.lt_or_ge q i with h2|h2
   ·exact .inl (hR.gap hI hr Ka hq h2)
   ·exact .inr (by omega)
 ·have hjL:L j=false:=by
   cases h1:L j with
   |false=>rfl
   |true=>rw[(hL j).2 (.inl h1)]at hn;cases hn
  rw[IK.ext (h.next+j) (by have:=hI.nx;omega)];exact hI.nm j hj hjL
 ·rw[uV]at hm
  have:=aW.dom (h.next+j) (by rw[VP];have:=hI.nx;omega) hm;obtain⟨o2,xD⟩:=Option.isSome_iff_exists.1 this;rcases hV _ _ xD with⟨q',h4,_,h5,_⟩|h4
  ·have:q'=j:=by omega
   subst this;exact Am _ h4
  ·exact FB _ (hI.mask j hj (by rw[h4];rfl))
theorem CW.step (hR:CW P call nt ops bF h rs al)(hc:BO P call)(hI:AI nt ops bF h rs ρ0 w0 L lam ρ w a){i:Nat}{o:Oper}(hr:mI ops L i o)(hL:∀ j,L' j=true↔L j=true∨j=i){Q:Exit→Act→World→Prop}{K:Act→World→Prop}
 (hK:∀ IW ρ' w' a',AI nt ops bF h rs ρ0 w0 L' IW ρ' w' a'→K a' w'):wpOp P ops Q i K a w:=by
 have hi:i<ops.size:=(Array.getElem?_eq_some_iff.1 hr.op).1;obtain⟨r,j5⟩:∃ r,rs[i]?=some r:=⟨_,Zxp (by rw[hR.len];exact hi)⟩;obtain⟨env,h1,cons,al',hInv,hd,hf⟩:=hR.fact i r o j5 hr.op;have hlen:(rs.take i).length=i:=by rw[List.length_take,Nat.min_eq_left (by rw[hR.len];omega)]
 have Eb:∀ k,k<i→(rs.take i)[k]?=rs[k]?:=fun k hk=>by rw[List.getElem?_take,if_pos hk]
 have wH:∀ {env:T AV},(∀ t v,env.get t=some v→Val ops bF rs (below i) t v)→∀ t v,t∈looks ops o→env.get t=some v→∃ x,a.tmps[t]?=some x∧VR ρ v x:=fun he t v ht hg=>hI.val t v (mI.val hR.kL hI.cl hr ht (he t v hg));have Ib:∀ t v,env.get t=some v→Val ops bF rs (below i) t v:=fun t v hv=>by
  have:=hInv.env t v hv;rw[hlen]at this;exact this.ext Eb
 unfold wpOp;rw[hr.op];dsimp only;rcases hf with⟨hg,rfl⟩|⟨hg,vs,mX,J9⟩
 ·have hw:=Pm (ρ:=ρ) (a:=a) (fun t v ht=>wH Ib t v (PS ht)) hg
  rw[hw];simp only[Bool.false_eq_true,if_false];exact hK lam ρ w _ (AI.still hI hR.kL hr j5 hL hd rfl (by intro _ _ h;cases h) (by unfold Rk.res und VR;exact⟨#[],rfl,aH.nil⟩))
 ·have hw:=Pm (ρ:=ρ) (a:=a) (fun t v ht=>wH Ib t v (PS ht)) hg
  rw[hw];simp only[if_true];left;have hv:aH ρ vs (o.op.operands.toList.map a.eval):=EH (fun t v ht=>wH Ib t v (PS (YL ht))) mX;unfold KF at J9;split at J9
  ·obtain⟨v,hp,rfl⟩:=J9
   obtain⟨x,hx,aO⟩:=Yj hp hv;unfold Oper.wp;rw[aO w];exact hK lam ρ w _ (AI.still hI hR.kL hr j5 hL hd rfl (by intro _ _ h;cases h) hx)
  ·rename_i oq
   obtain⟨v,rfl⟩:=J9;obtain⟨env2,vs2,Nl,WY,Oj⟩:=hR.read i v o j5 hr.op oq;have xN:aH ρ vs2 (o.op.operands.toList.map a.eval):=EH (fun t v ht=>wH Nl t v (PS (YL ht))) WY;have oU:BS (bf ops) i lam 0 rs=true:=by
    refine Zl fun k u g hk => ?_;rw[Nat.zero_add];have Ai:k≠i:=fun he=>(by subst he;rw[j5]at hk;cases hk);refine⟨fun aK => ?_,fun eD => ?_⟩
    ·cases ha:ahead (bf ops) i k with
     |false=>rfl
     |true =>
      have:=Pt ha hI.cl ((hI.loud k u g hk).2 aK);rw[hr.no]at this;cases this
    ·cases ha:ahead (bf ops) k i with
     |false=>rfl
     |true =>
      have:=(hI.loud k u g hk).1 (mI.ahead hI.cl ha hr Ai);omega
   obtain⟨c,hcb,ax⟩:=ZjT Oj lam hI.IX oU;have Hy:∀ q,c.testBit q=kw ops rs lam q:=fun q=>by
    have:=hcb q;rw[← ZK]at this;unfold kw;cases h1:c.testBit q<;>cases h2:Dr (bf ops) q 0 (rs.take lam)<;>simp_all
   obtain⟨x,hx,aO⟩:=SG (nx:=(lK ops h rs lam).next) (w:=w) (HR.sub hI.st.hr fun m o' hm=>by
    refine AI.view hI (al:=al) hr (fun q ao hq=>(hR.al q ao).1 hq) j5 (by intro _ _ h;cases h) (fun q hq => ?_) hm;rw[Zxu]at hq;refine⟨hq.1,?_⟩;have:=hq.2;rw[Hy]at this;simpa using this) ax xN
   unfold Oper.wp;rw[aO];exact hK lam ρ w _ (AI.still hI hR.kL hr j5 hL hd rfl (by intro _ _ h;cases h) hx)
  ·obtain⟨ao,k,ha,rfl⟩:=J9
   obtain⟨obj,s,hO,aO⟩:=X8 ha hv;obtain⟨x,WM,hx⟩:=aO w;unfold Oper.wp;rw[WM];exact hK lam _ _ _ (AI.alloc hI hR.kL hr j5 hL hd hO fun ρ' hp=>hx ρ' _ hp)
  ·rename_i oq
   obtain⟨v,H',rfl,dX⟩:=J9;have pK:lam≤i:=by
    rcases Nat.lt_or_ge i lam with h1|h1
    ·have:=(hI.loud i v H' j5).2 h1
     rw[hr.no]at this;cases this
    ·exact h1
   have wD:h1=lK ops h rs lam:=(by rw[hInv.heap,hR.ZqY hI hr oq pK]);have wh:∀ q,cons.testBit q=kw ops rs lam q:=fun q=>by
    have h2:cons.testBit q=true↔kw ops rs lam q=true:=by
     rw[hInv.cons,Ev];constructor
     ·rintro⟨l,u,g,h3,h4⟩
      obtain⟨h5,h6⟩:=Jl.1 h3;exact⟨l,u,g,hR.gap hI hr oq h6 h5,h6,h4⟩
     ·rintro⟨l,u,g,h3,h4,h5⟩
      exact⟨l,u,g,Jl.2 ⟨by omega,h4⟩,h5⟩
    cases h3:cons.testBit q<;>cases h4:kw ops rs lam q<;>simp_all
   have MZ:∀ q ao,(q,ao)∈al'→∃ u,rs[q]?=some (.alloc ao u):=fun q ao hq=>by
    obtain⟨u,hu⟩:=(hInv.al q ao).1 hq;exact⟨u,(Jl.1 hu).2⟩
   rw[wD]at dX;have FN:∀ m o',(overlay h.next (fun q=>ahead (bf ops) q i && !(cons.testBit q)) al' (lK ops h rs lam)).get m=some o'→gF h.next rs L (kw ops rs lam) (lK ops h rs lam) m=some o':=fun m o' hm=>by
    refine AI.view hI (al:=al') hr MZ j5 (by intro _ _ h;cases h) (fun q hq => ?_) hm;rw[Zxu]at hq;refine⟨hq.1,?_⟩;have:=hq.2;rw[wh]at this;simpa using this
   refine Zc hc oq dX (HR.sub (by rw[KZ];exact hI.st.hr) FN) hv fun ρ' x w' aW hx => ?_;refine hK (i+1) ρ' w' _ (AI.ZsK hR hI hr oq j5 hL hd KZ (fun m o' hm => ?_) FN aW hx);rcases K5 hm with⟨q,h2,h3,rfl⟩|h2
   ·left
    rw[Zxu]at h2;obtain⟨u,hu⟩:=MZ _ _ h3;refine⟨q,h2.1,?_,rfl,u,hu⟩;have:=h2.2;rw[wh]at this;simpa using this
   ·exact .inr h2
end
end
end Ex
namespace Ex
open Go
noncomputable section
variable [au]
section
variable {P:Program}{call:FuncId→List AV→AH→Option (AV×AH)}{nt:Nat}{ops:Array Oper}{ρ:Ren}{w:World}
theorem Stp.up {ρ':Ren}{g g':Nat→Option AO}{nx nx' n2:Nat}{w':World}(h:Stp ρ g nx w ρ' g' nx' w')(hn:nx'≤n2):Stp ρ g nx w ρ' g' n2 w' :=
 ⟨h.hr.up hn,h.ext,ZxL h.gr hn,h.os,h.tape,h.output,h.size,h.block,h.live,h.dom⟩
omit [au] in
theorem Zu {h:AH}{k:Nat}:(h.skip k).get=h.get:=by cases h;rfl
omit [au] in
theorem YX {h:AH}{k:Nat}:(h.skip k).next=h.next+k:=by cases h;rfl
omit [au] in
theorem cnt {p p':Nat→Bool}{i:Nat}(hp:p i=true)(h:∀ j,p' j=(p j&&decide (j≠i))):∀ l:List Nat,l.Nodup→i∈l→l.countP p'+1=l.countP p
 |[],_,hi=>by cases hi
 |x::l,hn,hi=>by
  rw[ZxS]at hn;by_cases hx:x=i
  ·subst hx
   have:∀ j∈l,p' j=p j:=fun j hj=>by
    rw[h];have:j≠x:=fun he=>hn.1 (he ▸ hj);simp[this]
   have hc:l.countP p'=l.countP p:=by
    clear hi hn
    induction l with
    |nil=>rfl
    |cons y l ih =>
     rw[List.countP_cons,List.countP_cons,ih (fun j hj=>this j (ZnQ _ hj)),this y ZnJ]
   rw[List.countP_cons,List.countP_cons,hc,hp,h];simp
  ·have lh:i∈l:=by
    rcases List.mem_cons.1 hi with h1|h1
    ·exact absurd h1.symm hx
    ·exact h1
   have ih:=cnt hp h l hn.2 lh;rw[List.countP_cons,List.countP_cons,h];simp[hx];omega
omit [au] in
theorem SX {listed:Array Bool}(hs:listed.size=ops.size){i:Nat}:i∈Region.ready .any ops listed↔∃ o,mI ops (fun j=>listed.getD j false) i o:=by
 unfold Region.ready;rw[List.mem_filter,ZxW];constructor
 ·rintro⟨h1,h2⟩
  rw[Zxu]at h2;obtain⟨o,ho⟩:∃ o,ops[i]?=some o:=⟨_,ZxH h1⟩;refine⟨o,ho,?_,fun e he hb => ?_⟩
  ·have:=h2.1
   simp only[Array.getD_eq_getD_getElem?,ZxH (show i<listed.size by omega)]at this ⊢;simpa using this
  ·have:=h2.2
   rw[ho]at this;simp only[Option.map_some,Option.getD_some,Array.all_eq_true_iff_forall_mem]at this;have:=this e (by simpa using he);simpa [hb] using this
 ·rintro⟨o,hr⟩
  have h1:i<ops.size:=(Array.getElem?_eq_some_iff.1 hr.op).1;refine⟨h1,?_⟩;rw[Zxu];refine⟨?_,?_⟩
  ·have:=hr.no
   simp only[Array.getD_eq_getD_getElem?,ZxH (show i<listed.size by omega)]at this ⊢;simpa using this
  ·rw[hr.op]
   simp only[Option.map_some,Option.getD_some,Array.all_eq_true_iff_forall_mem];intro e he;cases hb:Region.binds .any e with
   |false=>rfl
   |true=>simpa using hr.pre e (by simpa using he) hb
section
variable {bF:T AV}{h:AH}{rs:List Rk}{al:List (Nat×AO)}{ρ0:Ren}{w0:World}
omit [au] in
theorem ready_nil (hk:kL ops=true){listed:Array Bool}(hs:listed.size=ops.size)(hn:Region.ready .any ops listed=[]):∀ i,i<ops.size→listed.getD i false=true:=by
 intro i
 induction i using Nat.strongRecOn with
 |_ i ih =>
  intro hi;cases hL:listed.getD i false with
  |true=>rfl
  |false =>
   obtain⟨o,ho⟩:∃ o,ops[i]?=some o:=⟨_,ZxH hi⟩;have:i∈Region.ready .any ops listed:=(SX hs).2 ⟨o,ho,hL,fun e he hb=>by
    have:=Zr0 hk ho e he hb;exact ih e.on this (by omega)⟩
   rw[hn]at this;cases this
theorem ZpE (hR:CW P call nt ops bF h rs al)(hc:BO P call){Q:Exit→Act→World→Prop}
 (hQ:∀ L lam ρ w a,AI nt ops bF h rs ρ0 w0 L lam ρ w a→(∀ i,i<ops.size→L i=true)→Q .normal a w):∀ (fuel:Nat) (listed:Array Bool) (lam:Nat) (ρ:Ren) (w:World) (a:Act),listed.size=ops.size →
 (List.range ops.size).countP (fun j => !listed.getD j false)≤fuel→AI nt ops bF h rs ρ0 w0 (fun j=>listed.getD j false) lam ρ w a→wpAny P .any ops Q fuel listed a w
 |0,listed,lam,ρ,w,a,hs,hf,hI=>by
  have hall:∀ i,i<ops.size→listed.getD i false=true:=by
   intro i hi;have h0:(List.range ops.size).countP (fun j => !listed.getD j false)=0:=(by omega);rw[List.countP_eq_zero]at h0;have:=h0 i (List.mem_range.2 hi);simpa using this
  refine⟨?_,hQ _ _ _ _ _ hI hall⟩;rw[List.eq_nil_iff_forall_not_mem];intro i hi;obtain⟨o,hr⟩:=(SX hs).1 hi;have:=hall i (Array.getElem?_eq_some_iff.1 hr.op).1;have h2:listed.getD i false=false:=hr.no;rw[this]at h2;cases h2
 |fuel+1,listed,lam,ρ,w,a,hs,hf,hI=>by
  refine⟨fun hn=>hQ _ _ _ _ _ hI (ready_nil hR.kL hs hn),fun i hi => ?_⟩;obtain⟨o,hr⟩:=(SX hs).1 hi;have Rp:i<ops.size:=(Array.getElem?_eq_some_iff.1 hr.op).1;have hL:∀ j,(listed.setIfInBounds i true).getD j false=true↔listed.getD j false=true∨j=i:=by
   intro j;simp only[Array.getD_eq_getD_getElem?,Array.getElem?_setIfInBounds];by_cases uT:i=j
   ·subst uT
    simp[show i<listed.size by omega]
   ·simp[uT,Ne.symm uT]
  refine hR.step hc hI hr (L':=fun j=>(listed.setIfInBounds i true).getD j false) hL fun IW ρ' w' a' hI' => ?_;refine ZpE hR hc hQ fuel _ IW ρ' w' a' (by simpa using hs) ?_ hI';have:=cnt (p:=fun j => !listed.getD j false) (p':=fun j => !(listed.setIfInBounds i true).getD j false) (i:=i) (by simpa using hr.no) (fun j=>by
   have:=hL j;cases h1:(listed.setIfInBounds i true).getD j false<;>cases h2:listed.getD j false<;>by_cases h3:j=i<;>simp_all) (List.range ops.size) List.nodup_range (List.mem_range.2 Rp)
  omega
end
theorem Zt (hc:BO P call){env aG:T AV}{h h':AH}{a:Act}(nT:QG P call nt ops env h=some (aG,h'))(hE:ER ρ env nt a)(hH:HR ρ h.get h.next w){Q:Exit→Act→World→Prop}
 (hQ:∀ ρ' w' a',Stp ρ h.get h.next w ρ' h'.get h'.next w'→ER ρ' aG nt a'→Q .normal a' w'):wpAny P .any ops Q ops.size (Array.replicate ops.size false) a w:=by
 unfold QG at nT;split at nT<;>try(cases nT;done)
 rename_i hk;split at nT<;>try(cases nT;done)
 split at nT<;>try(cases nT;done)
 rename_i rs zT hF cons al hd;split at nT<;>try(cases nT;done)
 rename_i Ry;simp only[ZlP,ZxA]at nT;obtain⟨rfl,rfl⟩:=nT;have MU:GL ops (bf ops) env (h.skip ops.size) ([]:List Rk).reverse env (h.skip ops.size) 0 []:=by
  refine⟨fun t v hv=>.inr ⟨by simp[below],hv⟩,rfl,fun a=>by simp[zJ],fun a ao=>by simp⟩
 obtain⟨tail,e1,e2,hInv,Fv⟩:=Ym (bF:=env) (h0:=h.skip ops.size) ops.toList env (h.skip ops.size) 0 [] [] hd (by simp) MU;simp only[List.reverse_nil,List.nil_append,List.length_nil,Nat.zero_add]at e1 Fv;subst e1;have hlen:rs.length=ops.size:=by simpa using e2
 have AB:=XW (nt:=nt) (b:=bf ops) (base:=h.next) (bF:=env) (h0:=h.skip ops.size) (all:=rs) (al:=al) ops.toList [] rs env Ry (by simp) (fun t v hv=>.inr ⟨by simp[below],hv⟩);simp only[List.nil_append,List.length_nil,Nat.zero_add]at AB;have hR:CW P call nt ops env h rs al:=by
  refine⟨hk,hlen,fun i r o hr ho=>Fv i r o hr (by simpa using ho),fun i v o hr ho oq => ?_,hInv.al⟩;obtain⟨en,vs,h1,h2,h3⟩:=AB i v o hr (by simpa using ho) oq;exact⟨en,vs,fun t u hu=>(h1 t u hu).ext fun k hk=>by rw[List.getElem?_take,if_pos hk],h2,h3⟩
 have J5:∀ m o,gF h.next rs (fun j=>(Array.replicate ops.size false).getD j false) (kw ops rs 0) (lK ops h rs 0) m=some o→h.get m=some o:=by
  intro m o hm;rcases Tw hm with⟨q,u,_,_,h2,_⟩|⟨h1,_⟩
  ·simp only[Array.getD_eq_getD_getElem?,Array.getElem?_replicate]at h2
   split at h2<;>simp at h2
  ·have:(lK ops h rs 0).get=h.get:=by unfold lK;rw[List.take_zero];exact Zu
   rw[← this];exact h1
 have eX:lK ops h rs 0=h.skip ops.size:=by unfold lK;rw[List.take_zero];rfl
 refine ZpE (ρ0:=ρ) (w0:=w) hR hc (fun L lam ρ' w' a' hI hall => ?_) ops.size _ 0 ρ w a (by simp) ?_ ?_
 ·have hlam:rs.take lam=rs∨∀ q u g,rs[q]?=some (.loud u g)→q<lam:=.inr fun q u g hq=>(hI.loud q u g hq).1 (hall q (by rw[← hlen];exact(List.getElem?_eq_some_iff.1 hq).1))
  have wu:∀ q u g,rs[q]?=some (.loud u g)→q<lam:=fun q u g hq=>(hI.loud q u g hq).1 (hall q (by rw[← hlen];exact(List.getElem?_eq_some_iff.1 hq).1));have wD:lK ops h rs lam=hF:=by
   rw[hInv.heap];unfold lK;have:rs=rs.take lam++rs.drop lam:=(List.take_append_drop _ _).symm
   conv=>rhs;rw[this]
   rw[vK,Gc (q:=rs.drop lam)];intro r bY;obtain⟨k,hk⟩:=List.mem_iff_getElem?.1 bY;rw[List.getElem?_drop]at hk;cases r with
   |loud u g =>
    have:=wu _ u g hk;omega
   |_=>rfl
  have wh:∀ q,cons.testBit q=kw ops rs lam q:=fun q=>by
   have h2:cons.testBit q=true↔kw ops rs lam q=true:=by
    rw[hInv.cons,Ev];constructor
    ·rintro⟨l,u,g,h3,h4⟩
     exact⟨l,u,g,wu l u g h3,h3,h4⟩
    ·rintro⟨l,u,g,_,h4,h5⟩
     exact⟨l,u,g,h4,h5⟩
   cases h3:cons.testBit q<;>cases h4:kw ops rs lam q<;>simp_all
  refine hQ ρ' w' a' ?_ ⟨hI.dz,hI.size,fun t v hv=>hI.val t v ?_⟩
  ·have:=hI.st
   rw[wD]at this;rw[KZ];refine Stp.sub this fun m o hm => ?_;rcases K5 hm with⟨q,h1,h2,rfl⟩|h1
   ·obtain⟨u,hu⟩:=(hInv.al q o).1 h2
    refine PD hu (hall q (by rw[← hlen];exact(List.getElem?_eq_some_iff.1 hu).1)) ?_;rw[wh]at h1;simpa using h1
   ·refine Ub h1 fun q ao v he hq _ => ?_
    subst he;exact hI.mask q (by rw[← hlen];exact(List.getElem?_eq_some_iff.1 hq).1) (by rw[wD,h1];rfl)
  ·have:=hInv.env t v hv
   rcases this with⟨q,r,h1,h2,h3,h4,h5⟩|⟨h1,h2⟩
   ·refine .inl ⟨q,r,hall q (by rw[← hlen];exact(List.getElem?_eq_some_iff.1 h3).1),h2,h3,h4,fun j hj oP=>h5 j ?_ oP⟩
    have:=hI.lt j hj;simp[below,hlen,this]
   ·refine .inr ⟨fun j hj oP=>h1 j ?_ oP,h2⟩
    have:=hI.lt j hj;simp[below,hlen,this]
 ·have:=List.countP_le_length (p:=fun j => !(Array.replicate ops.size false).getD j false) (l:=List.range ops.size)
  simpa using this
 ·have Rh:∀ j,(Array.replicate ops.size false).getD j false=false:=by
   intro j;simp only[Array.getD_eq_getD_getElem?,Array.getElem?_replicate];split<;>rfl
  refine⟨fun i o _ hi => ?_,fun i hi => ?_,.inl rfl,fun q u g _ => ?_,?_,?_,fun i hi _ => ?_,fun i hi hs => ?_,hE.dz,hE.size,fun t v hv => ?_⟩
  ·rw[Rh]at hi;cases hi
  ·rw[Rh]at hi;cases hi
  ·rw[Rh];simp
  ·rw[eX,YX]
   have:=(Stp.refl hH).up (n2:=h.next+ops.size) (by omega);exact Stp.sub this (by rw[eX]at J5;exact J5)
  ·rw[eX,YX];omega
  ·exact hH.fresh _ (by omega)
  ·rw[eX,Zu]at hs
   obtain⟨o,ho⟩:=Option.isSome_iff_exists.1 hs;obtain⟨b,s,hb,_⟩:=hH.obj _ _ ho;rw[hH.fresh _ (by omega)]at hb;cases hb
  ·rcases hv with⟨q,r,h1,_⟩|⟨_,h2⟩
   ·dsimp only at h1
    rw[Rh]at h1;cases h1
   ·exact hE.val t v h2
end
end
end Ex
namespace Ex
open Go
noncomputable section
variable [au]
section
variable {P:Program}{call:FuncId→List AV→AH→Option (AV×AH)}{nt:Nat}{ρ:Ren}{w:World}
theorem ER.put {ρ':Ren}{env aG:T AV}{a:Act}{dst:Option Tmp}{v:AV}{x:Value}(hE:ER ρ env nt a)(hm:∀ n p,ρ n=some p→ρ' n=some p)(hp:Fb nt env dst v=some aG)(hx:VR ρ' v x):ER ρ' aG nt (a.put dst x):=by
 obtain⟨hd,hv⟩:=PH hp;refine⟨by rw[put_defers];exact hE.dz,by rw[PU];exact hE.size,fun t u hu => ?_⟩;rcases hv t u hu with⟨rfl,rfl⟩|⟨h1,h2⟩
 ·refine⟨x,?_,hx⟩
  have:=hd t rfl;simp[Act.put,hE.size,this]
 ·obtain⟨y,hy,hr⟩:=hE.val t u h2
  refine⟨y,?_,hr.mono hm⟩;cases dst with
  |none=>exact hy
  |some d =>
   have:d≠t:=fun he=>h1 (by rw[he]);simp[Act.put,this,hy]
theorem Fe:VR ρ und undef:=by unfold und VR;exact⟨#[],rfl,aH.nil⟩
theorem Qf (hc:BO P call){ops:Array Oper}{Q:Exit→Act→World→Prop}:∀ (l:List Oper) (env:T AV) (h:AH) (aG:T AV) (h':AH) (ρ:Ren) (w:World) (a:Act),GX P call nt ops l env h=some (aG,h') →
 ER ρ env nt a→HR ρ h.get h.next w→(∀ ρ' w' a',Stp ρ h.get h.next w ρ' h'.get h'.next w'→ER ρ' aG nt a'→Q .normal a' w')→wpList P ops Q l a w
 |[],env,h,aG,h',ρ,w,a,hr,hE,hH,hQ=>by
  simp only[GX,ZlP,ZxA]at hr;obtain⟨rfl,rfl⟩:=hr;exact hQ ρ w a (Stp.refl hH) hE
 |o::l,env,h,aG,h',ρ,w,a,hr,hE,hH,hQ=>by
  unfold GX at hr;split at hr<;>try(cases hr;done)
  ·rename_i hg
   have hw:=Pm (ρ:=ρ) (a:=a) (fun t v _ hv=>hE.val t v hv) hg;split at hr<;>try(cases hr;done)
   rename_i mi hp;unfold wpList;rw[hw];simp only[Bool.false_eq_true,if_false];exact Qf hc l mi h aG h' ρ w _ hr (ER.put hE (fun _ _ h=>h) hp Fe) hH hQ
  ·rename_i hg
   have hw:=Pm (ρ:=ρ) (a:=a) (fun t v _ hv=>hE.val t v hv) hg;split at hr<;>try(cases hr;done)
   rename_i vs mX;split at hr<;>try(cases hr;done)
   rename_i v h1 dX;split at hr<;>try(cases hr;done)
   rename_i mi hp;unfold wpList;rw[hw];simp only[if_true];left;refine ZtC hc dX hH (EH (fun t v _ hv=>hE.val t v hv) mX) fun ρ' x w' aW hx => ?_;exact Qf hc l mi h1 aG h' ρ' w' _ hr (ER.put hE (Stp.mono hH aW) hp hx) aW.hr fun ρ2 w2 a2 h2 h3=>hQ ρ2 w2 a2 (aW.trans h2) h3
def UG:AX→Exit
 | .normal=>.normal
 | .exit id=>.exit id
 | .ret=>.ret
def Me (nt:Nat)(ρ:Ren)(h:AH)(w:World)(x:AX)(aG:T AV)(h':AH)(e:Exit)(a':Act)(w':World):Prop :=
 e=UG x∧∃ ρ',Stp ρ h.get h.next w ρ' h'.get h'.next w'∧ER ρ' aG nt a'
omit [au] in
theorem XY {c:Code}{Q Q':Exit→Act→World→Prop}(hq:∀ e a w,Q e a w→Q' e a w):∀ (n:Nat) (a:Act) (w:World),Code.rounds P c Q n a w→Code.rounds P c Q' n a w
 |0,_,_,h=>h
 |n+1,a,w,h=>by
  rw[rounds_succ]at h ⊢;refine wp_mono h fun e a1 w1 h1 => ?_;cases e with
  |normal=>exact XY hq n a1 w1 h1
  |_=>exact hq _ _ _ h1
theorem LD {c:Code}{body:T AV→AH→Option (AX×T AV×AH)}(hb:∀ env h x aG h',body env h=some (x,aG,h')→∀ (ρ:Ren) w a,ER ρ env nt a→HR ρ h.get h.next w→c.wp P (Me nt ρ h w x aG h') a w) :
 ∀ (n:Nat) env h x aG h',iter body n env h=some (x,aG,h')→∀ (ρ:Ren) w a,ER ρ env nt a→HR ρ h.get h.next w→Code.rounds P c (Me nt ρ h w x aG h') n a w
 |0,_,_,_,_,_,h,_,_,_,_,_=>by simp[iter]at h
 |n+1,env,h,x,aG,h',hi,ρ,w,a,hE,hH=>by
  rw[rounds_succ];unfold iter at hi;split at hi
  ·rename_i mi h1 Aa
   refine wp_mono (hb _ _ _ _ _ Aa ρ w a hE hH) ?_;rintro e a1 w1 ⟨rfl,ρ1,aW,hE1⟩;refine XY (fun e a' w' hq => ?_) _ _ _ (LD hb n _ _ _ _ _ hi ρ1 w1 a1 hE1 aW.hr);obtain⟨h1,ρ2,h2,h3⟩:=hq;exact⟨h1,ρ2,aW.trans h2,h3⟩
  ·rename_i fJ
   refine wp_mono (hb _ _ _ _ _ hi ρ w a hE hH) ?_;rintro e a1 w1 ⟨rfl,hq⟩;cases x with
   |normal=>exact absurd hi (fJ _ _)
   |exit id=>exact⟨rfl,hq⟩
   |ret=>exact⟨rfl,hq⟩
omit [au] in
theorem Zoi {x:AX}{K:Act→World→Prop}{Q:Exit→Act→World→Prop}{a:Act}{w:World}(hn:x = .normal→K a w)(ho:x≠.normal→Q (UG x) a w):Exit.then K Q (UG x) a w:=by
 cases x with
 |normal=>exact hn rfl
 |exit id=>exact ho (by intro h;cases h)
 |ret=>exact ho (by intro h;cases h)
theorem wO (hm:P.follows .mixedOrders=true)(hc:BO P call):∀ (c:Code) env h x aG h',exec P call nt c env h=some (x,aG,h')→∀ (ρ:Ren) w a,ER ρ env nt a→HR ρ h.get h.next w→c.wp P (Me nt ρ h w x aG h') a w
 | .skip,env,h,x,aG,h',he,ρ,w,a,hE,hH=>by
   simp only[exec,ZlP,ZxA]at he;obtain⟨rfl,rfl,rfl⟩:=he;exact wp_skip ⟨rfl,ρ,Stp.refl hH,hE⟩
 | .label l,env,h,x,aG,h',he,ρ,w,a,hE,hH=>by
   simp only[exec,ZlP,ZxA]at he;obtain⟨rfl,rfl,rfl⟩:=he;exact wp_label ⟨rfl,ρ,Stp.refl hH,hE⟩
 | .region id ops false,env,h,x,aG,h',he,ρ,w,a,hE,hH=>by
   unfold exec at he;split at he<;>try(cases he;done)
   rename_i mi h1 hr;simp only[ZlP,ZxA]at he;obtain⟨rfl,rfl,rfl⟩:=he;exact wp_region_list (Qf hc _ _ _ _ _ ρ w a hr hE hH fun ρ' w' a' aW hE'=>⟨rfl,ρ',aW,hE'⟩)
 | .region id ops true,env,h,x,aG,h',he,ρ,w,a,hE,hH=>by
   unfold exec at he;split at he<;>try(cases he;done)
   rename_i mi h1 hr;simp only[ZlP,ZxA]at he;obtain⟨rfl,rfl,rfl⟩:=he;exact wp_region_any hm (Zt hc hr hE (hH.drew _) fun ρ' w' a' aW hE'=>⟨rfl,ρ',aW.drew,hE'⟩)
 | .seq c d,env,h,x,aG,h',he,ρ,w,a,hE,hH=>by
   unfold exec at he;split at he
   ·rename_i mi h1 hx
    refine wp_seq (wp_mono (wO hm hc c _ _ _ _ _ hx ρ w a hE hH) ?_);rintro e a1 w1 ⟨rfl,ρ1,aW,hE1⟩;refine wp_mono (wO hm hc d _ _ _ _ _ he ρ1 w1 a1 hE1 aW.hr) ?_;rintro e a2 w2 ⟨rfl,ρ2,IL,hE2⟩;exact⟨rfl,ρ2,aW.trans IL,hE2⟩
   ·rename_i fJ
    refine wp_seq (wp_mono (wO hm hc c _ _ _ _ _ he ρ w a hE hH) ?_);rintro e a1 w1 ⟨rfl,hq⟩;exact Zoi (fun hx=>by subst hx;exact absurd he (fJ _ _)) (fun _=>⟨rfl,hq⟩)
 | .cond c d e,env,h,x,aG,h',he,ρ,w,a,hE,hH=>by
   unfold exec at he;have Fu:∀ b,ev env c=some (.bool b)→a.eval c = .bool b:=by
    intro b hb;have:=EH (ρ:=ρ) (a:=a) (l:=[c]) (vs:=[.bool b]) (fun t v _ hv=>hE.val t v hv) (by simp[evs,hb]);obtain⟨y,hy,hr⟩:=this.one;simp at hy;unfold VR at hr;rw[hy,hr]
   have Ic:∀ q p,ev env c=some (.jD q p)→a.eval c = .bool (q.ev au.σ==p):=by
    intro q p hb;have:=EH (ρ:=ρ) (a:=a) (l:=[c]) (vs:=[.jD q p]) (fun t v _ hv=>hE.val t v hv) (by simp[evs,hb]);obtain⟨y,hy,hr⟩:=this.one;simp at hy;unfold VR at hr;rw[hy,hr]
   split at he
   ·rename_i hb
    exact wp_cond_true (Fu _ hb) (wO hm hc d _ _ _ _ _ he ρ w a hE hH)
   ·rename_i hb
    exact wp_cond_false (Fu _ hb) (wO hm hc e _ _ _ _ _ he ρ w a hE hH)
   ·rename_i q p hb
    split at he<;>try(cases he;done)
    rename_i r hr;have hb:=Ic _ _ hb;rw[BA hr]at hb;split at he
    ·rename_i IE
     rw[IE]at hb;exact wp_cond_true hb (wO hm hc d _ _ _ _ _ he ρ w a hE hH)
    ·rename_i IE
     rw[IE]at hb;exact wp_cond_false hb (wO hm hc e _ _ _ _ _ he ρ w a hE hH)
   ·cases he
 | .block id c,env,h,x,aG,h',he,ρ,w,a,hE,hH=>by
   unfold exec at he;split at he
   ·rename_i j mi h1 hx
    refine wp_block (wp_mono (wO hm hc c _ _ _ _ _ hx ρ w a hE hH) ?_);rintro e a1 w1 ⟨rfl,ρ1,aW,hE1⟩;split at he
    ·rename_i hj
     have hj:=Zxq hj;simp only[ZlP,ZxA]at he;obtain⟨rfl,rfl,rfl⟩:=he;show(if j=id then _ else _);rw[if_pos hj];exact⟨rfl,ρ1,aW,hE1⟩
    ·rename_i hj
     simp only[ZlP,ZxA]at he;obtain⟨rfl,rfl,rfl⟩:=he;show(if j=id then _ else _);rw[if_neg (fun uU=>by subst uU;simp at hj)];exact⟨rfl,ρ1,aW,hE1⟩
   ·rename_i fJ
    refine wp_block (wp_mono (wO hm hc c _ _ _ _ _ he ρ w a hE hH) ?_);rintro e a1 w1 ⟨rfl,hq⟩;cases x with
    |normal=>exact⟨rfl,hq⟩
    |exit j=>exact absurd he (fJ _ _ _)
    |ret=>exact⟨rfl,hq⟩
 | .loop c,env,h,x,aG,h',he,ρ,w,a,hE,hH=>by
   unfold exec at he;exact wp_loop_rounds 100000 (LD (wO hm hc c) 100000 _ _ _ _ _ he ρ w a hE hH)
 | .scope c,env,h,x,aG,h',he,ρ,w,a,hE,hH=>by
   unfold exec at he;refine wp_scope_straight (wp_mono (wO hm hc c _ _ _ _ _ he ρ w a hE hH) ?_);rintro e a1 w1 ⟨rfl,hq⟩;cases x<;>exact⟨rfl,hq⟩
 | .exit id,env,h,x,aG,h',he,ρ,w,a,hE,hH=>by
   simp only[exec,ZlP,ZxA]at he;obtain⟨rfl,rfl,rfl⟩:=he;exact wp_exit ⟨rfl,ρ,Stp.refl hH,hE⟩
 | .ret,env,h,x,aG,h',he,ρ,w,a,hE,hH=>by
   simp only[exec,ZlP,ZxA]at he;obtain⟨rfl,rfl,rfl⟩:=he;exact wp_ret ⟨rfl,ρ,Stp.refl hH,hE⟩
 | .goto _,_,_,_,_,_,he,_,_,_,_,_=>by simp[exec]at he
 | .rangeFunc _ _ _ _,_,_,_,_,_,he,_,_,_,_,_=>by simp[exec]at he
 | .refuse _,_,_,_,_,_,he,_,_,_,_,_=>by simp[exec]at he
theorem SH {h:AH}{env:T AV}{a:Act}{nx:Nat}{F:ResultVar→Sem Value}(VK:∀ t,F (.tmp t)=pure (a.tmps.getD t undef))(VJ:∀ c t,F (.cell c t)=(asAddr (a.tmps.getD c undef) >>= fun x=>loadVar t x))
 (hH:HR ρ h.get nx w) (hE:ER ρ env nt a):∀ {l:List ResultVar} {vs:List AV},Cg P h env l=some vs →
 ∃ xs:List Value,aH ρ vs xs∧(l.mapM F:Sem (List Value)).run P w = .ok xs w
 |[],vs,hr=>by
  simp only[Cg,ZlP]at hr;subst hr;exact⟨[],aH.nil,rfl⟩
 | .tmp t::l,vs,hr=>by
   unfold Cg at hr;split at hr<;>try(cases hr;done)
   rename_i v hv;split at hr<;>try(cases hr;done)
   rename_i us Ow;simp only[ZlP]at hr;subst hr;obtain⟨x,hx,RB⟩:=hE.val t v hv;obtain⟨xs,h1,h2⟩:=SH VK VJ hH hE Ow;refine⟨x::xs,aH.cons RB h1,?_⟩;have:a.tmps.getD t undef=x:=(by simp[hx]);simp only[List.mapM_cons,Zxy,ZxM,Zxs,VK,this,h2]
 | .cell c t::l,vs,hr=>by
   unfold Cg at hr;split at hr<;>try(cases hr;done)
   rename_i p hp;split at hr<;>try(cases hr;done)
   rename_i v hv;split at hr<;>try(cases hr;done)
   rename_i us Ow;simp only[ZlP]at hr;subst hr;obtain⟨y,hy,vg⟩:=hE.val c p hp;obtain⟨xs,h1,h2⟩:=SH VK VJ hH hE Ow;have hyv:a.tmps.getD c undef=y:=(by simp[hy]);have dX:aH ρ [p] (((Op.load t (.tmp c)).operands.toList).map a.eval):=by
    have:a.eval (.tmp c)=y:=(by simp[Act.eval,hy]);simp only[Op.operands,List.map_cons,List.map_nil,this];exact aH.cons vg aH.nil
   obtain⟨x,hx,aO⟩:=SG (o:={ (default:Oper) with op:=.load t (.tmp c) }) hH hv dX;obtain⟨ad,rfl⟩:∃ ad,y = .pointer (some ad):=by
    simp only[yA]at hv;split at hv<;>try(cases hv;done)
    all_goals (rename_i hh;simp only[List.cons.injEq,and_true]at hh;subst hh)
    ·obtain⟨b,s,_,rfl⟩:=vg.zx
     exact⟨_,rfl⟩
    ·unfold VR at vg
     obtain⟨_,_,_,rfl⟩:=vg;exact⟨_,rfl⟩
    ·unfold VR at vg
     obtain⟨_,_,_,_,rfl,_⟩:=vg;exact⟨_,rfl⟩
    ·unfold VR at vg
     exact⟨_,vg⟩
   have NL:(loadVar t ad).run P w = .ok x w:=by
    have he:a.eval (.tmp c) = .pointer (some ad):=(by simp[Act.eval,hy]);simp only[execOp,he,Instr.loadAt,Instr.sureAddr,Zxy,ZxM,Zxs]at aO;cases hl:(loadVar t ad).run P w with
    |ok x' w' =>
     rw[hl]at aO;simp only[Zxs,Result.ok.injEq,Next.value.injEq]at aO;rw[aO.1,aO.2]
    |halt e w' =>
     rw[hl]at aO;simp at aO
   refine⟨x::xs,aH.cons hx h1,?_⟩;have hs:(F (.cell c t)).run P w = .ok x w:=by
    rw[VJ,hyv,Zxy];exact NL
   simp only[List.mapM_cons,Zxy,ZxM,Zxs,hs,h2]
theorem Sk {h:AH}{env:T AV}{a:Act}{nx:Nat}{fn:Func}{vs:List AV}(hH:HR ρ h.get nx w)(hE:ER ρ env nt a)(hr:Cg P h env fn.results.toList=some vs) :
 ∃ x,VR ρ (JG vs) x∧(results fn a.tmps).run P w = .ok x w:=by
 unfold results;generalize hF:(fun x:ResultVar=>(_:Sem Value))=F;obtain⟨xs,h1,h2⟩:=SH (F:=F) (fun t=>by rw[← hF]) (fun c t=>by rw[← hF]) hH hE hr;have hl:=h1.len;have VU:fn.results=fn.results.toList.toArray:=by simp
 rw[VU,List.mapM_toArray];simp only[Zxy,Sem.run_map];refine⟨if hh:xs.toArray.size=1 then xs.toArray[0] else .tuple xs.toArray,?_,?_⟩
 ·cases vs with
  |nil =>
   simp only[List.length_nil]at hl;rw[dif_neg (by simp;omega)];unfold JG VR;exact⟨_,rfl,by simpa using h1⟩
  |cons v vs =>
   cases vs with
   |nil =>
    obtain⟨y,rfl,hy⟩:=h1.one;exact hy
   |cons v' vs =>
    simp only[ZxJ]at hl;rw[dif_neg (by simp;omega)];unfold JG VR;exact⟨_,rfl,by simpa using h1⟩
 ·rw[h2]
  rfl
omit [au] in
theorem Py:∀ {l:List AV} {k:Nat} {t0:T AV} {t:Nat} {v:AV},(Dp k l t0).get t=some v→(k≤t∧l[t - k]?=some v)∨t0.get t=some v
 |[],k,t0,t,v,h=>.inr h
 |x::l,k,t0,t,v,h=>by
  unfold Dp at h;rcases Py h with⟨h1,h2⟩|h1
  ·have h1:k+1≤t:=h1
   have h2:l[t - (k+1)]?=some v:=h2;refine .inl ⟨by omega,?_⟩;rw[show t - k=(t - (k+1))+1 from by omega,List.getElem?_cons_succ];exact h2
  ·rcases T.get_put h1 with⟨h2,h3⟩|⟨_,h3⟩
   ·subst h2
    exact .inl ⟨Zxt _,by rw[Nat.sub_self];simpa using h3⟩
   ·exact .inr h3
theorem Stp.left {g:Nat→Option AO}{nx:Nat}{w':World}(h:HR ρ g nx w)(hb:RowKit.Below w.heap.size w w'):Stp ρ g nx w ρ g nx w':=by
 have hT:=h.tables (w':=w') (g':=g) (ρ':=ρ) (fun c hc _=>hb.block c hc) (fun m c s1 hm hq=>.inr ⟨m,s1,hm,hq⟩);refine⟨⟨h.fresh,fun n o hn => ?_,h.inj,hT.1,hT.2.1,hT.2.2.1,hT.2.2.2⟩,fun _ _=>rfl,Zxt _,hb.os,hb.tape,hb.output,hb.size,fun b aK _=>hb.block b aK,fun n b s hn hp=>.inr ⟨n,s,hn,hp⟩,fun _ _ h=>h⟩;obtain⟨b,s,hp,hO⟩:=h.obj n o hn;refine⟨b,s,hp,?_⟩;have aK:b<w.heap.size:=by
  rcases Nat.lt_or_ge b w.heap.size with h1|h1
  ·exact h1
  ·rw[Zx1 h1]at hO
   exact hO.EJ.elim
 rw[hb.block b aK];exact hO
mutual
def valOf (σ:Nat→Int):AV→Value
 | .bool b=>.bool b
 | .int k n=>.int k n
 | .sym k e=>.int k (e.ev σ)
 | .jD c p=>.bool (c.ev σ==p)
 | .str s=>.string s
 | .iL=>.pointer none
 | .bR=>.slice none 0 0
 | .bX=>.map none
 | .fo=>.nilFunc
 | .fG=>.nilIface
 | .agg l=>.agg (eU σ l).toArray
 | .gV l=>.tuple (eU σ l).toArray
 |_=>undef
def eU (σ:Nat→Int):List AV→List Value
 |[]=>[]
 |v::l=>valOf σ v::eU σ l
end
mutual
theorem VR.shut:∀ {v:AV} {x:Value},VR ρ v x→v.shut=true→x=valOf au.σ v
 | .bool _,_,h,_=>by unfold VR at h;exact h
 | .int _ _,_,h,_=>by unfold VR at h;exact h
 | .sym _ _,_,h,_=>by unfold VR at h;exact h
 | .jD _ _,_,h,_=>by unfold VR at h;exact h
 | .iE ..,_,_,h=>by cases h
 | .lC ..,_,_,h=>by cases h
 | .vz _,_,_,h=>by cases h
 | .qB ..,_,_,h=>by cases h
 | .kH _ _,_,_,h=>by cases h
 | .str _,_,h,_=>by unfold VR at h;exact h
 | .iL,_,h,_=>by unfold VR at h;exact h
 | .ptr _ _,_,_,h=>by cases h
 | .je _ _,_,_,h=>by cases h
 | .bR,_,h,_=>by unfold VR at h;exact h
 | .sl ..,_,_,h=>by cases h
 | .mo _,_,_,h=>by cases h
 | .tY,_,_,h=>by cases h
 | .tT _,_,_,h=>by cases h
 | .bX,_,h,_=>by unfold VR at h;exact h
 | .map _,_,_,h=>by cases h
 | .fn _ _ _,_,_,h=>by cases h
 | .fo,_,h,_=>by unfold VR at h;exact h
 | .fG,_,h,_=>by unfold VR at h;exact h
 | .xP _ _,_,_,h=>by cases h
 | .agg l,_,h,hs=>by
   unfold VR at h;obtain⟨a,rfl,h⟩:=h;have:=aH.shut h hs;unfold valOf;rw[← this]
 | .gV l,_,h,hs=>by
   unfold VR at h;obtain⟨a,rfl,h⟩:=h;have:=aH.shut h hs;unfold valOf;rw[← this]
theorem aH.shut:∀ {l:List AV} {m:List Value},aH ρ l m→AV.shuts l=true→m=eU au.σ l
 |[],_,h,_=>by unfold aH at h;exact h
 |v::l,_,h,hs=>by
  obtain⟨y,ys,rfl,h1,h2⟩:=h.nA;unfold AV.shuts at hs;split at hs
  ·rename_i hv
   unfold eU;rw[VR.shut h1 hv,aH.shut h2 hs]
  ·cases hs
end
mutual
theorem VR.wU:∀ {v:AV},v.shut=true→VR ρ v (valOf au.σ v)
 | .bool _,_=>by unfold VR valOf;rfl
 | .int _ _,_=>by unfold VR valOf;rfl
 | .sym _ _,_=>by unfold VR valOf;rfl
 | .jD _ _,_=>by unfold VR valOf;rfl
 | .iE ..,h=>by cases h
 | .lC ..,h=>by cases h
 | .vz _,h=>by cases h
 | .qB ..,h=>by cases h
 | .kH _ _,h=>by cases h
 | .str _,_=>by unfold VR valOf;rfl
 | .iL,_=>by unfold VR valOf;rfl
 | .ptr _ _,h=>by cases h
 | .je _ _,h=>by cases h
 | .bR,_=>by unfold VR valOf;rfl
 | .sl ..,h=>by cases h
 | .mo _,h=>by cases h
 | .tY,h=>by cases h
 | .tT _,h=>by cases h
 | .bX,_=>by unfold VR valOf;rfl
 | .map _,h=>by cases h
 | .fn _ _ _,h=>by cases h
 | .fo,_=>by unfold VR valOf;rfl
 | .fG,_=>by unfold VR valOf;rfl
 | .xP _ _,h=>by cases h
 | .agg l,h=>by unfold VR valOf;exact⟨_,rfl,aH.wU h⟩
 | .gV l,h=>by unfold VR valOf;exact⟨_,rfl,aH.wU h⟩
theorem aH.wU:∀ {l:List AV},AV.shuts l=true→aH ρ l (eU au.σ l)
 |[],_=>by unfold eU;exact aH.nil
 |v::l,hs=>by
  unfold AV.shuts at hs;split at hs
  ·rename_i hv
   unfold eU;exact aH.cons (VR.wU hv) (aH.wU hs)
  ·cases hs
end
def zL (P:Program)(gs:List (Nat×List Int))(σ:Nat→Int)(ov:Ov):Prop:=∀ f xs v,(f,xs,v)∈ov →
 AV.shuts xs=true∧v.shut=true∧rz P f∧∀ w,jR gs w→Calls P f (eU σ xs).toArray w fun e w'=>e = .returned (valOf σ v)∧RowKit.Below w.heap.size w w'
omit [au] in
theorem TQ {f:FuncId}{args:List AV}{v:AV}:∀ {ov:Ov},ME f args ov=some v→(f,args,v)∈ov
 |[],h=>by cases h
 |(g,xs,u)::l,h=>by
  unfold ME at h;split at h
  ·rename_i hg
   have hg:=Zxq hg;split at h
   ·rename_i ha
    have ha:=AV.BB ha;simp only[ZlP]at h;subst hg ha h;exact ZnJ
   ·exact ZnQ _ (TQ h)
  ·exact ZnQ _ (TQ h)
theorem Pf:∀ {l:List (dB×Bool)},Gq l=true→∀ c∈l,c.1.ev au.σ=c.2
 |[],_,c,hc=>by cases hc
 |(.lt a b,r)::l,h,c,hc=>by
  unfold Gq at h;split at h<;>try(cases h;done)
  rename_i q hq;split at h<;>try(cases h;done)
  rename_i WJ;rcases List.mem_cons.1 hc with rfl|hc
  ·show decide _=r
   rw[qY hq];simpa using WJ
  ·exact Pf h c hc
 |(.eq a b,r)::l,h,c,hc=>by
  unfold Gq at h;split at h<;>try(cases h;done)
  rename_i q hq;split at h<;>try(cases h;done)
  rename_i WJ;rcases List.mem_cons.1 hc with rfl|hc
  ·show(_==_)=r
   rw[yg hq];simpa using WJ
  ·exact Pf h c hc
def Vd (P:Program)(kn:List Kn):Prop:=∀ k∈kn,(∀ c∈k.conds,c.1.ev au.σ=c.2)→rz P k.f∧∀ (ρ:Ren) (h h':AH) (w:World) (args':Array Value),Md h k.DK=some h'→HR ρ h.get h.next w→aH ρ k.args args'.toList →
 Calls P k.f args' w fun e w'=>∃ x,e = .returned x∧VR ρ k.res x∧Stp ρ h.get h.next w ρ h'.get h'.next w'
theorem Zj {f:FuncId}{args:List AV}{h h':AH}{v:AV}:∀ {kn:List Kn},E9 f args h kn=some (v,h')→∃ k∈kn,k.f=f∧args=k.args∧(∀ c∈k.conds,c.1.ev au.σ=c.2)∧Md h k.DK=some h'∧k.res=v
 |[],hk=>by cases hk
 |k::l,hk=>by
  have ig:E9 f args h l=some (v,h')→∃ k'∈k::l,k'.f=f∧args=k'.args∧(∀ c∈k'.conds,c.1.ev au.σ=c.2)∧Md h k'.DK=some h'∧k'.res=v:=fun hl=>by
   obtain⟨k',h1,h2⟩:=Zj hl;exact⟨k',ZnQ _ h1,h2⟩
  unfold E9 at hk;split at hk
  ·exact ig hk
  ·rename_i hf
   split at hk
   ·exact ig hk
   ·rename_i ha
    split at hk
    ·exact ig hk
    ·rename_i hc
     split at hk
     ·rename_i h1 he
      simp only[ZlP,ZxA]at hk;obtain⟨rfl,rfl⟩:=hk;exact⟨k,ZnJ,Zxq hf,AV.BB ha,Pf hc,he,rfl⟩
     ·exact ig hk
theorem ZsE:Vd P []:=fun k hk=>by cases hk
theorem Ya (hm:P.follows .mixedOrders=true){ov:Ov}(qw:zL P Fc.fU au.σ ov){kn:List Kn}(Wq:Vd P kn):∀ n,BO P (Mg P ov kn n)
 |0=>fun f args h v h' he=>by simp[Mg]at he
 |n+1=>fun f args h v h' he=>by
  unfold Mg at he;split at he
  ·rename_i u hf
   obtain⟨ha,hu,h1,h2⟩:=qw _ _ _ (TQ hf);simp only[ZlP,ZxA]at he;obtain⟨rfl,rfl⟩:=he;refine⟨h1,fun ρ w args' hH bJ => ?_⟩;have bJ:=aH.shut bJ ha;have bJ:args'=(eU au.σ args).toArray:=(by rw[← bJ]);subst bJ;refine(h2 w hH.gl).mono ?_;rintro e w' ⟨rfl,hb⟩;exact⟨ρ,_,rfl,VR.wU hu,Stp.left hH hb⟩
  split at he
  ·rename_i r hk
   simp only[ZlP]at he;subst he;obtain⟨k,bY,rfl,rfl,hcs,V7,rfl⟩:=Zj hk;obtain⟨h1,h2⟩:=Wq k bY hcs;exact⟨h1,fun ρ w args' hH bJ=>(h2 ρ _ _ w args' V7 hH bJ).mono fun e w' ⟨x,hx,hv,aW⟩=>⟨ρ,x,hx,hv,aW⟩⟩
  split at he<;>try(cases he;done)
  rename_i fn hf;split at he<;>try(cases he;done)
  rename_i Ap;split at he<;>try(cases he;done)
  rename_i c hb;split at he<;>try(cases he;done)
  rename_i iF;rw[Zxu]at iF;have iF:=Zx4 iF.1;refine⟨⟨fn,c,hf,Ap,hb⟩,fun ρ w args' hH bJ => ?_⟩;have DV:args.length=args'.size:=by simpa using bJ.len
  have hE:ER ρ (Dp 0 args .e) fn.ntmps { tmps:=args'++Array.replicate (fn.ntmps - args'.size) undef,defers:=[] }:=by
   refine⟨rfl,by simp;omega,fun t v hv => ?_⟩;rcases Py hv with⟨_,h1⟩|h1
   ·rw[Nat.sub_zero]at h1
    obtain⟨x,hx,hr⟩:=bJ.get h1;refine⟨x,?_,hr⟩;have aK:=(List.getElem?_eq_some_iff.1 hx).1;rw[Array.getElem?_append_left (by simpa using aK)];simpa using hx
   ·rw[T.sQ]at h1;cases h1
  split at he<;>try(cases he;done)
  rename_i x aG h1 fJ hx;split at he<;>try(cases he;done)
  rename_i vs mX;simp only[ZlP,ZxA]at he;obtain⟨rfl,rfl⟩:=he;refine calls_of_wp hf hb (wp_mono (wO hm (Ya hm qw Wq n) c _ _ _ _ _ hx ρ w _ hE hH) ?_);rintro e a1 w1 ⟨rfl,ρ1,aW,hE1⟩;obtain⟨y,hy,aO⟩:=Sk (fn:=fn) aW.hr hE1 mX;cases x with
  |exit id=>exact absurd rfl (fJ id)
  |normal=>exact⟨hE1.dz,y,aO,ρ1,y,rfl,hy,aW⟩
  |ret=>exact⟨hE1.dz,y,aO,ρ1,y,rfl,hy,aW⟩
omit [au] in
theorem AH.sQ {n k:Nat}:(AH.mk .e k).get n=none:=T.Gv _
theorem ZV {w:World}(h:Fc.dY=[]):O1 w:=fun i k A len c hk=>by rw[h]at hk;cases hk
theorem Yo (hm:P.follows .mixedOrders=true){ov:Ov}(qw:zL P Fc.fU au.σ ov){n:Nat}{f:FuncId}{args:List AV}{v:AV}(h:runs P ov n f args v=true)(ha:AV.shuts args=true)(hv:v.shut=true)(w:World)(hg:jR Fc.fU w)(Oh:O1 w) :
 Calls P f (eU au.σ args).toArray w fun e w'=>e = .returned (valOf au.σ v)∧RowKit.Below w.heap.size w w':=by
 unfold runs at h;split at h<;>try(cases h;done)
 rename_i u h' hc;have h:=AV.gm h;subst h;have hH:HR (fun _=>none) (AH.mk .e 0).get (AH.mk .e 0).next w:=⟨fun _ _=>rfl,(fun n o hn=>by rw[AH.sQ]at hn;cases hn),(fun n m b s s' hn=>by rw[AH.sQ]at hn;cases hn),hg,(fun b l _ n s hn=>by rw[AH.sQ]at hn;cases hn),Oh,(fun b _ n s hn=>by rw[AH.sQ]at hn;cases hn)⟩;refine((Ya hm qw ZsE n _ _ _ _ _ hc).2 (fun _=>none) w _ hH (aH.wU ha)).mono ?_;rintro e w' ⟨ρ',x,rfl,hx,aW⟩;exact⟨by rw[VR.shut hx hv],aW.os,aW.tape,aW.output,aW.size,fun b hb=>aW.block b hb fun n s hn=>by rw[AH.sQ]at hn;cases hn⟩
structure Two (w w':World)(b0 b1:Nat)(o0 o1:Obj):Prop where
 os:w'.os=w.os
 tape:w'.tape=w.tape
 output:w'.output=w.output
 size:w.heap.size≤w'.heap.size
 block:∀ b,b<w.heap.size→b≠b0→b≠b1→w'.heap[b]?=w.heap[b]?
 at0:w'.heap[b0]?=some o0
 at1:w'.heap[b1]?=some o1
end
end
end Ex
end Go.Proofs.YtfcpdlbkmkhhcaaGreatDoor
