/-
  Texts of this claim, joined. No condition.
-/
import Derived.Test.YtfcpdlbkmkhhcaaGreatDoorCh1
import Derived.Test.YtfcpdlbkmkhhcaaGreatDoorCh5
namespace Go.Proofs.YtfcpdlbkmkhhcaaGreatDoor
set_option maxRecDepth 100000
set_option maxHeartbeats 40000000
namespace Ex
open Go
variable [au]
section
variable {P:Program}{ρ ρ':Ren}
omit [au] in
theorem ZU:∀ (n:Nat) (z:List Value) (i:Nat),i<n * z.length→(List.replicate n z).flatten[i]?=z[i % z.length]?
 |0,z,i,h=>by omega
 |n+1,z,i,h=>by
  rw[List.replicate_succ,List.flatten_cons];by_cases hi:i<z.length
  ·rw[Zx0 hi,Nat.mod_eq_of_lt hi]
  ·rw[ZxY (by omega),ZU n z (i - z.length) (by rw[Nat.succ_mul]at h;omega)]
   congr 1
   rw[← Nat.mod_eq_sub_mod (by omega)]
omit [au] in
theorem Zrj (n:Nat)(z:List Value):(List.replicate n z).flatten.length=n * z.length:=by
 induction n with
 |zero=>simp
 |succ n ih=>rw[List.replicate_succ,List.flatten_cons,Zxw,ih,Nat.succ_mul];omega
omit [au] in
theorem TT (z:Array Value)(n:Nat):((Array.range (n * z.size)).map (z[· % z.size]!)).toList=(List.replicate n z.toList).flatten:=by
 apply List.ext_getElem?;intro i;by_cases hi:i<n * z.size
 ·have h0:0<z.size:=by
   rcases Nat.eq_zero_or_pos z.size with h|h
   ·rw[h]at hi;simp at hi
   ·exact h
  have hm:i % z.size<z.size:=Nat.mod_lt _ h0;have:=ZU n z.toList i (by simpa using hi);rw[this];simp[hi,hm]
 ·have h1:=Zrj n z.toList
  rw[List.getElem?_eq_none (by simp;omega),List.getElem?_eq_none (by rw[h1];simp;omega)]
omit [au] in
theorem O3:∀ {a b:List AV},kz a=true→kz b=true→kz (a++b)=true
 |[],_,_,hb=>hb
 |x::a,b,ha,hb=>by
  unfold kz at ha;split at ha<;>try(cases ha;done)
  rename_i hx;rw[List.cons_append];unfold kz;rw[hx];exact O3 ha hb
omit [au] in
theorem Yw {z:List AV}(h:kz z=true):∀ n,kz (kG n z)=true
 |0=>rfl
 |n+1=>O3 h (Yw h n)
theorem OR.EJ {o:AO}{s:Nat}(h:OR ρ o s none):False:=by
 cases o with
 |cells cs k e=>obtain⟨_,h1,_⟩:=h;cases h1
 |map es bs ck=>obtain⟨_,h1,_⟩:=h;cases h1
 |qR m since seen last=>cases m with
  |none=>cases h
  |some m=>obtain⟨_,_,_,h1⟩:=h;cases h1
 |opq i=>obtain⟨_,_,_,_,_,_,h1⟩:=h;cases h1
 |mG i n m=>obtain⟨_,_,_,_,_,_,_,h1,_⟩:=h;cases h1
 |recs l ks e=>obtain⟨_,h1,_⟩:=h;cases h1
omit [au] in
theorem ZB {α:Type}(v:α):∀ c:Nat,(List.replicate c [v]).flatten=List.replicate c v
 |0=>rfl
 |c+1=>by rw[List.replicate_succ,List.flatten_cons,ZB v c];rfl
def ZpA (P:Program)(ρ:Ren)(a:Act)(o:Oper)(ao:AO)(k:AK):Prop :=
 ∃ obj s,OR ρ ao s (some obj)∧∀ w:World,∃ x,(execOp a.eval o).run P w = .ok (.value x) (w.alloc obj)∧∀ (ρ':Ren) n,ρ' n=some (w.heap.size,s)→VR ρ' (k.at n) x
theorem X8 {o:Oper}{a:Act}{vs:List AV}{ao:AO}{k:AK}(h:BH P o.op vs=some (ao,k))(hv:aH ρ vs (o.op.operands.toList.map a.eval)):ZpA P ρ a o ao k:=by
 unfold ZpA execOp;generalize o.op=op at h hv;cases op with
 |alloc t =>
  simp only[BH]at h;split at h<;>try(cases h;done)
  rename_i z hz;split at h<;>try(cases h;done)
  rename_i h1;simp only[ZlP,ZxA]at h;obtain⟨rfl,rfl⟩:=h;obtain⟨_,zv,_,_,j3,sH⟩:=EG hz;have hc:=(Bu ρ j3).cells;refine⟨.cells zv.cells t (0,0),zv.cells.size,by simpa using O4 hc h1 t,fun w=>⟨.pointer (some ⟨w.heap.size,0,none⟩),?_,fun ρ' n hn=>by unfold AK.at VR;exact⟨_,_,hn,rfl⟩⟩⟩;simp[Instr.alloc,sH w,newVar,newRow]
 |box t x =>
  simp only[BH]at h;split at h<;>try(cases h;done)
  rename_i v;split at h<;>try(cases h;done)
  rename_i h1;simp only[ZlP,ZxA]at h;obtain⟨rfl,rfl⟩:=h;obtain⟨y,hy,hr⟩:=hv.one;simp[Op.operands]at hy;have hc:=hr.cells;refine⟨.cells y.cells t (0,0),y.cells.size,by simpa using O4 hc h1 t,fun w=>⟨.pointer (some ⟨w.heap.size,0,none⟩),?_,fun ρ' n hn=>by unfold AK.at VR;exact⟨_,_,hn,rfl⟩⟩⟩;simp[Instr.box,hy,newVar,newRow]
 |buildSlice t len parts =>
  simp only[BH]at h;split at h<;>try(cases h;done)
  rename_i e hu;split at h<;>try(cases h;done)
  rename_i s hs;split at h<;>try(cases h;done)
  rename_i iF;have iF:len * s≤16777216∧len≤16777216:=by simpa using iF
  obtain⟨iF,hlen⟩:=iF;split at h<;>try(cases h;done)
  rename_i z hz;split at h<;>try(cases h;done)
  rename_i IU;have IU:=Zxq IU;split at h<;>try(cases h;done)
  rename_i ps CB;split at h<;>try(cases h;done)
  rename_i l hl;split at h<;>try(cases h;done)
  rename_i h1;simp only[ZlP,ZxA]at h;obtain⟨rfl,rfl⟩:=h;obtain⟨k1,k2⟩:=Sd CB hv a.eval (by simp[Op.operands]);obtain⟨_,zv,_,_,j3,sH⟩:=EG hz;have hc:=(Bu ρ j3).cells;have mV:zv.cells.size=s:=by have:=hc.len;rw[IU]at this;simpa using this.symm
  have Ed:aH ρ (kG len z.cells) ((Array.range (len * s)).map (zv.cells[· % zv.cells.size]!)).toList:=by
   rw[← mV,TT];exact hc.kG len
  obtain⟨b,hb,Na⟩:=O5 hl Ed k1 k2;refine⟨.cells b e (0,0),b.size,by simpa using O4 Na h1 e,fun w=>⟨.slice (some ⟨w.heap.size,0,none⟩) len len,?_,fun ρ' n hn => ?_⟩⟩
  ·have kF:(parts.map fun (i,x)=>(i,a.eval x)).toList=parts.toList.map fun p=>(p.1,a.eval p.2):=by simp
   have vk:(if len * s=0 then pure #[] else do pure (← zeroValue e).cells:Sem (Array Value)).run P w = .ok (if len * s=0 then #[] else zv.cells) w:=by
    split<;>simp[sH w]
   have Hw:(Instr.buildSlice t len (parts.map fun (i,x)=>(i,a.eval x))).run P w = .ok (.slice (some ⟨w.heap.size,0,none⟩) len len) (w.alloc (.cells b e (0,0))):=by
    unfold Instr.buildSlice;simp only[Zxy,run_underlying hu w,Zxs,oD hs w];have fJ:¬ len * s > 2 ^ 24:=(by omega);simp only[fJ,if_false];have dP:Instr.fill (fun i=>some (i * s,s)) ((Array.range (len * s)).map (zv.cells[· % zv.cells.size]!)) (parts.toList.map fun p=>(p.1,a.eval p.2))=some b:=hb;by_cases h0:len * s=0
    ·rw[if_pos h0]
     have hr0:∀ f g:Nat→Value,(Array.range (len * s)).map f=(Array.range (len * s)).map g:=fun f g=>(by rw[h0];simp);simp only[Zxy,ZxM,Zxs,kF];rw[hr0 _ (zv.cells[· % zv.cells.size]!),dP];simp[newRow]
    ·rw[if_neg h0]
     simp only[Zxy,ZxM,Zxs,sH w,kF];rw[dP];simp[newRow]
   simp[Hw]
  ·have JY:b.size=len * s:=by
    have h2:=Na.len;have h3:l.length=(kG len z.cells).length:=by
     have:∀ {pl:Nat→Option (Nat×Nat)} {ps:List (Nat×AV)} {cells out:List AV},BP pl cells ps=some out→out.length=cells.length:=by
      intro pl ps
      induction ps with
      |nil=>intro cells out h;simp only[BP,ZlP]at h;rw[h]
      |cons p ps ih =>
       intro cells out h;obtain⟨i,v⟩:=p;unfold BP at h;split at h<;>try(cases h;done)
       split at h<;>try(cases h;done)
       rename_i hlen;have hlen:=Zxq hlen;split at h<;>try(cases h;done)
       rename_i fQ;have fQ:=Zx4 fQ;rw[ih h];simp only[Zxw,List.length_take,List.length_drop,hlen];have e:∀ a b:Nat,Nat.add a b=a+b:=fun _ _=>rfl;simp only[e]at fQ ⊢;omega
     exact this hl
    rw[h3]at h2;have h4:=Ed.len;simp at h2 h4;omega
   unfold AK.at VR;refine⟨_,_,len,hn,rfl,Zxt _,?_,rfl,JY.symm⟩;unfold maxLen;omega
 |makeMap t r =>
  simp only[BH]at h;split at h<;>try(cases h;done)
  split at h<;>try(cases h;done)
  simp only[ZlP,ZxA]at h;obtain⟨rfl,rfl⟩:=h;refine⟨.map #[] 0,0,⟨#[],rfl,rfl,rfl⟩,fun w=>⟨.map (some w.heap.size),?_,fun ρ' n hn=>by unfold AK.at VR;exact⟨_,_,hn,rfl⟩⟩⟩;simp[Instr.makeMap]
 |makeSlice t x y =>
  simp only[BH]at h;split at h<;>try(cases h;done)
  rename_i e hu;split at h<;>try(cases h;done)
  rename_i i hi;split at h<;>try(cases h;done)
  ·rename_i kl l kc c
   split at h<;>try(cases h;done)
   rename_i oQ;have oQ:l≤c:=(by simpa using oQ);split at h<;>try(cases h;done)
   rename_i kV;have kV:i.bytes * c≤281474976710656:=(by simpa using kV);split at h<;>try(cases h;done)
   rename_i uN;have uN:c≤9223372036854775807:=(by simpa using uN);split at h<;>try(cases h;done)
   rename_i z hz;split at h<;>try(cases h;done)
   rename_i IU;have IU:=Zxq IU;split at h<;>try(cases h;done)
   rename_i oV;have oV:0<i.size:=(by simpa using oV);split at h<;>try(cases h;done)
   rename_i h1;simp only[ZlP,ZxA]at h;obtain⟨rfl,rfl⟩:=h;obtain⟨i',zv,lh,J7,j3,sH⟩:=EG hz;rw[hi]at lh;cases lh;have hc:=(Bu ρ j3).cells;have mV:zv.cells.size=i.size:=(by have:=hc.len;rw[IU]at this;simpa using this.symm);obtain⟨y1,y2,hy,jL,dO⟩:=hv.two;simp[Op.operands]at hy;obtain⟨e1,e2⟩:=hy;have jL:=jL.BD;have dO:=dO.BD;subst jL;subst dO;have Al:(madeCells zv.cells (c * i.size)).toList=(List.replicate c zv.cells.toList).flatten:=by
    unfold madeCells;rw[← mV];exact TT zv.cells c
   have Ed:aH ρ (kG c z.cells) (madeCells zv.cells (c * i.size)).toList:=by
    rw[Al];exact hc.kG c
   have jK:=Yw h1 c;refine⟨.cells (madeCells zv.cells (c * i.size)) e (0,0),(madeCells zv.cells (c * i.size)).size,by simpa using O4 Ed jK e,fun w=>⟨.slice (some ⟨w.heap.size,0,none⟩) l c,?_,fun ρ' n hn => ?_⟩⟩
   ·have hb:(i.bytes:Int) * (c:Int)≤281474976710656:=by
     have h:((i.bytes * c:Nat):Int)≤281474976710656:=by omega
     rwa [Int.natCast_mul]at h
    have Kh:=run_make (P:=P) w t e i zv hu hi J7 kl kc (l:Int) (c:Int) (by omega) (by omega) hb (by omega);simp only[Zx2]at Kh;have VC:a.eval x = .int kl ((l:Nat):Int):=e1;have e2':a.eval y = .int kc ((c:Nat):Int):=e2;simp[VC,e2',Kh]
   ·unfold AK.at VR
    refine⟨_,_,c,hn,rfl,oQ,by unfold maxLen;omega,rfl,?_⟩;rw[size_madeCells]
  ·rename_i ka ea kb eb
   split at h<;>try(cases h;done)
   rename_i Ho;have Ho:=SE.gm Ho;subst Ho;split at h<;>try(cases h;done)
   rename_i h0;have h0:¬ ea.ev au.σ<0:=of_decide_eq_false (qY h0);split at h<;>try(cases h;done)
   rename_i hm;have hm:ea.ev au.σ<16777216:=Zx6 (qY hm);split at h<;>try(cases h;done)
   rename_i kV;have kV:=Zx4 kV;split at h<;>try(cases h;done)
   rename_i k hz;split at h<;>try(cases h;done)
   rename_i dn;have dn:=Zxq dn;simp only[ZlP,ZxA]at h;obtain⟨rfl,rfl⟩:=h;obtain⟨i',zv,lh,J7,j3,sH⟩:=EG hz;rw[hi]at lh;cases lh;have Bb:=Bu ρ j3;have Bb:=Bb.BD;subst Bb;obtain⟨y1,y2,hy,jL,dO⟩:=hv.two;simp[Op.operands]at hy;obtain⟨e1,e2⟩:=hy;unfold VR at jL dO;obtain⟨c,hc⟩:∃ c:Nat,ea.ev au.σ=c:=⟨(ea.ev au.σ).toNat,by omega⟩;rw[hc]at hm jL dO;subst jL;subst dO;have qK:c<16777216:=(by omega);have hbc:i.bytes * c≤281474976710656:=by
    have:=Nat.mul_le_mul kV (Nat.le_of_lt qK);omega
   have Al:madeCells (Value.int k 0).cells (c * i.size)=Array.replicate c (.int k 0):=by
    have IC:=TT (Value.int k 0).cells c;apply Array.ext';rw[dn];have e0:(madeCells (Value.int k 0).cells (c * 1)).toList=(List.replicate c (Value.int k 0).cells.toList).flatten:=IC;rw[e0,Array.toList_replicate];exact ZB _ c
   refine⟨.cells (Array.replicate c (.int k 0)) e (0,0),c,⟨Array.replicate c (.int k 0),rfl,by simp,?_,fun r j ck hr hk => ?_⟩,fun w=>⟨.slice (some ⟨w.heap.size,0,none⟩) c c,?_,fun ρ' n hn => ?_⟩⟩
   ·simp only[SE.iR,hc,Zx2,ZxJ,List.length_nil,Nat.zero_add,Nat.mul_one]
    exact Zxt _
   ·simp only[SE.iR,hc,Zx2]at hr
    match j with
    |0 =>
     simp only[ZxN,ZlP]at hk;subst hk;simp only[ZxJ,List.length_nil,Nat.zero_add,Nat.mul_one,Nat.add_zero,SE.jd,CK.val];rw[Array.getElem?_replicate,if_pos hr]
    |j+1=>simp at hk
   ·have hb:(i.bytes:Int) * (c:Int)≤281474976710656:=by
     have h:((i.bytes * c:Nat):Int)≤281474976710656:=by omega
     rwa [Int.natCast_mul]at h
    have Kh:=run_make (P:=P) w t e i _ hu hi J7 ka kb (c:Int) (c:Int) (by omega) (by omega) hb (by omega);simp only[Zx2]at Kh;rw[Al]at Kh;have VC:a.eval x = .int ka ((c:Nat):Int):=e1;have e2':a.eval y = .int kb ((c:Nat):Int):=e2;simp[VC,e2',Kh]
   ·unfold AK.at VR
    refine⟨_,_,c,c,hn,rfl,Zxt _,by unfold maxLen;omega,by omega,hc⟩
 |_=>simp[BH]at h
end
end Ex
namespace Ex
open Go
variable [au]
section
variable {P:Program}{ρ ρ':Ren}
omit [au] in
theorem Le {cur:List Value}{ys:List Value}{off:Nat}(h:off+ys.length≤cur.length)(i:Nat) :
 (cur.take off++ys++cur.drop (off+ys.length))[i]?=if off≤i∧i<off+ys.length then ys[i - off]? else cur[i]?:=by
 have h1:(cur.take off).length=off:=by rw[List.length_take];omega
 by_cases h0:i<off
 ·rw[if_neg (by omega),ZxG,Zx0 (by omega),List.getElem?_take,if_pos h0]
 ·by_cases h2:i<off+ys.length
  ·rw[if_pos ⟨by omega,h2⟩,Zx0 (by rw[Zxw];omega),ZxY (by omega),h1]
  ·rw[if_neg (by omega),ZxY (by rw[Zxw];omega),Zxw,h1,List.getElem?_drop]
   congr 1
   omega
theorem YZ {cs:T AV}{cur:Array Value}{l:List AV}{ys:List Value}{off:Nat}(hc:LH ρ cs cur)(hl:aH ρ l ys)(h1:kz l=true)(fQ:off+ys.length≤cur.size) :
 LH ρ (Dz cs off l) (cur.toList.take off++ys++cur.toList.drop (off+ys.length)).toArray:=by
 intro i v hv;have hg:=Le (cur:=cur.toList) (ys:=ys) (off:=off) (by simpa using fQ) i;rcases Gm hv with⟨k1,k2,k3⟩|⟨k1,k2⟩
 ·obtain⟨y,hy,hr⟩:=hl.get k3
  refine⟨F9 h1 v (Zxz k3),y,?_,hr⟩;rw[Zx3,hg,if_pos ⟨k1,by rw[← hl.len];exact k2⟩];exact hy
 ·obtain⟨o1,y,hy,hr⟩:=hc i v k2
  refine⟨o1,y,?_,hr⟩;rw[Zx3,hg,if_neg (by rw[← hl.len];omega)];simpa using hy
omit [au] in
theorem KY {cur:Array Value}{ys:List Value}{off:Nat}(fQ:off+ys.length≤cur.size):(cur.toList.take off++ys++cur.toList.drop (off+ys.length)).toArray.size=cur.size:=by
 simp only[List.size_toArray,Zxw,List.length_take,List.length_drop,Array.length_toList];omega
omit [au] in
theorem Ga {h h':AH}{o:AO}(hf:fresh h o=some h'):h'.next=h.next+1∧∀ j v,h'.get j=some v→(j=h.next∧v=o)∨(j≠h.next∧h.get j=some v):=by
 unfold fresh at hf;split at hf<;>try(cases hf;done)
 simp only[ZlP]at hf;subst hf;obtain⟨m,n⟩:=h;refine⟨rfl,fun j v hv => ?_⟩;rcases T.get_put (t:=m) (k:=n) (x:=some o) hv with⟨h1,h2⟩|⟨h1,h2⟩
 ·exact .inl ⟨h1,by cases h2;rfl⟩
 ·exact .inr ⟨h1,h2⟩
omit [au] in
theorem nX {h:AH}{n:Nat}{x:Option AO}{j:Nat}{v:AO}(hv:(h.put n x).get j=some v):(j=n∧x=some v)∨(j≠n∧h.get j=some v):=by
 obtain⟨m,nx⟩:=h;exact T.get_put hv
omit [au] in
theorem qZ {h:AH}{n:Nat}{x:Option AO}:(h.put n x).next=h.next:=by
 obtain⟨m,nx⟩:=h;rfl
theorem Stp.new {h h':AH}{w w':World}{o:AO}{s:Nat}{obj:Obj}(hr:HR ρ h.get h.next w)(g1:Nat→Option AO)(oN:∀ m o,g1 m=some o→h.get m=some o)(hn:h'.next=h.next+1)
 (kM:∀ j v,h'.get j=some v→(j=h.next∧v=o)∨(j≠h.next∧g1 j=some v)) (hO:OR ρ o s (some obj))
 (hw:w'.heap=w.heap.push obj) (os:w'.os=w.os) (tape:w'.tape=w.tape) (output:w'.output=w.output) :
 Stp ρ h.get h.next w (upd ρ h.next (w.heap.size,s)) h'.get h'.next w'∧(upd ρ h.next (w.heap.size,s)) h.next=some (w.heap.size,s):=by
 refine⟨(Stp.name (g1:=g1) (g':=h'.get) (o:=o) (w':=w') hr h.next (hr.fresh _ (Zxt _)) h'.next (by omega) (by omega) (.inr trivial) (b:=w.heap.size) (s:=s) ?_ os tape output (by rw[hw];simp) ?_ ?_ (.inl (Zxt _)) oN kM).2.2 (Zxt _),by simp[upd]⟩
 ·rw[hw];simpa using hO
 ·intro c hc _
  rw[hw,Array.getElem?_push_lt hc,ZxH hc]
 ·intro m s' hm hp
  obtain⟨o',gU⟩:=Option.isSome_iff_exists.1 hm;obtain⟨b,s1,hb,iB⟩:=hr.obj m o' (oN m o' gU);rw[hp]at hb;cases hb;rw[Zx1 (Zxt _)]at iB;exact iB.EJ
theorem ZF {h:AH}{nx:Nat}{w:World}{sz m:Nat}{x:AV}{u:Value}{l:List AV}(hr:HR ρ h.get nx w)(hs:TE h sz x=some (m,l))(hx:VR ρ x u) :
 (m=0∧((u = .slice none 0 0)∨∃ a c,u = .slice (some a) 0 c)) ∨
 ∃ (a:Addr) (c:Nat) (ys:List Value),u = .slice (some a) m c∧ys.length=m * sz∧aH ρ l ys∧(∀ j v,ys[j]?=some v→w.cell? (a.add j)=some v)∧(∀ y∈ys,y.oneCell'=true)∧kz l=true:=by
 unfold TE at hs;split at hs<;>try(cases hs;done)
 ·simp only[ZlP,ZxA]at hs
  obtain⟨rfl,rfl⟩:=hs;unfold VR at hx;exact .inl ⟨rfl,.inl hx⟩
 ·simp only[ZlP,ZxA]at hs
  obtain⟨rfl,rfl⟩:=hs;unfold VR at hx;exact .inl ⟨rfl,.inr hx⟩
 ·rename_i n off len sz' r
  split at hs<;>try(cases hs;done)
  rename_i dn;have dn:=Zxq dn;subst dn;split at hs<;>try(cases hs;done)
  rename_i cs k e hg;split at hs<;>try(cases hs;done)
  rename_i l' hl;simp only[ZlP,ZxA]at hs;obtain⟨rfl,rfl⟩:=hs;unfold VR at hx;obtain⟨b,s,c,hb,rfl,_⟩:=hx;obtain⟨b',s',dP,hO⟩:=hr.obj _ _ hg;rw[hb]at dP;cases dP;obtain⟨cur,dJ,hs,hk,gu⟩:=hO;obtain⟨ys,mY,CF,gK,jK⟩:=Jd gu hl;refine .inr ⟨_,c,ys,rfl,mY,CF,fun j v hv => ?_,jK,?_⟩
  ·have:=gK j v hv
   rw[Addr.add_mid];simp[World.cell?,dJ,this]
  ·have:∀ {n i:Nat} {l:List AV},nZ cs i n=some l→kz l=true:=by
    intro n
    induction n with
    |zero=>intro i l h;simp only[nZ,ZlP]at h;subst h;rfl
    |succ n ih =>
     intro i l h;unfold nZ at h;split at h<;>try(cases h;done)
     rename_i v hv;split at h<;>try(cases h;done)
     rename_i m hm;simp only[ZlP]at h;subst h;unfold kz;rw[(gu _ _ hv).1];exact ih hm
   exact this hl
omit [au] in
theorem SI {_e:TypeId}{i:TypeInfo}{z:Value}(hz:z.cells.size=i.size)(n:Nat):(Builtin.zeroCells z.cells n).size=n * i.size:=by rw[size_zeroCells,hz]
omit [au] in
theorem Sz {t e:TypeId}{i:TypeInfo}(hu:P.underlying t=some (.slice e))(hi:P.info? e=some i)(ty:TypeId){b:Option Addr}{len c:Nat}(oQ:len≤c){u:Value}
 (hx:u = .slice none 0 0∨∃ a c,u = .slice (some a) 0 c) (w:World):(Builtin.append_ #[t,t] ty #[.slice b len c,u]).run P w = .ok (.slice b len c) w:=by
 rcases hx with rfl|⟨a,c',rfl⟩
 ·cases b with
  |none=>simp[Builtin.append_,run_underlying hu w,sizeOf,typeInfo,hi,Builtin.lenOf,Builtin.firstCells,oQ]
  |some b=>simp[Builtin.append_,run_underlying hu w,sizeOf,typeInfo,hi,Builtin.lenOf,Builtin.firstCells,oQ,storeCells]
 ·cases b with
  |none=>simp[Builtin.append_,run_underlying hu w,sizeOf,typeInfo,hi,Builtin.lenOf,Builtin.firstCells,oQ,loadCells,loadCellsFrom]
  |some b=>simp[Builtin.append_,run_underlying hu w,sizeOf,typeInfo,hi,Builtin.lenOf,Builtin.firstCells,oQ,storeCells,loadCells,loadCellsFrom]
theorem TG {k:CK}{v:AV}{x:SE}{y:Value}(h:Mw k v=some x)(hv:VR ρ v y):y=k.val (x.ev au.σ):=by
 unfold Mw at h;split at h
 ·split at h<;>try(cases h;done)
  rename_i k0 k' e he;split at h<;>try(cases h;done)
  rename_i hk;have hk:=Zx6 hk;subst hk;simp only[ZlP]at h;subst h;exact Bw he hv
 ·split at h<;>try(cases h;done)
  ·rename_i b
   simp only[ZlP]at h;subst h;unfold VR at hv;subst hv;cases b<;>simp[CK.val,SE.ev]
  ·rename_i c p
   split at h<;>try(cases h;done)
   rename_i q hq;simp only[ZlP]at h;subst h;unfold VR at hv;subst hv;rw[BA hq];cases Rx:(q==p)<;>simp[CK.val,SE.ev]
theorem XX:∀ {ks:List CK} {vs:List AV} {r:SE} {ys:List Value},JF ks vs=some r→aH ρ vs ys→ys.length=ks.length∧∀ (j:Nat) (k:CK),ks[j]?=some k→ys[j]?=some (k.val (r.jd au.σ 0 j))
 |[],[],r,ys,h,hv=>by
  unfold aH at hv;subst hv;exact⟨rfl,by simp⟩
 |[],_::_,r,ys,h,hv=>by simp[JF]at h
 |_::_,[],r,ys,h,hv=>by simp[JF]at h
 |k::ks,v::vs,r,ys,h,hv=>by
  unfold JF at h;split at h<;>try(cases h;done)
  rename_i x hx;split at h<;>try(cases h;done)
  rename_i r' hr;simp only[ZlP]at h;subst h;obtain⟨y,ys',rfl,h1,h2⟩:=hv.nA;obtain⟨h3,h4⟩:=XX hr h2;refine⟨by simp[h3],fun j k' hk => ?_⟩;cases j with
  |zero =>
   simp only[ZxN,ZlP]at hk;subst hk;simp only[ZxN,SE.jd];rw[TG hx h1]
  |succ j =>
   simp only[List.getElem?_cons_succ,SE.jd]at hk ⊢;exact h4 j k' hk
theorem YY {l r:SE}{ks:List CK}{cur new:Array Value}{ys:List Value}(FQ:ys.length=ks.length∧∀ (j:Nat) (k:CK),ks[j]?=some k→ys[j]?=some (k.val (r.jd au.σ 0 j)))
 (gK:∀ (q j:Nat) (k:CK),q<l.iR au.σ→ks[j]?=some k→cur[q * ks.length+j]?=some (k.val (l.jd au.σ q j)))
 (hold:∀ i:Nat,i<l.iR au.σ * ks.length→new[i]?=cur[i]?) (Iq:∀ (j:Nat) (y:Value),ys[j]?=some y→new[l.iR au.σ * ks.length+j]?=some y) :
 ∀ (q j:Nat) (k:CK),q<(SE.dW l r).iR au.σ→ks[j]?=some k→new[q * ks.length+j]?=some (k.val ((SE.dW l r).jd au.σ q j)):=by
 intro q j k hq hk;have hj:j<ks.length:=(List.getElem?_eq_some_iff.1 hk).1;simp only[SE.iR]at hq;simp only[SE.jd];by_cases h:q=l.iR au.σ
 ·rw[if_pos h]
  subst h;exact Iq j _ (FQ.2 j k hk)
 ·rw[if_neg h]
  have h1:q<l.iR au.σ:=by omega
  have h2:q * ks.length+j<l.iR au.σ * ks.length:=by
   have:=ZxR ks.length (show q+1≤l.iR au.σ from h1);rw[Nat.add_mul]at this;omega
  rw[hold _ h2];exact gK q j k h1 hk
theorem ZiX {t ty:TypeId}{s x v:AV}{u1 u2:Value}{h h':AH}{w:World}(ha:Ul P t s x h=some (v,h'))(hr:HR ρ h.get h.next w)(hs:VR ρ s u1)(hx:VR ρ x u2) :
 ∃ ρ' y w',(Builtin.append_ #[t,t] ty #[u1,u2]).run P w = .ok y w'∧Stp ρ h.get h.next w ρ' h'.get h'.next w'∧VR ρ' v y:=by
 unfold Ul at ha;split at ha<;>try(cases ha;done)
 rename_i e hu;split at ha<;>try(cases ha;done)
 rename_i i hi;split at ha<;>try(cases ha;done)
 rename_i oV;have oV:0<i.size:=by simpa using oV
 split at ha<;>try(cases ha;done)
 rename_i z hz;split at ha<;>try(cases ha;done)
 rename_i xO;have xO:=Zxq xO;split at ha<;>try(cases ha;done)
 ·
  rename_i l aX;have h0:u2 = .slice none 0 0∨∃ a c,u2 = .slice (some a) 0 c:=by
   rcases ZF hr aX hx with⟨_,h⟩|⟨a,c,_,rfl,_⟩
   ·exact h
   ·exact .inr ⟨a,c,rfl⟩
  split at ha<;>try(cases ha;done)
  all_goals (simp only[ZlP,ZxA]at ha;obtain⟨rfl,rfl⟩:=ha)
  ·have tL:=hs
   unfold VR at tL;subst tL;exact⟨ρ,_,w,Sz hu hi ty (Zxt _) h0 w,Stp.refl hr,hs⟩
  ·have tL:=hs
   unfold VR at tL;obtain⟨a,c,rfl⟩:=tL;exact⟨ρ,_,w,Sz hu hi ty (ZxV _) h0 w,Stp.refl hr,hs⟩
  ·have tL:=hs
   unfold VR at tL;obtain⟨b,s0,c,_,rfl,oQ,_⟩:=tL;exact⟨ρ,_,w,Sz hu hi ty oQ h0 w,Stp.refl hr,hs⟩
 ·rename_i m news eX aX
  have hm:0<m:=by
   rcases Nat.eq_zero_or_pos m with h0|h0
   ·exact absurd h0 eX
   ·exact h0
  obtain⟨a2,c2,ys,rfl,mY,FQ,hcell,jK,hall⟩:∃ (a:Addr) (c:Nat) (ys:List Value),u2 = .slice (some a) m c∧ys.length=m * i.size∧aH ρ news ys∧(∀ j v,ys[j]?=some v→w.cell? (a.add j)=some v)∧(∀ y∈ys,y.oneCell'=true)∧kz news=true:=by
   rcases ZF hr aX hx with⟨h1,_⟩|h1
   ·omega
   ·exact h1
  split at ha<;>try(cases ha;done)
  ·
   split at ha<;>try(cases ha;done)
   rename_i uN;have uN:=Zx4 uN;split at ha<;>try(cases ha;done)
   rename_i kV;have kV:=Zx4 kV;split at ha<;>try(cases ha;done)
   rename_i h1 lZ;simp only[ZlP,ZxA]at ha;obtain⟨rfl,rfl⟩:=ha;unfold VR at hs;subst hs;have hby':m * i.bytes≤140737488355328:=kV;have aO:=run_append_nil (P:=P) w t ty e i z hu hi hz a2 m c2 ys mY hcell hm (by omega) (by omega);obtain⟨hn,hg⟩:=Ga lZ;have eD:=grownCap_ge w m 0 e;have qK:grownCap w m 0 e≤maxLen:=grownCap_le_maxLen w m 0 e (by unfold maxLen;omega);have hO:OR ρ (cellsOf e news) (grownCap w m 0 e * i.size) (some (.cells (ys.toArray++Builtin.zeroCells z.cells (grownCap w m 0 e - m)) e (0,0))):=by
    refine⟨_,rfl,?_,?_,fun j v hv => ?_⟩
    ·rw[Array.size_append,List.size_toArray,SI (_e:=e) xO,mY,← Nat.add_mul]
     congr 1
     omega
    ·have:=FQ.len
     rw[this,mY];exact ZxR _ eD
    ·rcases Gm hv with⟨_,_,h3⟩|⟨_,h3⟩
     ·rw[Nat.sub_zero]at h3
      obtain⟨y,hy,nS⟩:=FQ.get h3;refine⟨F9 hall v (Zxz h3),y,?_,nS⟩;have aK:=(List.getElem?_eq_some_iff.1 hy).1;rw[Array.getElem?_append_left (by simpa using aK)];simpa using hy
     ·rw[T.sQ]at h3;cases h3
   obtain⟨aW,xM⟩:=Stp.new (w':=w.drew.alloc (.cells (ys.toArray++Builtin.zeroCells z.cells (grownCap w m 0 e - m)) e)) hr h.get (fun _ _ h=>h) hn hg hO rfl rfl rfl rfl;refine⟨_,_,_,aO,aW,?_⟩;unfold VR;exact⟨_,_,_,xM,rfl,eD,qK,rfl,rfl⟩
  ·rename_i n len sz r
   split at ha<;>try(cases ha;done)
   rename_i dn;have dn:=Zxq dn;subst dn;split at ha<;>try(cases ha;done)
   rename_i cs k e' hg;split at ha<;>try(cases ha;done)
   rename_i Nj;have Nj:=Zxq Nj;subst Nj;split at ha<;>try(cases ha;done)
   rename_i uN;have uN:len+m≤9223372036854775807:=Zx4 uN;split at ha<;>try(cases ha;done)
   rename_i kV;have kV:(len+m) * i.bytes≤140737488355328:=Zx4 kV;unfold VR at hs;obtain⟨b,s,c,hb,rfl,oQ,qK,iW⟩:=hs;obtain⟨b',s',dP,hO⟩:=hr.obj _ _ hg;rw[hb]at dP;cases dP;obtain⟨cur,dJ,hcs,hk,gu⟩:=hO;have z8:(len+m) * i.size=len * i.size+m * i.size:=Nat.add_mul _ _ _
   have grow:∀ (h1:AH) (g1:Nat→Option AO) (olds:List AV),len+m > c→nZ cs 0 (len * i.size)=some olds→h1.next=h.next+1→(∀ m o,g1 m=some o→h.get m=some o) →
    (∀ j v,h1.get j=some v→(j=h.next∧v=cellsOf e' (olds++news))∨(j≠h.next∧g1 j=some v)) →
    ∃ ρ' y w',(Builtin.append_ #[t,t] ty #[.slice (some ⟨b,0,none⟩) len c,.slice (some a2) m c2]).run P w = .ok y w'∧Stp ρ h.get h.next w ρ' h1.get h1.next w'∧VR ρ' (.sl h.next 0 (len+m) i.size .whole) y:=by
    intro h1 g1 olds Fy holds hn oN kM;obtain⟨os,fD,Iw,Ar,_⟩:=Jd gu holds;have Aq:kz olds=true:=by
     have:∀ {n i:Nat} {l:List AV},nZ cs i n=some l→kz l=true:=by
      intro n
      induction n with
      |zero=>intro i l h;simp only[nZ,ZlP]at h;subst h;rfl
      |succ n ih =>
       intro i l h;unfold nZ at h;split at h<;>try(cases h;done)
       rename_i v hv;split at h<;>try(cases h;done)
       rename_i m hm;simp only[ZlP]at h;subst h;unfold kz;rw[(gu _ _ hv).1];exact ih hm
     exact this holds
    have uW:∀ j v,os[j]?=some v→w.cell? ((⟨b,0,none⟩:Addr).add j)=some v:=fun j v hv=>by
     have:=Ar j v hv;rw[Addr.add_mid];simp[World.cell?,dJ]at this ⊢;exact this
    have aO:=run_append_grow (P:=P) w t ty e' i z hu hi hz ⟨b,0,none⟩ len c os fD uW a2 m c2 ys mY hcell Fy (by omega) (growslice_fits (by omega) kV);have eD:=grownCap_ge w (len+m) c e';have Hz:grownCap w (len+m) c e'≤maxLen:=grownCap_le_maxLen w (len+m) c e' (by unfold maxLen;omega);have rM:=Iw.append FQ;have hO:OR ρ (cellsOf e' (olds++news)) (grownCap w (len+m) c e' * i.size) (some (.cells (os.toArray++ys.toArray++Builtin.zeroCells z.cells (grownCap w (len+m) c e' - (len+m))) e' (0,0))):=by
     refine⟨_,rfl,?_,?_,fun j v hv => ?_⟩
     ·rw[Array.size_append,Array.size_append,List.size_toArray,List.size_toArray,SI (_e:=e') xO,mY,fD,← Nat.add_mul,← Nat.add_mul]
      congr 1
      omega
     ·rw[rM.len,Zxw,fD,mY,← Nat.add_mul]
      exact ZxR _ eD
     ·rcases Gm hv with⟨_,_,h3⟩|⟨_,h3⟩
      ·rw[Nat.sub_zero]at h3
       obtain⟨y,hy,nS⟩:=rM.get h3;refine⟨F9 (O3 Aq hall) v (Zxz h3),y,?_,nS⟩;have aK:=(List.getElem?_eq_some_iff.1 hy).1;rw[Array.getElem?_append_left (by simpa using aK)];simpa using hy
      ·rw[T.sQ]at h3;cases h3
    obtain⟨aW,xM⟩:=Stp.new (w':=w.drew.alloc (.cells (os.toArray++ys.toArray++Builtin.zeroCells z.cells (grownCap w (len+m) c e' - (len+m))) e')) hr g1 oN hn kM hO rfl rfl rfl rfl;refine⟨_,_,_,aO,aW,?_⟩;unfold VR;exact⟨_,_,_,xM,rfl,eD,Hz,rfl,rfl⟩
   split at ha<;>try(cases ha;done)
   ·
    obtain⟨_,iW⟩:=iW;split at ha
    ·
     rename_i fQ;have fQ:(len+m) * i.size≤k:=Zx4 fQ;simp only[ZlP,ZxA]at ha;obtain⟨rfl,rfl⟩:=ha;have gN:len+m≤c:=by
      rcases Nat.lt_or_ge c (len+m) with aK|eD
      ·have:=Nat.mul_lt_mul_of_pos_right aK oV
       omega
      ·exact eD
     have yL:len * i.size+ys.length≤cur.size:=(by rw[mY];omega);have aO:=run_append_room (P:=P) w t ty e' i hu hi b len c cur dJ a2 m c2 ys mY hcell jK gN yL;refine⟨ρ,_,_,aO,?_,?_⟩
     ·rw[qZ]
      refine Stp.change hr (n:=n) (b:=b) (s:=s) (by rw[hg];rfl) hb (o:=.cells (Dz cs (Nat.mul len i.size) news) k e') ?_ rfl rfl rfl (by simp) (fun q _ hq=>setRow_other w b q _ hq) ?_
      ·rw[setRow_heap w b cur _ e' (0,0) dJ]
       exact⟨_,rfl,by rw[KY yL];exact hcs,hk,YZ gu FQ hall yL⟩
      ·intro q o' gU
       rcases nX gU with⟨q1,q2⟩|q1
       ·exact .inl ⟨q1,by cases q2;rfl⟩
       ·exact .inr q1
     ·unfold VR
      exact⟨b,s,c,hb,rfl,gN,qK,rfl,iW⟩
    ·split at ha<;>try(cases ha;done)
     rename_i olds holds;split at ha<;>try(cases ha;done)
     rename_i h1 lZ;simp only[ZlP,ZxA]at ha;obtain⟨rfl,rfl⟩:=ha;obtain⟨hn,kM⟩:=Ga lZ;rw[qZ]at hn kM;by_cases Fy:len+m > c
     ·exact grow h1 (h.put n none).get olds Fy holds hn (fun q o ho=>by
       rcases nX ho with⟨_,q2⟩|⟨_,q2⟩
       ·cases q2
       ·exact q2) kM
     ·
      have gN:len+m≤c:=(by omega);obtain⟨os,fD,Iw,Ar,_⟩:=Jd gu holds;have fD:os.length=len * i.size:=fD;have yL:len * i.size+ys.length≤cur.size:=by
       rw[mY,hcs,← iW,← Nat.add_mul];exact ZxR _ gN
      have aO:=run_append_room (P:=P) w t ty e' i hu hi b len c cur dJ a2 m c2 ys mY hcell jK gN yL;have mW:h.next≠n:=fun he=>by
       have:=hr.fresh n (by omega);rw[this]at hb;cases hb
      have aW:=(Stp.name (g1:=(h.put n none).get) (g':=h1.get) (o:=cellsOf e' (olds++news)) (w':=w.setRow b (cur.toList.take (len * i.size)++ys++cur.toList.drop (len * i.size+ys.length)).toArray) hr h.next (hr.fresh _ (Zxt _)) h1.next (by omega) (by omega) (.inr trivial) (b:=b) (s:=s) ?_ rfl rfl rfl (by simp) (fun q _ hq=>setRow_other w b q _ hq) ?_ (.inr ⟨n,s,by rw[hg];rfl,hb⟩) ?_ kM).2.2 (Zxt _)
      ·refine⟨_,_,_,aO,aW,?_⟩
       unfold VR;exact⟨b,s,c,by simp[upd],rfl,gN,qK,rfl,iW⟩
      ·rw[setRow_heap w b cur _ e' (0,0) dJ]
       have rM:=Iw.append FQ;have Aq:kz olds=true:=by
        have:∀ {n i:Nat} {l:List AV},nZ cs i n=some l→kz l=true:=by
         intro n
         induction n with
         |zero=>intro i l h;simp only[nZ,ZlP]at h;subst h;rfl
         |succ n ih =>
          intro i l h;unfold nZ at h;split at h<;>try(cases h;done)
          rename_i v hv;split at h<;>try(cases h;done)
          rename_i m hm;simp only[ZlP]at h;subst h;unfold kz;rw[(gu _ _ hv).1];exact ih hm
        exact this holds
       refine⟨_,rfl,by rw[KY yL];exact hcs,?_,fun j v hv => ?_⟩
       ·rw[rM.len,Zxw,fD,mY,← iW,← Nat.add_mul]
        exact ZxR _ gN
       ·rcases Gm hv with⟨_,_,h3⟩|⟨_,h3⟩
        ·rw[Nat.sub_zero]at h3
         obtain⟨y,hy,nS⟩:=rM.get h3;refine⟨F9 (O3 Aq hall) v (Zxz h3),y,?_,nS⟩;rw[Zx3,Le (by simpa using yL)];by_cases hj:j<os.length
         ·rw[Zx0 hj]at hy
          rw[if_neg (by omega)];have:=Ar j y hy;simpa using this
         ·rw[ZxY (by omega),fD]at hy
          have Ah:=(List.getElem?_eq_some_iff.1 hy).1;rw[if_pos ⟨by omega,by omega⟩];exact hy
        ·rw[T.sQ]at h3;cases h3
      ·intro q s' hq hp
       obtain⟨o',gU⟩:=Option.isSome_iff_exists.1 hq;rcases nX gU with⟨_,q2⟩|⟨q1,q2⟩
       ·cases q2
       ·exact q1 (hr.inj q n b s' s (by rw[q2];rfl) (by rw[hg];rfl) hp hb)
      ·intro q o ho
       rcases nX ho with⟨_,q2⟩|⟨_,q2⟩
       ·cases q2
       ·exact q2
   ·rename_i c0
    have hc0:c=c0:=iW;split at ha<;>try(cases ha;done)
    rename_i Fy;have Fy:c0<len+m:=(by simpa using Fy);split at ha<;>try(cases ha;done)
    rename_i olds holds;split at ha<;>try(cases ha;done)
    rename_i h1 lZ;simp only[ZlP,ZxA]at ha;obtain⟨rfl,rfl⟩:=ha;obtain⟨hn,kM⟩:=Ga lZ;exact grow h1 h.get olds (by omega) holds hn (fun _ _ h=>h) kM
  ·
   rename_i n e' sz;split at ha<;>try(cases ha;done)
   rename_i dn;have dn:=Zxq dn;subst dn;split at ha<;>try(cases ha;done)
   rename_i qO;have qO:=Zxq qO;subst qO;split at ha<;>try(cases ha;done)
   rename_i l ks e0 hg;split at ha<;>try(cases ha;done)
   rename_i Nk;rw[Zxu]at Nk;have Nj:=Zxq Nk.1;have iT:=Zxq Nk.2;subst Nj;split at ha<;>try(cases ha;done)
   rename_i iF;have iF:=SE.gm iF;subst iF;split at ha<;>try(cases ha;done)
   rename_i aK;have aK:=Zx6 (qY aK);simp only[SE.ev,Gn]at aK;split at ha<;>try(cases ha;done)
   rename_i kV;have kV:i.bytes≤1000000:=Zx4 kV;split at ha<;>try(cases ha;done)
   rename_i r AJ;split at ha<;>try(cases ha;done)
   rename_i h1 lZ;simp only[ZlP,ZxA]at ha;obtain⟨rfl,rfl⟩:=ha;obtain⟨hn,kM⟩:=Ga lZ;rw[qZ]at hn kM;unfold VR at hs;obtain⟨b,s,len,c,hb,rfl,oQ,qK,iW,hlen⟩:=hs;rw[Gn]at hlen;have hlen:l.iR au.σ=len:=(by omega);obtain⟨b',s',dP,hO⟩:=hr.obj _ _ hg;rw[hb]at dP;cases dP;obtain⟨cur,dJ,hcs,hk,gK⟩:=hO;have CF:=XX AJ FQ;have mY:ys.length=1 * i.size:=mY;rw[Nat.one_mul]at mY;have hl6:len<1000000:=(by omega);have VX:(len+1) * i.bytes≤140737488355328:=by
    have:=Nat.mul_le_mul (show len+1≤1000000 from hl6) kV;omega
   have hN:(SE.dW l r).iR au.σ=len+1:=(by simp only[SE.iR,hlen]);by_cases Fy:len+1 > c
   ·let os:List Value:=cur.toList.take (len * i.size)
    have fD:os.length=len * i.size:=by
     simp only[os,List.length_take,Array.length_toList,hcs];rw[hlen,iT]at hk;omega
    have Ar:∀ (j:Nat) v,os[j]?=some v→cur[j]?=some v∧j<len * i.size:=fun j v hv=>by
     have hj:=(List.getElem?_eq_some_iff.1 hv).1;rw[fD]at hj;simp only[os,List.getElem?_take,if_pos hj,Array.getElem?_toList]at hv;exact⟨hv,hj⟩
    have uW:∀ j v,os[j]?=some v→w.cell? ((⟨b,0,none⟩:Addr).add j)=some v:=fun j v hv=>by
     have:=(Ar j v hv).1;rw[Addr.add_mid];simp[World.cell?,dJ]at this ⊢;exact this
    have aO:=run_append_grow (P:=P) w t ty e0 i z hu hi hz ⟨b,0,none⟩ len c os fD uW a2 1 c2 ys (by rw[mY,Nat.one_mul]) hcell Fy (by omega) (growslice_fits (by omega) VX);have eD:=grownCap_ge w (len+1) c e0;have Hz:grownCap w (len+1) c e0≤maxLen:=grownCap_le_maxLen w (len+1) c e0 (by unfold maxLen;omega);have hO:OR ρ (.recs (.dW l r) ks e0) (grownCap w (len+1) c e0 * i.size) (some (.cells (os.toArray++ys.toArray++Builtin.zeroCells z.cells (grownCap w (len+1) c e0 - (len+1))) e0 (0,0))):=by
     refine⟨_,rfl,?_,?_,?_⟩
     ·rw[Array.size_append,Array.size_append,List.size_toArray,List.size_toArray,SI (_e:=e0) xO,mY,fD]
      have:len * i.size+i.size=(len+1) * i.size:=(by rw[Nat.add_mul,Nat.one_mul]);rw[this,← Nat.add_mul]
      congr 1
      omega
     ·rw[hN,iT]
      exact ZxR _ eD
     ·refine YY CF gK (fun i' lh => ?_) (fun j y hy => ?_)
      ·rw[hlen,iT]at lh
       rw[Array.getElem?_append_left (by simp[fD];omega),Array.getElem?_append_left (by simp[fD];omega),Zx3];simp only[os,List.getElem?_take,if_pos lh,Array.getElem?_toList]
      ·have hj:=(List.getElem?_eq_some_iff.1 hy).1
       rw[hlen,iT,Array.getElem?_append_left (by simp[fD];omega),Array.getElem?_append_right (by simp[fD])];simp only[List.size_toArray,fD,Nat.add_sub_cancel_left,Zx3];exact hy
    obtain⟨aW,xM⟩:=Stp.new (w':=w.drew.alloc (.cells (os.toArray++ys.toArray++Builtin.zeroCells z.cells (grownCap w (len+1) c e0 - (len+1))) e0)) hr (h.put n none).get (fun q o ho=>by
     rcases nX ho with⟨_,q2⟩|⟨_,q2⟩
     ·cases q2
     ·exact q2) hn kM hO rfl rfl rfl rfl
    refine⟨_,_,_,aO,aW,?_⟩;unfold VR;exact⟨_,_,_,_,xM,rfl,eD,Hz,rfl,by rw[Gn,hN]⟩
   ·have gN:len+1≤c:=by omega
    have yL:len * i.size+ys.length≤cur.size:=by
     rw[mY,hcs,← iW];have:=ZxR i.size gN;rw[Nat.add_mul,Nat.one_mul]at this;exact this
    have aO:=run_append_room (P:=P) w t ty e0 i hu hi b len c cur dJ a2 1 c2 ys (by rw[mY,Nat.one_mul]) hcell jK gN yL;have mW:h.next≠n:=fun he=>by
     have:=hr.fresh n (by omega);rw[this]at hb;cases hb
    have aW:=(Stp.name (g1:=(h.put n none).get) (g':=h1.get) (o:=.recs (.dW l r) ks e0) (w':=w.setRow b (cur.toList.take (len * i.size)++ys++cur.toList.drop (len * i.size+ys.length)).toArray) hr h.next (hr.fresh _ (Zxt _)) h1.next (by omega) (by omega) (.inr trivial) (b:=b) (s:=s) ?_ rfl rfl rfl (by simp) (fun q _ hq=>setRow_other w b q _ hq) ?_ (.inr ⟨n,s,by rw[hg];rfl,hb⟩) ?_ kM).2.2 (Zxt _)
    ·refine⟨_,_,_,aO,aW,?_⟩
     unfold VR;exact⟨b,s,_,c,by simp[upd],rfl,gN,qK,iW,by rw[Gn,hN]⟩
    ·rw[setRow_heap w b cur _ e0 (0,0) dJ]
     refine⟨_,rfl,by rw[KY yL];exact hcs,?_,?_⟩
     ·rw[hN,iT,← iW]
      exact ZxR _ gN
     ·refine YY CF gK (fun i' lh => ?_) (fun j y hy => ?_)
      ·rw[hlen,iT]at lh
       rw[Zx3,Le (by simpa using yL),if_neg (by omega),Array.getElem?_toList]
      ·have hj:=(List.getElem?_eq_some_iff.1 hy).1
       rw[hlen,iT,Zx3,Le (by simpa using yL),if_pos ⟨by omega,by omega⟩,Nat.add_sub_cancel_left];exact hy
    ·intro q s' hq hp
     obtain⟨o',gU⟩:=Option.isSome_iff_exists.1 hq;rcases nX gU with⟨_,q2⟩|⟨q1,q2⟩
     ·cases q2
     ·exact q1 (hr.inj q n b s' s (by rw[q2];rfl) (by rw[hg];rfl) hp hb)
    ·intro q o ho
     rcases nX ho with⟨_,q2⟩|⟨_,q2⟩
     ·cases q2
     ·exact q2
end
end Ex
end Go.Proofs.YtfcpdlbkmkhhcaaGreatDoor
