/-
  Texts of this claim, joined. No condition.
-/
import Derived.Test.YtfcpdlbkmkhhcaaGreatDoorCh1
import Derived.Test.YtfcpdlbkmkhhcaaGreatDoorCh3
namespace Go.Proofs.YtfcpdlbkmkhhcaaGreatDoor
set_option maxRecDepth 100000
set_option maxHeartbeats 40000000
namespace Ex
open Go
variable [au]
section
variable {P:Program}{ρ:Ren}
theorem VR.ZpP {x:AV}{u:Value}(h:VR ρ x u)(hx:∀ s,x≠.str s):∀ s,u≠.string s:=by
 rintro s rfl;cases x<;>simp[VR]at h;exact hx _ rfl
theorem VR.ofInt {x:AV}{k:IntKind}{n:Int}(h:VR ρ x (.int k n)):x = .int k n∨∃ e,x = .sym k e:=by
 cases x<;>simp[VR]at h
 ·obtain⟨rfl,rfl⟩:=h
  exact .inl rfl
 ·obtain⟨rfl,_⟩:=h
  exact .inr ⟨_,rfl⟩
theorem VR.Qb {x:AV}{k:FloatKind}{n:Nat}(h:VR ρ x (.float k n)):False:=by
 cases x<;>simp[VR]at h
theorem VR.Po {x:AV}{k:FloatKind}{n m:Nat}(h:VR ρ x (.complex k n m)):False:=by
 cases x<;>simp[VR]at h
omit [au] in
theorem binOp_eql {t:TypeId}{u v:Value}(h1:∀ k a,u≠.int k a)(DN:∀ k a,u≠.float k a)(uL:∀ k a b,u≠.complex k a b)(h2:∀ s,u≠.string s) :
 binOp .eql t u v=(do pure (.bool (← Op.equal t u v))):=by
 cases u<;>cases v<;>first|rfl|(exact absurd rfl (h1 _ _))|(exact absurd rfl (DN _ _))|(exact absurd rfl (uL _ _ _))|(exact absurd rfl (h2 _))
omit [au] in
theorem binOp_neq {t:TypeId}{u v:Value}(h1:∀ k a,u≠.int k a)(DN:∀ k a,u≠.float k a)(uL:∀ k a b,u≠.complex k a b)(h2:∀ s,u≠.string s) :
 binOp .neq t u v=(do pure (.bool (!(← Op.equal t u v)))):=by
 cases u<;>cases v<;>first|rfl|(exact absurd rfl (h1 _ _))|(exact absurd rfl (DN _ _))|(exact absurd rfl (uL _ _ _))|(exact absurd rfl (h2 _))
omit [au] in
theorem Zma {t:TypeId}{u v:Value}(h1:∀ k a,v≠.int k a)(DN:∀ k a,v≠.float k a)(uL:∀ k a b,v≠.complex k a b)(h2:∀ s,v≠.string s) :
 binOp .eql t u v=(do pure (.bool (← Op.equal t u v))):=by
 cases u<;>cases v<;>first|rfl|(exact absurd rfl (h1 _ _))|(exact absurd rfl (DN _ _))|(exact absurd rfl (uL _ _ _))|(exact absurd rfl (h2 _))
omit [au] in
theorem Zmb {t:TypeId}{u v:Value}(h1:∀ k a,v≠.int k a)(DN:∀ k a,v≠.float k a)(uL:∀ k a b,v≠.complex k a b)(h2:∀ s,v≠.string s) :
 binOp .neq t u v=(do pure (.bool (!(← Op.equal t u v)))):=by
 cases u<;>cases v<;>first|rfl|(exact absurd rfl (h1 _ _))|(exact absurd rfl (DN _ _))|(exact absurd rfl (uL _ _ _))|(exact absurd rfl (h2 _))
theorem ZiV {op:BinOp}{t:TypeId}{x y v:AV}{u1 u2:Value}(h:Uv P op t x y=some v)(hx:VR ρ x u1)(hy:VR ρ y u2)(ox oy:Operand) :
 ∃ u,VR ρ v u∧∀ w,(do eqGuard op t ox oy u1 u2;binOp op t u1 u2).run P w = .ok u w:=by
 have zU:∀ (k k':IntKind) (a b:Int) w,(eqGuard op t ox oy (.int k a) (.int k' b)).run P w = .ok () w:=by
  intro k k' a b w;unfold eqGuard;cases op<;>rfl
 unfold Uv at h;split at h
 ·rename_i k a k' b
  unfold VR at hx hy;subst hx;subst hy;split at h
  ·obtain⟨u,hu,hr⟩:=Yx (P:=P) (ρ:=ρ) (k':=k') h t
   exact⟨u,hu,fun w=>by simp[zU,hr w]⟩
  ·obtain⟨u,hu,hr⟩:=Yx (P:=P) (ρ:=ρ) (k':=k') h t
   exact⟨u,hu,fun w=>by simp[zU,hr w]⟩
  ·rename_i h1 h2
   split at h
   ·rename_i hk
    have hk:=Zx6 hk;subst hk;obtain⟨u,hu,hr⟩:=Zou (P:=P) (ρ:=ρ) h (fun e=>h1 e) (fun e=>h2 e) t;exact⟨u,hu,fun w=>by simp[zU,hr w]⟩
   ·cases h
 ·obtain⟨u,hu,⟨k,a,b,rfl,rfl⟩,hr⟩:=YK (P:=P) h hx hy t
  exact⟨u,hu,fun w=>by simp[zU,hr w]⟩
 ·obtain⟨u,hu,⟨k,a,b,rfl,rfl⟩,hr⟩:=YK (P:=P) h hx hy t
  exact⟨u,hu,fun w=>by simp[zU,hr w]⟩
 ·cases h
 ·cases h
 ·rename_i aP h2 eB h3 h1
  have NW:=hx.ZpP (fun s e=>by subst e;exact h2 _ rfl);split at h
  ·cases h
  ·rename_i hg
   have kM:=fun w=>Znk (op:=op) (ρ:=ρ) hg hx hy ox oy w;have hni:(∀ k a,u1≠.int k a)∨(∀ k a,u2≠.int k a):=by
    by_cases hi:∃ k a,u1 = .int k a
    ·obtain⟨k,a,rfl⟩:=hi
     right;rintro k' b rfl;rcases hx.ofInt with e1|⟨q,e1⟩
     ·rcases hy.ofInt with e2|⟨q,e2⟩
      ·subst e1;subst e2
       exact h1 _ _ _ _ rfl rfl
      ·exact eB _ _ e2
     ·exact aP _ _ e1
    ·left
     rintro k a rfl;exact hi ⟨k,a,rfl⟩
   have NY:=hy.ZpP (fun s e=>by subst e;exact h3 _ rfl);have e1:binOp .eql t u1 u2=(do pure (.bool (← Op.equal t u1 u2))):=by
    rcases hni with hi|hi
    ·exact binOp_eql hi (fun k a e=>by subst e;exact hx.Qb) (fun k a b e=>by subst e;exact hx.Po) NW
    ·exact Zma hi (fun k a e=>by subst e;exact hy.Qb) (fun k a b e=>by subst e;exact hy.Po) NY
   have e2:binOp .neq t u1 u2=(do pure (.bool (!(← Op.equal t u1 u2)))):=by
    rcases hni with hi|hi
    ·exact binOp_neq hi (fun k a e=>by subst e;exact hx.Qb) (fun k a b e=>by subst e;exact hx.Po) NW
    ·exact Zmb hi (fun k a e=>by subst e;exact hy.Qb) (fun k a b e=>by subst e;exact hy.Po) NY
   split at h
   ·split at h
    ·rename_i b hb
     simp only[ZlP]at h;subst h;have:=K9 (P:=P) (ρ:=ρ) 40 9960 _ _ _ _ _ _ hb hx hy;refine⟨.bool b,by unfold VR;rfl,fun w => ?_⟩;rw[Zxy,kM w,Zxs,e1];simp only[Op.equal,Op.maxDepth,Zxy,this w,Zxs,ZxM]
    ·cases h
   ·split at h
    ·rename_i b hb
     simp only[ZlP]at h;subst h;have:=K9 (P:=P) (ρ:=ρ) 40 9960 _ _ _ _ _ _ hb hx hy;refine⟨.bool (!b),by unfold VR;rfl,fun w => ?_⟩;rw[Zxy,kM w,Zxs,e2];simp only[Op.equal,Op.maxDepth,Zxy,this w,Zxs,ZxM]
    ·cases h
   ·cases h
omit [au] in
theorem Ez {i:Int}{len k:Nat}(h:BC i len=some k):i=k∧k<len:=by
 unfold BC at h;split at h
 ·split at h
  ·rename_i aK
   cases h;exact⟨rfl,by simpa using aK⟩
  ·cases h
 ·cases h
omit [au] in
theorem Zpk (off:Nat):∀ (vs:List Value) (j:Nat) (cs:Array Value),off+j+vs.length≤cs.size →
 ((vs.toArray.zipIdx j).foldl (fun cs (c,i)=>cs.setIfInBounds (off+i) c) cs).toList=cs.toList.take (off+j)++(vs++cs.toList.drop (off+j+vs.length)):=by
 intro vs
 induction vs with
 |nil=>intro j cs h;rw[← Array.foldl_toList];simp
 |cons v vs ih =>
  intro j cs h;have e:((v::vs).toArray.zipIdx j).toList=(v,j)::(vs.toArray.zipIdx (j+1)).toList:=by simp
  rw[← Array.foldl_toList,e,List.foldl_cons,Array.foldl_toList];simp only[ZxJ]at h;rw[ih (j+1) _ (by rw[Array.size_setIfInBounds];omega),Array.toList_setIfInBounds];have aK:off+j<cs.toList.length:=by rw[Array.length_toList];omega
  rw[show off+(j+1)=off+j+1 from by omega,List.take_set,List.drop_set,if_pos (by omega)];have:(List.take (off+j+1) cs.toList).set (off+j) v=List.take (off+j) cs.toList++[v]:=by
   rw[List.take_succ_eq_append_getElem aK,List.set_append_right _ _ (by rw[List.length_take];omega)];rw[List.length_take,Nat.min_eq_left (by omega)];simp
  rw[this];simp[Nat.add_assoc,Nat.add_comm 1]
theorem O5 {pl:Nat→Option (Nat×Nat)}:∀ {ps:List (Nat×AV)} {qs:List (Nat×Value)} {cells out:List AV} {a:Array Value},BP pl cells ps=some out→aH ρ cells a.toList →
 ps.map (·.1)=qs.map (·.1)→aH ρ (ps.map (·.2)) (qs.map (·.2))→∃ b:Array Value,Instr.fill pl a qs=some b∧aH ρ out b.toList
 |[],qs,cells,out,a,h,hc,h1,_=>by
  have:qs=[]:=by simpa using h1.symm
  subst this;simp only[BP,ZlP]at h;subst h;exact⟨a,rfl,hc⟩
 |(i,v)::ps,qs,cells,out,a,h,hc,h1,h2=>by
  obtain⟨q,RF,rfl⟩:∃ q RF,qs=q::RF:=by
   cases qs with
   |nil=>simp at h1
   |cons q RF=>exact⟨q,RF,rfl⟩
  obtain⟨j,x⟩:=q;simp only[List.map_cons,List.cons.injEq]at h1;obtain⟨rfl,h1⟩:=h1;obtain⟨x',xs',he,hx,OC⟩:=aH.nA (by simpa using h2);simp only[List.cons.injEq]at he;obtain⟨rfl,rfl⟩:=he;unfold BP at h;split at h
  ·cases h
  ·rename_i off size pR
   split at h
   ·cases h
   ·rename_i hlen
    have hlen:=Zxq hlen;split at h
    ·cases h
    ·rename_i fQ
     have fQ:off+size≤cells.length:=(by simpa using fQ);have hxc:=hx.cells;have Ik:=hxc.len;have Ru:=hc.len;simp only[Array.length_toList]at Ik Ru;have dn:x.cells.size=size:=(by omega);have Fx:=Zpk off x.cells.toList 0 a (by rw[Array.length_toList];omega);simp only[Array.toArray_toList,Nat.add_zero,Array.length_toList,dn]at Fx;have hv:aH ρ (cells.take off++(v.cells++cells.drop (off+size))) ((x.cells.zipIdx).foldl (fun cs (c,i)=>cs.setIfInBounds (off+i) c) a).toList:=by
      rw[Fx];exact(hc.take off).append (hxc.append (hc.drop (off+size)))
     obtain⟨b,hb,hr⟩:=O5 h hv h1 OC;refine⟨b,?_,hr⟩;unfold Instr.fill;rw[pR];simp only;rw[if_neg (by simp only[Bool.or_eq_true,decide_eq_true_eq,ne_eq];omega)];exact hb
theorem Sd:∀ {parts:List (Nat×Operand)} {vs:List AV} {ps:List (Nat×AV)} {l:List Value},EE parts vs=some ps→aH ρ vs l →
 ∀ (f:Operand→Value),l=parts.map (fun p=>f p.2)→ps.map (·.1)=(parts.map fun p=>(p.1,f p.2)).map (·.1)∧aH ρ (ps.map (·.2)) ((parts.map fun p=>(p.1,f p.2)).map (·.2))
 |[],[],ps,l,h,hv,f,hl=>by
  simp only[EE,ZlP]at h;subst h;simp[aH]
 |[],_::_,ps,l,h,hv,f,hl=>by simp[EE]at h
 |_::_,[],ps,l,h,hv,f,hl=>by simp[EE]at h
 |(i,o)::parts,v::vs,ps,l,h,hv,f,hl=>by
  unfold EE at h;split at h
  ·rename_i r hr
   simp only[ZlP]at h;subst h;obtain⟨y,ys,rfl,h1,h2⟩:=hv.nA;simp only[List.map_cons,List.cons.injEq]at hl;obtain⟨rfl,rfl⟩:=hl;obtain⟨k1,k2⟩:=Sd hr h2 f rfl;refine⟨by simpa using k1,?_⟩;simp only[List.map_cons];exact aH.cons h1 (by simpa using k2)
  ·cases h
omit [au] in
theorem XR:∀ {fs:List Field} {pl:List (Nat×Nat)},LA P fs=some pl→fs.mapM (fun f=>(P.info? f.type).map fun i=>(f.offset,i.size))=some pl
 |[],pl,h=>by simp only[LA,ZlP]at h;subst h;rfl
 |f::fs,pl,h=>by
  unfold LA at h;split at h
  ·rename_i s hs
   split at h
   ·rename_i r hr
    simp only[ZlP]at h;subst h;have:=XR hr;unfold iA at hs;split at hs
    ·rename_i i hi
     cases hs;simp[List.mapM_cons,hi,this]
    ·cases hs
   ·cases h
  ·cases h
theorem VR.ZP {l:List AV}{u:Value}(h:VR ρ (.agg l) u):∃ a:Array Value,u = .agg a∧aH ρ l a.toList:=by unfold VR at h;exact h
theorem Zky {t:TypeId}{parts:Array (Nat×Operand)}{vs:List AV}{v:AV}{l:List Value}{f:Operand→Value}{_x:Operand}(h:mJ P (.build t parts) vs=some v)(hv:aH ρ vs l)
 (hl:l=parts.toList.map (fun p=>f p.2)):∃ u,VR ρ v u∧∀ w,(Instr.build t (parts.map fun (i,x)=>(i,f x))).run P w = .ok u w:=by
 simp only[mJ]at h;split at h
 ·cases h
 ·rename_i ps CB
  obtain⟨k1,k2⟩:=Sd CB hv f hl;split at h
  ·cases h
  ·rename_i z hz
   obtain⟨i,zv,hi,J7,j3,_⟩:=EG hz;have sH:=(Bu ρ j3).cells;have kF:(parts.map fun (i,x)=>(i,f x)).toList=parts.toList.map fun p=>(p.1,f p.2):=(by simp);split at h
   ·rename_i fs hu
    split at h
    ·cases h
    ·rename_i pl pR
     split at h
     ·rename_i out fB
      simp only[ZlP]at h;subst h;obtain⟨b,hb,hr⟩:=O5 fB sH k1 k2;refine⟨.agg b,by unfold VR;exact⟨b,rfl,hr⟩,fun w=>run_build w t _ b ?_⟩;unfold Program.built;rw[hi,hu,kF];simp only[J7,XR pR];rw[← hb]
      congr 1
      funext k
      simp
     ·cases h
   ·rename_i n e hu
    split at h
    ·cases h
    ·rename_i s hs
     split at h
     ·rename_i out fB
      simp only[ZlP]at h;subst h;obtain⟨b,hb,hr⟩:=O5 fB sH k1 k2;refine⟨.agg b,by unfold VR;exact⟨b,rfl,hr⟩,fun w=>run_build w t _ b ?_⟩;unfold Program.built;rw[hi,hu,kF];unfold iA at hs;split at hs
      ·rename_i ie hie
       cases hs;simp only[J7,hie];exact hb
      ·cases hs
     ·cases h
   ·cases h
end
end Ex
namespace Ex
open Go
variable [au]
section
variable {P:Program}{ρ:Ren}
omit [au] in
theorem Ux {a b:Nat}(h:Nat.blt a b=false):¬ a<b:=fun hc=>by
 have:Nat.blt a b=true:=by simpa using hc
 rw[this]at h;cases h
def F7 (ρ:Ren):Option AV→Option Value→Prop
 |none,o=>o=none
 |some x,o=>∃ y,o=some y∧VR ρ x y
theorem Bt {d y k:Nat}{ao:Option AV}{ov:Option Value}(h:bnd d y ao=some k)(hv:F7 ρ ao ov):(ao=none∧ov=none∧k=d)∨∃ kk,ov=some (.int kk (k:Int))∧k≤y:=by
 unfold bnd at h;split at h
 ·cases h
  exact .inl ⟨rfl,hv,rfl⟩
 ·rename_i kk n
  split at h
  ·rename_i iF
   cases h;obtain⟨u,rfl,hu⟩:=hv;unfold VR at hu;subst hu;exact .inr ⟨kk,rfl,by simpa using iF⟩
  ·cases h
 ·cases h
omit [au] in
theorem Ziy (kk:IntKind)(k y:Nat)(code:BoundsCode)(h:k≤y)(w:World):(Instr.sliceBound (.int kk (k:Int)) y code).run P w = .ok k w:=by
 have:=run_sliceBound (P:=P) w kk (k:Int) y code (by omega) (by omega);simpa using this
omit [au] in
theorem PI {t e:TypeId}{s:Nat}(hu:P.underlying t=some (.slice e))(hs:iA P e=some s)(a:Option Addr)(len cap:Nat)(ol oh om:Option Value)(l h m:Nat)
 (hm:(om=none∧m=cap)∨∃ k,om=some (.int k (m:Int))∧m≤cap) (hh:(oh=none∧om=none∧h=len)∨∃ k,oh=some (.int k (h:Int))∧h≤m) (hl:(ol=none∧l=0)∨∃ k,ol=some (.int k (l:Int))∧l≤h) (w:World) :
 (Instr.sliceAt t (.slice a len cap) ol oh om).run P w = .ok (.slice (if m=l then a else a.map (·.add (l * s))) (h - l) (m - l)) w:=by
 have dn:=oD hs w;have hb:(Instr.sliceBounds true len cap ol oh om).run P w = .ok (l,h,m) w:=by
  rcases hm with⟨rfl,rfl⟩|⟨k1,rfl,h1⟩<;>rcases hh with⟨rfl,h0,rfl⟩|⟨k2,rfl,h2⟩<;>rcases hl with⟨rfl,rfl⟩|⟨k3,rfl,h3⟩ <;>
   first
   |(cases h0;done)
   |simp[Instr.sliceBounds,Ziy, *]
 simp[Instr.sliceAt,run_underlying hu w,Instr.slice,hb,dn]
omit [au] in
theorem Zm {σ:Nat→Int}{off:SE}{q:Nat}(h0:0≤off.ev σ)(h4:off.ev σ+q≤4000000000):(JE off q).ev σ=off.ev σ+q:=by
 cases q with
 |zero=>simp[JE]
 |succ q =>
  have e1:Int.ofNat (q+1)=((q+1:Nat):Int):=rfl;by_cases hc:∃ n,off = .lit n
  ·obtain⟨n,rfl⟩:=hc
   show n+Int.ofNat (q+1)=n+_;omega
  ·have e:JE off (q+1) = .iH .add off (.lit (Int.ofNat (q+1))):=by
    cases off<;>first|rfl|exact absurd ⟨_,rfl⟩ hc
   rw[e];simp only[SE.ev];rw[IntKind.wrap_i64];omega
omit [au] in
theorem Zob {σ:Nat→Int}{x y x':SE}{k:Nat}(h:UI x y=some (x',k)):x'.ev σ=x.ev σ∧((x.ev σ+k=y.ev σ)∨y.ev σ=IntKind.i64.wrap (x.ev σ+k)):=by
 unfold UI at h;split at h
 ·rename_i a b
  split at h<;>try(cases h;done)
  rename_i k' hk;simp only[ZlP,ZxA]at h;obtain⟨rfl,rfl⟩:=h;refine⟨rfl,.inl ?_⟩;simp only[SE.ev];have:b - a=(k':Int):=hk;omega
 ·rename_i x0 k0 _
  split at h<;>try(cases h;done)
  rename_i hb;simp only[ZlP,ZxA]at h;obtain⟨rfl,rfl⟩:=h;have:=SE.gm hb;subst this;exact⟨rfl,.inr (by simp only[SE.ev];rfl)⟩
 ·cases h
theorem Zk5 {t e:TypeId}{x v:AV}{al ah am:Option AV}{u:Value}{ol oh om:Option Value}(hu:P.underlying t=some (.slice e))(h:CY P e x al ah am=some v)(hx:VR ρ x u)
 (hl:F7 ρ al ol) (hh:F7 ρ ah oh) (hm:F7 ρ am om):∃ y,VR ρ v y∧∀ w,(Instr.sliceAt t u ol oh om).run P w = .ok y w:=by
 unfold CY at h;split at h
 ·
  unfold VR at hx;subst hx;split at h<;>try(cases h;done)
  rename_i m0 e1;split at h<;>try(cases h;done)
  rename_i h0 e2;split at h<;>try(cases h;done)
  rename_i l0 e3;split at h
  ·cases h
  ·rename_i fJ
   split at h<;>try(cases h;done)
   rename_i s hs;simp only[ZlP]at h;subst h;refine⟨.slice none 0 0,by unfold VR;rfl,fun w => ?_⟩;have q1:(om=none∧0=0)∨∃ k,om=some (.int k ((0:Nat):Int))∧0≤0:=by
    rcases Bt e1 hm with⟨_,r1,_⟩|⟨k,r1,r2⟩
    ·exact .inl ⟨r1,rfl⟩
    ·obtain rfl:m0=0:=by omega
     exact .inr ⟨k,r1,Zxt _⟩
   have q2:(oh=none∧om=none∧0=0)∨∃ k,oh=some (.int k ((0:Nat):Int))∧0≤0:=by
    rcases Bt e2 hh with⟨r0,r1,_⟩|⟨k,r1,r2⟩
    ·rcases Bt e1 hm with⟨_,r3,_⟩|⟨k,r3,r4⟩
     ·exact .inl ⟨r1,r3,rfl⟩
     ·exfalso
      subst r0;cases am with
      |none=>rw[show om=none from hm]at r3;cases r3
      |some am=>exact fJ _ rfl rfl
    ·obtain rfl:h0=0:=by omega
     exact .inr ⟨k,r1,Zxt _⟩
   have q3:(ol=none∧0=0)∨∃ k,ol=some (.int k ((0:Nat):Int))∧0≤0:=by
    rcases Bt e3 hl with⟨_,r1,_⟩|⟨k,r1,r2⟩
    ·exact .inl ⟨r1,rfl⟩
    ·obtain rfl:l0=0:=by omega
     exact .inr ⟨k,r1,Zxt _⟩
   rw[PI hu hs none 0 0 ol oh om 0 0 0 q1 q2 q3 w];rfl
 ·rename_i n off len sz r
  unfold VR at hx;obtain⟨b,s0,c,hρ,rfl,oQ,qK,iW⟩:=hx;split at h<;>try(cases h;done)
  rename_i s hs;split at h
  ·cases h
  ·rename_i dn
   have dn:=Zxq dn;subst dn;split at h
   ·
    have Rw:om=none:=hm;split at h<;>try(cases h;done)
    rename_i hi e1;split at h<;>try(cases h;done)
    rename_i lo e2;have q1:(om=none∧c=c)∨∃ k,om=some (.int k (c:Int))∧c≤c:=.inl ⟨Rw,rfl⟩;have q2:(oh=none∧om=none∧hi=len)∨∃ k,oh=some (.int k (hi:Int))∧hi≤c:=by
     rcases Bt e1 hh with⟨_,r1,r2⟩|⟨k,r1,r2⟩
     ·exact .inl ⟨r1,Rw,r2⟩
     ·exact .inr ⟨k,r1,by omega⟩
    have hhl:hi≤len:=by
     rcases Bt e1 hh with⟨_,r1,r2⟩|⟨k,r1,r2⟩<;>omega
    have q3:(ol=none∧lo=0)∨∃ k,ol=some (.int k (lo:Int))∧lo≤hi:=by
     rcases Bt e2 hl with⟨_,r1,r2⟩|⟨k,r1,r2⟩
     ·exact .inl ⟨r1,r2⟩
     ·exact .inr ⟨k,r1,r2⟩
    have aO:=fun w=>PI hu hs (some ⟨b,off,none⟩) len c ol oh om lo hi c q1 q2 q3 w;split at h
    ·rename_i h0
     have h0:=Zxq h0;subst h0;simp only[ZlP]at h;subst h;refine⟨_,?_,aO⟩;unfold VR;refine⟨b,s0,c,hρ,?_,by omega,qK,iW⟩;simp[Addr.add]
    ·rename_i h0
     split at h
     ·rename_i h1
      have h1:lo<hi:=(by simpa using h1);simp only[ZlP]at h;subst h;refine⟨_,?_,aO⟩;unfold VR;refine⟨b,s0,c - lo,hρ,?_,?_,by omega,trivial⟩
      ·rw[if_neg (by omega)]
       simp only[Option.map_some,Addr.add_mid];rfl
      ·show hi - lo≤c - lo
       omega
     ·rename_i h1
      have h1:¬ lo<hi:=Ux h1;simp only[ZlP]at h;subst h;refine⟨_,?_,aO⟩;unfold VR;have D7:lo≤hi:=by rcases q3 with⟨_,r⟩|⟨k,_,r⟩<;>omega
      rw[show hi - lo=0 from by omega];by_cases hc:c=lo
      ·rw[if_pos hc];exact⟨_,_,rfl⟩
      ·rw[if_neg hc];exact⟨_,_,rfl⟩
   ·rename_i am
    split at h<;>try(cases h;done)
    rename_i ahv;split at h<;>try(cases h;done)
    rename_i m e0;split at h<;>try(cases h;done)
    rename_i hi e1;split at h<;>try(cases h;done)
    rename_i lo e2;split at h
    ·rename_i h0
     have h0:=Zxq h0;subst h0;simp only[ZlP]at h;subst h;obtain⟨k0,r0,r0'⟩:∃ k,om=some (.int k (m:Int))∧m≤len:=by
      rcases Bt e0 hm with⟨r,_⟩|r
      ·cases r
      ·exact r
     obtain⟨k1,r1,r1'⟩:∃ k,oh=some (.int k (hi:Int))∧hi≤m:=by
      rcases Bt e1 hh with⟨r,_⟩|r
      ·cases r
      ·exact r
     have q3:(ol=none∧0=0)∨∃ k,ol=some (.int k ((0:Nat):Int))∧0≤hi:=by
      rcases Bt e2 hl with⟨_,r1,r2⟩|⟨k,r1,r2⟩
      ·exact .inl ⟨r1,r2⟩
      ·exact .inr ⟨k,r1,r2⟩
     refine⟨_,?_,fun w=>PI hu hs (some ⟨b,off,none⟩) len c ol oh om 0 hi m (.inr ⟨k0,r0,by omega⟩) (.inr ⟨k1,r1,r1'⟩) q3 w⟩;unfold VR;refine⟨b,s0,m,hρ,?_,by omega,by omega,rfl⟩;simp[Addr.add]
    ·cases h
 ·rename_i n len sz
  split at h<;>try(cases h;done)
  rename_i s hs;split at h<;>try(cases h;done)
  rename_i dn;rw[Zxu]at dn;have WR:=Zxq dn.1;have oV:0<s:=by simpa using dn.2
  subst WR;split at h<;>try(cases h;done)
  rename_i va vb;split at h<;>try(cases h;done)
  rename_i ka x qQ;split at h<;>try(cases h;done)
  rename_i kb y CL;split at h<;>try(cases h;done)
  rename_i x' k rZ;split at h<;>try(cases h;done)
  rename_i pM;split at h<;>try(cases h;done)
  rename_i Wi;split at h<;>try(cases h;done)
  rename_i hk;rw[Zxu]at hk;have Ii:0<k:=by simpa using hk.1
  have hk1:k<1000000000:=by simpa using hk.2
  have pM:=of_decide_eq_false (qY pM);have Wi:=Zx6 (qY Wi);simp only[SE.ev]at pM Wi;obtain⟨e1,e2⟩:=Zob (σ:=au.σ) rZ;have fQ:v = .qB n x' k s∧x'.ev au.σ+k≤len.ev au.σ:=by
   split at h
   ·rename_i iF
    have iF:=of_decide_eq_false (qY iF);simp only[SE.ev]at iF;have hw:IntKind.i64.wrap (x'.ev au.σ+Int.ofNat k)=x'.ev au.σ+k:=by
     rw[IntKind.wrap_i64];show _=x'.ev au.σ+(k:Int);have:Int.ofNat k=(k:Int):=rfl;omega
    rw[hw]at iF;cases h;exact⟨rfl,by omega⟩
   ·split at h<;>try(cases h;done)
    rename_i hwn;obtain⟨w1,w2⟩:=Gg hwn;have hq:Nat.sub k 1=k - 1:=rfl;rw[Zm (by omega) (by omega)]at w2;cases h;exact⟨rfl,by omega⟩
  obtain⟨rfl,fQ⟩:=fQ;unfold VR at hx;obtain⟨b,z,l,c,hb,rfl,oQ,qK,hz,hlen⟩:=hx;obtain⟨ua,rfl,ha⟩:=hl;obtain⟨ub,rfl,Hu⟩:=hh;have Rw:om=none:=hm;subst Rw;have ha:=Bw qQ ha;have Hu:=Bw CL Hu;subst ha;subst Hu;have ex:x.ev au.σ=(((x'.ev au.σ).toNat:Nat):Int):=by omega
  have ey:y.ev au.σ=(((x'.ev au.σ).toNat+k:Nat):Int):=by
   rcases e2 with e2|e2
   ·omega
   ·rw[e2,IntKind.wrap_i64]
    omega
  rw[ex,ey];have hkl:(x'.ev au.σ).toNat+k≤c:=by omega
  refine⟨_,?_,fun w=>PI hu hs (some ⟨b,0,none⟩) l c _ _ none (x'.ev au.σ).toNat ((x'.ev au.σ).toNat+k) c (.inl ⟨rfl,rfl⟩) (.inr ⟨kb,rfl,hkl⟩) (.inr ⟨ka,rfl,by omega⟩) w⟩;unfold VR;refine⟨b,z,c - (x'.ev au.σ).toNat,hb,?_,by omega,by omega,by omega,by omega⟩;rw[if_neg (by omega)];simp only[Option.map_some,Addr.add_mid,Nat.zero_add,Nat.add_sub_cancel_left]
 ·cases h
theorem Zkr {mx:Bool}{x y v:AV}{a b:Value}(h:UL mx x y=some v)(hx:VR ρ x a)(hy:VR ρ y b):∃ u,VR ρ v u∧∀ w,((if mx then Builtin.max2 a b else Builtin.min2 a b):Sem Value).run P w = .ok u w:=by
 unfold UL at h;split at h
 ·unfold VR at hx hy
  subst hx;subst hy;split at h<;>(simp only[ZlP]at h;subst h;refine⟨_,by unfold VR;rfl,fun w => ?_⟩)
  ·simp[Builtin.max2]
  ·simp[Builtin.min2]
 ·split at h<;>try(cases h;done)
  rename_i k a' h1;split at h<;>try(cases h;done)
  rename_i k' b' h2;have e1:=Bw h1 hx;have e2:=Bw h2 hy;split at h<;>try(cases h;done)
  rename_i hk;have hk:=Zx6 hk;subst hk;split at h<;>try(cases h;done)
  split at h<;>try(cases h;done)
  ·rename_i hr
   have:=Zx6 (qY hr);cases h;subst e1;subst e2;exact⟨_,hy,fun w=>by simp[Builtin.max2,this]⟩
  ·rename_i hr
   have:=of_decide_eq_false (qY hr);cases h;subst e1;subst e2;exact⟨_,hx,fun w=>by simp[Builtin.max2,this]⟩
theorem Sy (mx:Bool):∀ {l:List AV} {x v:AV} {a:Value} {m:List Value},Jj mx x l=some v→VR ρ x a→aH ρ l m→∃ u,VR ρ v u∧∀ w,(m.foldlM (fun a b=>if mx then Builtin.max2 a b else Builtin.min2 a b) a:Sem Value).run P w = .ok u w
 |[],x,v,a,m,h,hx,hl=>by
  unfold aH at hl;subst hl;simp only[Jj,ZlP]at h;subst h;exact⟨a,hx,fun w=>by simp⟩
 |y::l,x,v,a,m,h,hx,hl=>by
  obtain⟨b,bs,rfl,h1,h2⟩:=hl.nA;unfold Jj at h;split at h
  ·rename_i u hu
   obtain⟨c,hc,hr⟩:=Zkr (P:=P) hu hx h1;obtain⟨d,hd,nS⟩:=Sy mx h hc h2;refine⟨d,hd,fun w => ?_⟩;rw[List.foldlM_cons,Zxy,hr w,Zxs,nS w]
  ·cases h
theorem VR.BD {k:IntKind}{n:Int}{u:Value}(h:VR ρ (.int k n) u):u = .int k n:=by unfold VR at h;exact h
theorem VR.zx {n off:Nat}{u:Value}(h:VR ρ (.ptr n off) u):∃ b s,ρ n=some (b,s)∧u = .pointer (some ⟨b,off,none⟩):=by unfold VR at h;exact h
theorem Sg {t:TypeId}{x v:AV}{e:SE}{u:Value}{k:IntKind}(h:LY P t x e=some v)(hx:VR ρ x u) :
 ∃ y,VR ρ v y∧∀ w,(Instr.indexAt t u (.int k (e.ev au.σ))).run P w = .ok y w:=by
 unfold LY at h;split at h<;>try(cases h;done)
 ·rename_i n len z
  split at h<;>try(cases h;done)
  rename_i el hu;split at h<;>try(cases h;done)
  rename_i s hs;split at h<;>try(cases h;done)
  rename_i dn;have dn:=Zxq dn;subst dn;split at h<;>try(cases h;done)
  rename_i hw;obtain⟨w1,w2⟩:=Gg hw;simp only[ZlP]at h;subst h;unfold VR at hx;obtain⟨b,z,l,c,hb,rfl,oQ,qK,hz,hl⟩:=hx;refine⟨.pointer (some ⟨b,(e.ev au.σ).toNat * s+0,none⟩),by unfold VR;exact⟨b,z,hb,rfl⟩,fun w => ?_⟩;have h1:¬ e.ev au.σ<0:=by omega
  have h2:e.ev au.σ<(l:Int):=by omega
  have h3:(e.ev au.σ).toNat<l:=by omega
  simp[Instr.indexAt,asIntOf,run_underlying hu w,h2,w1,oD hs w,Addr.add_mid]
 ·rename_i n off len z r
  split at h<;>try(cases h;done)
  rename_i el hu;split at h<;>try(cases h;done)
  rename_i s hs;split at h<;>try(cases h;done)
  rename_i dn;rw[Zxu]at dn;have WQ:=Zxq dn.1;have nQ:=Zxq dn.2;subst WQ;subst nQ;split at h<;>try(cases h;done)
  rename_i hw;obtain⟨w1,w2⟩:=Gg hw;simp only[SE.ev]at w2;simp only[ZlP]at h;subst h;unfold VR at hx;obtain⟨b,z,c,hb,rfl,oQ,qK,_⟩:=hx;refine⟨.pointer (some ⟨b,(e.ev au.σ).toNat * s+0,none⟩),by unfold VR;exact⟨b,z,hb,rfl⟩,fun w => ?_⟩;have h1:¬ e.ev au.σ<0:=by omega
  have h2:e.ev au.σ<(len:Int):=w2;have h3:(e.ev au.σ).toNat<len:=by omega
  simp[Instr.indexAt,asIntOf,run_underlying hu w,h2,w1,oD hs w,Addr.add_mid]
 ·rename_i n off
  split at h<;>try(cases h;done)
  rename_i len el hu;split at h<;>try(cases h;done)
  rename_i s hs;split at h<;>try(cases h;done)
  rename_i nQ;have nQ:=Zxq nQ;subst nQ;split at h<;>try(cases h;done)
  rename_i hw;obtain⟨w1,w2⟩:=Gg hw;simp only[SE.ev]at w2;simp only[ZlP]at h;subst h;obtain⟨b,z,hb,rfl⟩:=hx.zx;refine⟨.pointer (some ⟨b,(e.ev au.σ).toNat * s+0,none⟩),by unfold VR;exact⟨b,z,hb,rfl⟩,fun w => ?_⟩;have h1:¬ e.ev au.σ<0:=by omega
  have h2:e.ev au.σ<(len:Int):=w2;have h3:(e.ev au.σ).toNat<len:=by omega
  simp[Instr.indexAt,asIntOf,run_underlying hu w,h2,w1,oD hs w,Addr.add_mid,Instr.sureAddr]
 ·rename_i i
  split at h<;>try(cases h;done)
  rename_i el hu;split at h<;>try(cases h;done)
  rename_i s hs;split at h<;>try(cases h;done)
  rename_i dn;have dn:=Zxq dn;subst dn;split at h<;>try(cases h;done)
  rename_i hw;obtain⟨w1,w2⟩:=Gg hw;simp only[ZlP]at h;subst h;unfold VR at hx;obtain⟨A,l,c,Oh,rfl,oQ,qK,kg,hl⟩:=hx;simp only[SE.ev,SE.iR]at w2;have h2:e.ev au.σ<(l:Int):=by omega
  cases A with
  |none=>exact absurd (hl rfl) (by omega)
  |some A =>
   have h1:¬ e.ev au.σ<0:=(by omega);have h3:(e.ev au.σ).toNat<l:=(by omega);refine⟨.pointer (some (A.add (e.ev au.σ).toNat)),by unfold VR;exact⟨A,l,c,Oh,rfl,h3⟩,fun w => ?_⟩;simp[Instr.indexAt,asIntOf,run_underlying hu w,h2,w1,oD hs w]
theorem Yj {o:Oper}{a:Act}{vs:List AV}{v:AV}(h:mJ P o.op vs=some v)(hv:aH ρ vs (o.op.operands.toList.map a.eval)) :
 ∃ x,VR ρ v x∧∀ w,(execOp a.eval o).run P w = .ok (.value x) w:=by
 unfold execOp;generalize o.op=op at h hv;cases op with
 |move x =>
  simp only[mJ]at h;split at h<;>try(cases h;done)
  simp only[ZlP]at h;subst h;obtain⟨y,hy,hr⟩:=hv.one;simp[Op.operands]at hy;exact⟨_,hr,fun w=>by simp[hy]⟩
 |assign x =>
  simp only[mJ]at h;split at h<;>try(cases h;done)
  simp only[ZlP]at h;subst h;obtain⟨y,hy,hr⟩:=hv.one;simp[Op.operands]at hy;exact⟨_,hr,fun w=>by simp[hy]⟩
 |pick c x y =>
  simp only[mJ]at h;split at h<;>try(cases h;done)
  ·simp only[ZlP]at h;subst h
   obtain⟨y1,y2,y3,hy,jL,dO,CE⟩:=hv.three;simp[Op.operands]at hy;obtain⟨e1,e2,e3⟩:=hy;unfold VR at jL;subst jL;exact⟨_,dO,fun w=>by simp[e1,e2,asBool]⟩
  ·simp only[ZlP]at h;subst h
   obtain⟨y1,y2,y3,hy,jL,dO,CE⟩:=hv.three;simp[Op.operands]at hy;obtain⟨e1,e2,e3⟩:=hy;unfold VR at jL;subst jL;exact⟨_,CE,fun w=>by simp[e1,e3,asBool]⟩
  ·rename_i c p u v'
   obtain⟨y1,y2,y3,hy,jL,dO,CE⟩:=hv.three;simp[Op.operands]at hy;obtain⟨e1,e2,e3⟩:=hy;unfold VR at jL;split at h<;>try(cases h;done)
   rename_i q hq;have hq:=BA hq;rw[hq]at jL;subst jL;split at h
   ·rename_i Rx
    simp only[ZlP]at h;subst h;exact⟨_,dO,fun w=>by simp[e1,e2,asBool,Rx]⟩
   ·rename_i Rx
    simp only[ZlP]at h;subst h;exact⟨_,CE,fun w=>by simp[e1,e3,asBool,Rx]⟩
 |build t parts =>
  obtain⟨u,hu,hr⟩:=Zky (ρ:=ρ) (_x:=.const undef) h hv (f:=a.eval) (by simp[Op.operands]);exact⟨u,hu,fun w=>by simp[hr w]⟩
 |nilCheck x =>
  simp only[mJ]at h;split at h<;>try(cases h;done)
  ·simp only[ZlP]at h;subst h
   obtain⟨y,hy,hr⟩:=hv.one;simp[Op.operands]at hy;obtain⟨b,s,_,rfl⟩:=hr.zx;exact⟨_,hr,fun w=>by simp[hy]⟩
  ·simp only[ZlP]at h;subst h
   obtain⟨y,hy,hr⟩:=hv.one;simp[Op.operands]at hy;have nS:=hr;unfold VR at nS;obtain⟨_,_,rfl,_⟩:=nS;exact⟨_,hr,fun w=>by simp[hy]⟩
 |binOp op t x y yt =>
  simp only[mJ]at h;split at h<;>try(cases h;done)
  obtain⟨y1,y2,hy,jL,dO⟩:=hv.two;simp[Op.operands]at hy;obtain⟨e1,e2⟩:=hy;obtain⟨u,hu,hr⟩:=ZiV h jL dO x y;refine⟨u,hu,fun w => ?_⟩;have:=hr w;simp only[e1,e2];simp only[Zxy]at this ⊢;rw[this];simp
 |unOp op t x =>
  simp only[mJ]at h;split at h<;>try(cases h;done)
  obtain⟨y,hy,hr⟩:=hv.one;simp[Op.operands]at hy;obtain⟨u,hu,nS⟩:=Zp4 (P:=P) h hr;exact⟨u,hu,fun w=>by simp[hy,nS w]⟩
 |convert src dst x =>
  simp only[mJ]at h;split at h<;>try(cases h;done)
  rotate_left
  ·split at h<;>try(cases h;done)
   rename_i d WO;split at h<;>try(cases h;done)
   rename_i k hu;simp only[ZlP]at h;subst h;obtain⟨y,hy,hr⟩:=hv.one;simp[Op.operands]at hy;unfold VR at hr;subst hr;rename_i kk e _ _;refine⟨.int k (k.wrap (e.ev au.σ)),by unfold VR;rfl,fun w => ?_⟩;have:(convert src dst (.int kk (e.ev au.σ))).run P w = .ok (.int k (k.wrap (e.ev au.σ))) w:=by
    unfold convert;rw[Zxy,run_underlying WO w,Zxs,Zxy,run_underlying hu w,Zxs];cases d<;>rfl
   simp[hy,this]
  split at h<;>try(cases h;done)
  rename_i d WO;split at h<;>try(cases h;done)
  rename_i k hu;simp only[ZlP]at h;subst h;obtain⟨y,hy,hr⟩:=hv.one;simp[Op.operands]at hy;have hr:=hr.BD;subst hr;rename_i kk n _ _;refine⟨.int k (k.wrap n),by unfold VR;rfl,fun w => ?_⟩;have:(convert src dst (.int kk n)).run P w = .ok (.int k (k.wrap n)) w:=by
   unfold convert;rw[Zxy,run_underlying WO w,Zxs,Zxy,run_underlying hu w,Zxs];cases d<;>rfl
  simp[hy,this]
 |makeFunc fn first captured =>
  simp only[mJ,ZlP]at h;subst h;refine⟨.func fn (first.map a.eval) (captured.map a.eval),?_,fun w=>by simp[Instr.makeFunc]⟩;unfold VR;simp only[Op.operands,Array.toList_append,List.map_append]at hv;refine⟨_,_,rfl,?_,?_⟩
  ·have:=hv.take first.size
   rw[List.take_left' (by simp)]at this;simpa using this
  ·have:=hv.drop first.size
   rw[List.drop_left' (by simp)]at this;simpa using this
 |slice t x lo hi mx =>
  simp only[mJ]at h;split at h<;>try(cases h;done)
  rename_i e hu
  have fin:∀ {x' v':AV} {al ah am:Option AV},CY P e x' al ah am=some v'→VR ρ x' (a.eval x)→F7 ρ al (lo.map a.eval)→F7 ρ ah (hi.map a.eval)→F7 ρ am (mx.map a.eval) →
   ∃ y,VR ρ v' y∧∀ w,((do pure (.value (← Instr.sliceAt t (a.eval x) (lo.map a.eval) (hi.map a.eval) (mx.map a.eval))):Sem Next)).run P w = .ok (.value y) w:=by
   intro x' v' al ah am h1 h2 h3 h4 h5;obtain⟨y,hy,hr⟩:=Zk5 hu h1 h2 h3 h4 h5;exact⟨y,hy,fun w=>by simp[hr w]⟩
  split at h
  ·obtain⟨y,hy,hr⟩:=hv.one
   simp[Op.operands]at hy;subst hy;exact fin h hr rfl rfl rfl
  ·obtain⟨y,y2,hy,hr,dO⟩:=hv.two
   simp[Op.operands]at hy;obtain⟨rfl,rfl⟩:=hy;exact fin h hr ⟨_,rfl,dO⟩ rfl rfl
  ·obtain⟨y,y2,hy,hr,dO⟩:=hv.two
   simp[Op.operands]at hy;obtain⟨rfl,rfl⟩:=hy;exact fin h hr rfl ⟨_,rfl,dO⟩ rfl
  ·obtain⟨y,y2,y3,hy,hr,dO,CE⟩:=hv.three
   simp[Op.operands]at hy;obtain⟨rfl,rfl,rfl⟩:=hy;exact fin h hr ⟨_,rfl,dO⟩ ⟨_,rfl,CE⟩ rfl
  ·obtain⟨y,y2,y3,hy,hr,dO,CE⟩:=hv.three
   simp[Op.operands]at hy;obtain⟨rfl,rfl,rfl⟩:=hy;exact fin h hr rfl ⟨_,rfl,dO⟩ ⟨_,rfl,CE⟩
  ·obtain⟨y,y2,y3,y4,hy,hr,dO,CE,hr4⟩:=hv.four
   simp[Op.operands]at hy;obtain⟨rfl,rfl,rfl,rfl⟩:=hy;exact fin h hr ⟨_,rfl,dO⟩ ⟨_,rfl,CE⟩ ⟨_,rfl,hr4⟩
  ·cases h
 |fieldAddr s x f =>
  simp only[mJ]at h;split at h<;>try(cases h;done)
  ·split at h<;>try(cases h;done)
   rename_i n off _ fs hu;split at h<;>try(cases h;done)
   rename_i fd Np;split at h<;>try(cases h;done)
   rename_i sz dn;simp only[ZlP]at h;subst h;obtain⟨y,hy,hr⟩:=hv.one;simp[Op.operands]at hy;obtain⟨b,s,hb,rfl⟩:=hr.zx;refine⟨.pointer (some ⟨b,off+fd.offset,none⟩),by unfold VR;exact⟨b,s,hb,rfl⟩,fun w => ?_⟩;simp[Instr.fieldAt,run_underlying hu w,Np,hy,Instr.sureAddr,fieldPlace,oD dn w,Addr.add_mid]
  ·split at h<;>try(cases h;done)
   rename_i n ie z j _ fs hu;split at h<;>try(cases h;done)
   rename_i fd Np;split at h<;>try(cases h;done)
   rename_i sz dn;simp only[ZlP]at h;subst h;obtain⟨y,hy,hr⟩:=hv.one;simp[Op.operands]at hy;unfold VR at hr;obtain⟨b,s,hb,rfl⟩:=hr;refine⟨.pointer (some ⟨b,(ie.ev au.σ).toNat * z+(j+fd.offset),none⟩),by unfold VR;exact⟨b,s,hb,rfl⟩,fun w => ?_⟩;simp[Instr.fieldAt,run_underlying hu w,Np,hy,Instr.sureAddr,fieldPlace,oD dn w,Addr.add_mid,Nat.add_assoc]
 |field t x f =>
  simp only[mJ]at h;split at h<;>try(cases h;done)
  split at h<;>try(cases h;done)
  rename_i cs _ fs hu;split at h<;>try(cases h;done)
  rename_i fd Np;obtain⟨y,hy,hr⟩:=hv.one;simp[Op.operands]at hy;obtain⟨ar,rfl,hc⟩:=hr.ZP;obtain⟨u,AL,nS⟩:=O6 h hc;exact⟨u,AL,fun w=>by simp[Instr.field,run_underlying hu w,Np,hy,asAgg,nS w]⟩
 |indexAddr t x i =>
  simp only[mJ]at h;split at h<;>try(cases h;done)
  ·rename_i n off len sz r k j
   split at h<;>try(cases h;done)
   rename_i e hu;split at h<;>try(cases h;done)
   rename_i q hq;obtain⟨rfl,aK⟩:=Ez hq;split at h<;>try(cases h;done)
   rename_i s hs;split at h<;>try(cases h;done)
   rename_i dn;have dn:=Zxq dn;subst dn;simp only[ZlP]at h;subst h;obtain⟨y,y2,hy,hr,dO⟩:=hv.two;simp[Op.operands]at hy;obtain⟨e1,e2⟩:=hy;have dO:=dO.BD;subst dO;unfold VR at hr;obtain⟨b,s0,c,hb,rfl,_⟩:=hr;refine⟨.pointer (some ⟨b,off+q * s,none⟩),by unfold VR;exact⟨b,s0,hb,rfl⟩,fun w => ?_⟩;have h0:(0:Int)≤q∧(q:Int)<len:=(by omega);simp[Instr.indexAt,asIntOf,run_underlying hu w,e1,e2,aK,oD hs w,Addr.add_mid]
  ·rename_i n off k j
   split at h<;>try(cases h;done)
   rename_i len e hu;split at h<;>try(cases h;done)
   rename_i q hq;obtain⟨rfl,aK⟩:=Ez hq;split at h<;>try(cases h;done)
   rename_i s hs;simp only[ZlP]at h;subst h;obtain⟨y,y2,hy,hr,dO⟩:=hv.two;simp[Op.operands]at hy;obtain⟨e1,e2⟩:=hy;have dO:=dO.BD;subst dO;obtain⟨b,s0,hb,rfl⟩:=hr.zx;refine⟨.pointer (some ⟨b,off+q * s,none⟩),by unfold VR;exact⟨b,s0,hb,rfl⟩,fun w => ?_⟩;simp[Instr.indexAt,asIntOf,run_underlying hu w,e1,e2,aK,oD hs w,Addr.add_mid,Instr.sureAddr]
  ·rename_i b off k j
   split at h<;>try(cases h;done)
   rename_i len e hu;split at h<;>try(cases h;done)
   rename_i q hq;obtain⟨rfl,aK⟩:=Ez hq;split at h<;>try(cases h;done)
   rename_i s hs;simp only[ZlP]at h;subst h;obtain⟨y,y2,hy,hr,dO⟩:=hv.two;simp[Op.operands]at hy;obtain⟨e1,e2⟩:=hy;have dO:=dO.BD;subst dO;unfold VR at hr;subst hr;refine⟨.pointer (some ⟨b,off+q * s,none⟩),by unfold VR;rfl,fun w => ?_⟩;simp[Instr.indexAt,asIntOf,run_underlying hu w,e1,e2,aK,oD hs w,Addr.add_mid,Instr.sureAddr]
  ·rename_i n off len z k j
   split at h<;>try(cases h;done)
   rename_i e hu;split at h<;>try(cases h;done)
   rename_i q hq;obtain⟨rfl,aK⟩:=Ez hq;split at h<;>try(cases h;done)
   rename_i s hs;split at h<;>try(cases h;done)
   rename_i dn;have dn:=Zxq dn;subst dn;simp only[ZlP]at h;subst h;obtain⟨y,y2,hy,hr,dO⟩:=hv.two;simp[Op.operands]at hy;obtain⟨e1,e2⟩:=hy;have dO:=dO.BD;subst dO;unfold VR at hr;obtain⟨b,s0,c,hb,rfl,oQ,qK,h0,h4⟩:=hr;have nQ:(JE off q).ev au.σ=off.ev au.σ+q:=Zm h0 (by omega);refine⟨.pointer (some ⟨b,(off.ev au.σ).toNat * s+q * s,none⟩),?_,fun w => ?_⟩
   ·unfold VR
    refine⟨b,s0,hb,?_⟩;rw[nQ]
    congr 3
    rw[← Nat.add_mul,Nat.add_zero]
    congr 1
    omega
   ·simp[Instr.indexAt,asIntOf,run_underlying hu w,e1,e2,aK,oD hs w,Addr.add_mid]
  ·rename_i n off len sz r k se
   split at h
   ·obtain⟨y,y2,hy,hr,dO⟩:=hv.two
    simp[Op.operands]at hy;obtain⟨e1,e2⟩:=hy;unfold VR at dO;subst dO;obtain⟨p,hp,aO⟩:=Sg (k:=k) h hr;exact⟨p,hp,fun w=>by simp[e1,e2,aO w]⟩
   ·rename_i j nN
    have nN:=TL nN;split at h<;>try(cases h;done)
    rename_i e hu;split at h<;>try(cases h;done)
    rename_i q hq;obtain⟨rfl,aK⟩:=Ez hq;split at h<;>try(cases h;done)
    rename_i s hs;split at h<;>try(cases h;done)
    rename_i dn;have dn:=Zxq dn;subst dn;simp only[ZlP]at h;subst h;obtain⟨y,y2,hy,hr,dO⟩:=hv.two;simp[Op.operands]at hy;obtain⟨e1,e2⟩:=hy;unfold VR at dO;rw[nN]at dO;subst dO;unfold VR at hr;obtain⟨b,s0,c,hb,rfl,_⟩:=hr;refine⟨.pointer (some ⟨b,off+q * s,none⟩),by unfold VR;exact⟨b,s0,hb,rfl⟩,fun w => ?_⟩;have h0:(0:Int)≤q∧(q:Int)<len:=(by omega);simp[Instr.indexAt,asIntOf,run_underlying hu w,e1,e2,aK,oD hs w,Addr.add_mid]
  ·rename_i n off k se
   split at h
   ·obtain⟨y,y2,hy,hr,dO⟩:=hv.two
    simp[Op.operands]at hy;obtain⟨e1,e2⟩:=hy;unfold VR at dO;subst dO;obtain⟨p,hp,aO⟩:=Sg (k:=k) h hr;exact⟨p,hp,fun w=>by simp[e1,e2,aO w]⟩
   ·rename_i j nN
    have nN:=TL nN;split at h<;>try(cases h;done)
    rename_i len e hu;split at h<;>try(cases h;done)
    rename_i q hq;obtain⟨rfl,aK⟩:=Ez hq;split at h<;>try(cases h;done)
    rename_i s hs;simp only[ZlP]at h;subst h;obtain⟨y,y2,hy,hr,dO⟩:=hv.two;simp[Op.operands]at hy;obtain⟨e1,e2⟩:=hy;unfold VR at dO;rw[nN]at dO;subst dO;obtain⟨b,s0,hb,rfl⟩:=hr.zx;refine⟨.pointer (some ⟨b,off+q * s,none⟩),by unfold VR;exact⟨b,s0,hb,rfl⟩,fun w => ?_⟩;simp[Instr.indexAt,asIntOf,run_underlying hu w,e1,e2,aK,oD hs w,Addr.add_mid,Instr.sureAddr]
  ·rename_i b off k se
   split at h<;>try(cases h;done)
   rename_i j nN;have nN:=TL nN;split at h<;>try(cases h;done)
   rename_i len e hu;split at h<;>try(cases h;done)
   rename_i q hq;obtain⟨rfl,aK⟩:=Ez hq;split at h<;>try(cases h;done)
   rename_i s hs;simp only[ZlP]at h;subst h;obtain⟨y,y2,hy,hr,dO⟩:=hv.two;simp[Op.operands]at hy;obtain⟨e1,e2⟩:=hy;unfold VR at dO;rw[nN]at dO;subst dO;unfold VR at hr;subst hr;refine⟨.pointer (some ⟨b,off+q * s,none⟩),by unfold VR;rfl,fun w => ?_⟩;simp[Instr.indexAt,asIntOf,run_underlying hu w,e1,e2,aK,oD hs w,Addr.add_mid,Instr.sureAddr]
  ·rename_i ux uy _ _ _ _ _ _ _
   split at h<;>try(cases h;done)
   rename_i k ie Ol;obtain⟨y,y2,hy,hr,dO⟩:=hv.two;simp[Op.operands]at hy;obtain⟨e1,e2⟩:=hy;have dO:=Bw Ol dO;subst dO;obtain⟨p,hp,aO⟩:=Sg (k:=k) h hr;exact⟨p,hp,fun w=>by simp[e1,e2,aO w]⟩
 |index t x i =>
  simp only[mJ]at h;split at h<;>try(cases h;done)
  rename_i cs k j;split at h<;>try(cases h;done)
  rename_i len e hu;unfold ZR at h;split at h<;>try(cases h;done)
  rename_i q hq;obtain⟨rfl,aK⟩:=Ez hq;split at h<;>try(cases h;done)
  rename_i s hs;obtain⟨y,y2,hy,hr,dO⟩:=hv.two;simp[Op.operands]at hy;obtain⟨e1,e2⟩:=hy;have dO:=dO.BD;subst dO;obtain⟨ar,rfl,hc⟩:=hr.ZP;obtain⟨u,AL,nS⟩:=O6 h hc;refine⟨u,AL,fun w => ?_⟩;have Og:=nS w;have hm:Nat.mul q s=q * s:=rfl;rw[hm]at Og;simp[Instr.index,asIntOf,run_underlying hu w,e1,e2,aK,oD hs w,Og]
 |extract t i =>
  simp only[mJ]at h;split at h<;>try(cases h;done)
  obtain⟨y,hy,hr⟩:=hv.one;simp[Op.operands]at hy;unfold VR at hr;obtain⟨ar,rfl,hc⟩:=hr;obtain⟨u,hu,nS⟩:=hc.get h;rw[Array.getElem?_toList]at hu;exact⟨u,nS,fun w=>by simp[Instr.extract,hy,hu]⟩
 |makeInterface t x =>
  simp only[mJ]at h;split at h<;>try(cases h;done)
  split at h<;>try(cases h;done)
  rename_i v d hd hu;simp only[ZlP]at h;subst h;obtain⟨y,hy,hr⟩:=hv.one;simp[Op.operands]at hy;refine⟨.iface t y,by unfold VR;exact⟨y,rfl,hr⟩,fun w => ?_⟩;have:(Instr.makeInterface t y).run P w = .ok (.iface t y) w:=by
   unfold Instr.makeInterface;rw[Zxy,run_underlying hu w];simp only[Zxs]
   first
    |rfl
    |(split
      ·exact absurd rfl (hd _)
      ·rfl)
  simp[hy,this]
 |typeAssert x xt t ok =>
  simp only[mJ]at h;split at h<;>try(cases h;done)
  split at h<;>try(cases h;done)
  rename_i t' v _ d hd hu;obtain⟨y,hy,hr⟩:=hv.one;simp[Op.operands]at hy;unfold VR at hr;obtain⟨u,rfl,hr⟩:=hr;have go : ∀ (w : World), (Instr.typeAssert (.iface t' u) xt t ok).run P w = (if t' = t then (Sem.run P (pure (if ok then Value.tuple #[u, .bool true] else u)) w) else (Sem.run P (do if ok then pure (.tuple #[← zeroValue t, .bool false]) else runtimePanic (.typeAssertion (some xt) (some t') t "")) w)) := by
   intro w;unfold Instr.typeAssert;rw[Zxy,run_underlying hu w];simp only[Zxs];cases d with
   |interface m=>exact absurd rfl (hd m)
   |_ =>
    by_cases he:t'=t
    ·simp[he]
    ·simp[he]
  split at h
  ·rename_i hb
   have dP:t'=t:=Zxq hb;split at h<;>(simp only[ZlP]at h;subst h)
   ·refine⟨.tuple #[u,.bool true],by unfold VR;exact⟨_,rfl,aH.cons hr (aH.cons (by unfold VR;rfl) aH.nil)⟩,fun w => ?_⟩
    have:=go w;rw[if_pos dP]at this;simp[hy,this]
   ·refine⟨u,hr,fun w => ?_⟩
    have:=go w;rw[if_pos dP]at this;simp[hy,this]
  ·rename_i hb
   have dP:¬ t'=t:=Nat.ne_of_beq_eq_false hb;split at h<;>try(cases h;done)
   split at h<;>try(cases h;done)
   rename_i z hz;simp only[ZlP]at h;subst h;obtain⟨_,zv,_,_,j3,sH⟩:=EG hz;have Bb:=Bu ρ j3;refine⟨.tuple #[zv,.bool false],by unfold VR;exact⟨_,rfl,aH.cons Bb (aH.cons (by unfold VR;rfl) aH.nil)⟩,fun w => ?_⟩;have:=go w;rw[if_neg dP]at this;simp[hy,this,sH w]
 |call c =>
  simp only[mJ]at h;obtain⟨callee,args,argTypes⟩:=c;cases callee with
  |builtin b =>
   have dX:(Op.call ⟨.builtin b,args,argTypes⟩).operands=args:=(by simp[Op.operands,Call.operands]);rw[dX]at hv
   cases b<;>first
    |(cases h;done)
    |skip
   ·dsimp only at h
    split at h<;>try(cases h;done)
    obtain⟨y,ys,hy,h1,h2⟩:=hv.nA;obtain⟨u,hu,hr⟩:=Sy (P:=P) true h h1 h2;refine⟨u,hu,fun w => ?_⟩;have:=hr w;simp only[if_true]at this;have this:(List.foldlM Builtin.max2 y ys:Sem Value).run P w = .ok u w:=this;simp only[resolve,invoke,builtin,Zxy,ZxM,Zxs,Builtin.max_,Array.toList_map,hy];rw[this];rfl
   ·dsimp only at h
    split at h<;>try(cases h;done)
    obtain⟨y,ys,hy,h1,h2⟩:=hv.nA;obtain⟨u,hu,hr⟩:=Sy (P:=P) false h h1 h2;refine⟨u,hu,fun w => ?_⟩;have:=hr w;simp only[Bool.false_eq_true,if_false]at this;have this:(List.foldlM Builtin.min2 y ys:Sem Value).run P w = .ok u w:=this;simp only[resolve,invoke,builtin,Zxy,ZxM,Zxs,Builtin.min_,Array.toList_map,hy];rw[this];rfl
  |_=>cases h
 |_=>simp[mJ]at h
end
end Ex
end Go.Proofs.YtfcpdlbkmkhhcaaGreatDoor
