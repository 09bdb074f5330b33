/-
  Texts of this claim, joined. No condition.
-/
import Derived.Test.YtfcpdlbkmkhhcaaGreatDoorCn11
import Derived.Test.YtfcpdlbkmkhhcaaGreatDoorCn12
namespace Go.Proofs.YtfcpdlbkmkhhcaaGreatDoor.Ex
open Go
section
variable {P:Program}{gs:List (Nat×List Int)}{σ:Nat→Int}{ω:Nat→Nat→Nat→Obj}
def Zt7 (P:Program)(gs:List (Nat×List Int))(σ:Nat→Int)(ω:Nat→Nat→Nat→Obj)(kn:List Kn):Prop :=
 ∀ (fs:List (Cnd×Bool)) (hfs:∀ f∈fs,f.1.ev σ=f.2),@Ztk { facts:=fs,globs:=gs,σ:=σ,ω:=ω,ok:=hfs } P kn
end
end Go.Proofs.YtfcpdlbkmkhhcaaGreatDoor.Ex

namespace Go.Proofs.YtfcpdlbkmkhhcaaGreatDoor.Ex
open Go
theorem SE.Zhm (ns:List (Nat×Nat)):∀ e:SE,e.sub { n:=ns }=e:=by
 intro e
 induction e with
 | var i=>rfl
 | lvar i=>rfl
 | lit n=>rfl
 | bin o a b ha hb=>simp only [SE.sub,ha,hb]
 | ubin o a b ha hb=>simp only [SE.sub,ha,hb]
 | cv k a ha=>simp only [SE.sub,ha]
 | lset l e k v hl he hv=>simp only [SE.sub,hl,he,hv]
 | lsnoc l r hl hr=>simp only [SE.sub,hl,hr]
 | rnil=>rfl
 | rep n hn=>simp only [SE.sub,hn]
 | rcons v r hv hr=>simp only [SE.sub,hv,hr]
 | «at» l e j hl he=>simp only [SE.sub,hl,he]
 | len l hl=>simp only [SE.sub,hl]
theorem Cnd.Zhm (ns:List (Nat×Nat))(c:Cnd):c.sub { n:=ns }=c:=by cases c <;> simp only [Cnd.sub,SE.Zhm]
section
variable [Zac]{ρ ρ':Ren}{ns:List (Nat×Nat)}
mutual
theorem VR.ren (hρ:∀ n,ρ' n=ρ (ZdP n ns)):∀ {v:AV} {x:Value},VR ρ (v.sub { n:=ns }) x↔VR ρ' v x
 | .sym k e,x=>by unfold AV.sub VR; rw [SE.Zhm]
 | .ZdH c p,x=>by unfold AV.sub VR; rw [Cnd.Zhm]
 | .ptr n off,x=>by unfold AV.sub VR; rw [hρ]; rfl
 | .eptr n e s j,x=>by unfold AV.sub VR; rw [hρ,SE.Zhm]; rfl
 | .dsl n e s,x=>by unfold AV.sub VR; rw [hρ,SE.Zhm]; rfl
 | .ssl n e l s,x=>by unfold AV.sub VR; rw [hρ,SE.Zhm]; rfl
 | .rptr i e,x=>by unfold AV.sub VR; rw [SE.Zhm]
 | .sl n off len sz r,x=>by unfold AV.sub VR; rw [hρ]; rfl
 | .map n,x=>by unfold AV.sub VR; rw [hρ]; rfl
 | .fn f a b,x=>by
   unfold AV.sub VR
   constructor
   ·rintro ⟨p,q,h1,h2,h3⟩
    exact ⟨p,q,h1,(VRs.ren hρ).1 h2,(VRs.ren hρ).1 h3⟩
   ·rintro ⟨p,q,h1,h2,h3⟩
    exact ⟨p,q,h1,(VRs.ren hρ).2 h2,(VRs.ren hρ).2 h3⟩
 | .ifc t v,x=>by
   unfold AV.sub VR
   constructor
   ·rintro ⟨y,h1,h2⟩
    exact ⟨y,h1,(VR.ren hρ).1 h2⟩
   ·rintro ⟨y,h1,h2⟩
    exact ⟨y,h1,(VR.ren hρ).2 h2⟩
 | .agg l,x=>by
   unfold AV.sub VR
   constructor
   ·rintro ⟨y,h1,h2⟩
    exact ⟨y,h1,(VRs.ren hρ).1 h2⟩
   ·rintro ⟨y,h1,h2⟩
    exact ⟨y,h1,(VRs.ren hρ).2 h2⟩
 | .tup l,x=>by
   unfold AV.sub VR
   constructor
   ·rintro ⟨y,h1,h2⟩
    exact ⟨y,h1,(VRs.ren hρ).1 h2⟩
   ·rintro ⟨y,h1,h2⟩
    exact ⟨y,h1,(VRs.ren hρ).2 h2⟩
 | .bool _,x=>by unfold AV.sub VR; exact Iff.rfl
 | .int _ _,x=>by unfold AV.sub VR; exact Iff.rfl
 | .str _,x=>by unfold AV.sub VR; exact Iff.rfl
 | .nilp,x=>by unfold AV.sub VR; exact Iff.rfl
 | .gptr _ _,x=>by unfold AV.sub VR; exact Iff.rfl
 | .nilsl,x=>by unfold AV.sub VR; exact Iff.rfl
 | .esl _,x=>by unfold AV.sub VR; exact Iff.rfl
 | .zsl,x=>by unfold AV.sub VR; exact Iff.rfl
 | .osl e,x=>by unfold AV.sub VR; rw [SE.Zhm]
 | .rsl i,x=>by unfold AV.sub VR; exact Iff.rfl
 | .nilmap,x=>by unfold AV.sub VR; exact Iff.rfl
 | .nilfn,x=>by unfold AV.sub VR; exact Iff.rfl
 | .nilif,x=>by unfold AV.sub VR; exact Iff.rfl
theorem VRs.ren (hρ:∀ n,ρ' n=ρ (ZdP n ns)):∀ {l:List AV} {m:List Value},VRs ρ (AV.subs { n:=ns } l) m↔VRs ρ' l m
 | [],m=>by unfold AV.subs VRs; exact Iff.rfl
 | v::l,m=>by
   unfold AV.subs VRs
   constructor
   ·rintro ⟨y,ys,h1,h2,h3⟩
    exact ⟨y,ys,h1,(VR.ren hρ).1 h2,(VRs.ren hρ).1 h3⟩
   ·rintro ⟨y,ys,h1,h2,h3⟩
    exact ⟨y,ys,h1,(VR.ren hρ).2 h2,(VRs.ren hρ).2 h3⟩
end
theorem TR.ren (hρ:∀ n,ρ' n=ρ (ZdP n ns)){t:TB}{s:Nat}{x:Option Obj}:TR ρ (t.sub { n:=ns }) s x↔TR ρ' t s x:=by
 cases t with
 | cells l e =>
   constructor
   ·rintro ⟨cur,h1,h2,h3,h4⟩
    rw [AV.Zge] at h3
    refine ⟨cur,h1,h2,h3,fun i v hv => ?_⟩
    obtain ⟨h5,y,h6,h7⟩:=h4 i _ (AV.ZiE _ hv)
    rw [AV.Zoe] at h5
    exact ⟨h5,y,h6,(VR.ren hρ).1 h7⟩
   ·rintro ⟨cur,h1,h2,h3,h4⟩
    refine ⟨cur,h1,h2,by rw [AV.Zge]; exact h3,fun i v hv => ?_⟩
    have hi:i<l.length:=by
     have:=(List.getElem?_eq_some_iff.1 hv).1
     rwa [AV.Zge] at this
    have h8:=AV.ZiE { n:=ns } (List.getElem?_eq_getElem hi)
    rw [hv] at h8
    cases h8
    obtain ⟨h5,y,h6,h7⟩:=h4 i _ (List.getElem?_eq_getElem hi)
    exact ⟨by rw [AV.Zoe]; exact h5,y,h6,(VR.ren hρ).2 h7⟩
 | recs l ks e =>
   show TR ρ (.recs (l.sub { n:=ns }) ks e) s x↔_
   rw [SE.Zhm]
   exact Iff.rfl
 | opb i n m =>
   show OR ρ (.opb (ZdP i []) (ZdP n ns) (ZdP m ns)) s x↔OR ρ' (.opb i n m) s x
   simp only [OR,hρ]
   exact Iff.rfl
end
theorem TR.Zt2 [Zac]{ρ:Ren}{t:TB}{s:Nat}{x:Option Obj}:TR ρ (t.sub {}) s x↔TR ρ t s x:=TR.ren (ns:=[]) (fun _=>rfl)
def Zay:Obj→Nat
 | .cells c _ _=>c.size
 | _=>0
def Zop [Zac](ρ:Ren):List (Nat×TB)→List (Nat×Obj)→Prop
 | [],bs=>bs=[]
 | (n,t)::l,bs=>∃ b o s r,bs=(b,o)::r∧ρ n=some (b,s)∧TR ρ t s (some o)∧Zop ρ l r
theorem ZhH {θ:Sub}:∀ {l:List TB} {h:AH} {n:Nat} {o:AO},(ZdR θ l h).get n=some o→(∃ i t,l[i]?=some t∧n=h.next+i∧o=(t.sub θ).ao)∨(n<h.next+l.length→n<h.next)∧h.get n=some o
 | [],h,n,o,hg=>.inr ⟨(by simp),hg⟩
 | t::l,h,n,o,hg=>by
   unfold ZdR at hg
   have hn:((h.put h.next (some (t.sub θ).ao)).skip 1).next=h.next+1:=by cases h; rfl
   rcases ZhH hg with ⟨i,t',h1,h2,h3⟩ | ⟨h1,h2⟩
   ·rw [hn] at h2
    exact .inl ⟨i+1,t',by simpa using h1,by omega,h3⟩
   ·have h2:(h.put h.next (some (t.sub θ).ao)).get n=some o:=by cases h; exact h2
    rw [hn] at h1
    rcases ZaP h2 with ⟨h3,h4⟩ | ⟨h3,h4⟩
    ·cases h4
     exact .inl ⟨0,t,rfl,h3,rfl⟩
    ·refine .inr ⟨fun hl => ?_,h4⟩
     simp only [List.length_cons] at hl
     have:=h1 (by omega)
     omega
theorem ZgS {θ:Sub}:∀ {l:List TB} {h:AH},(ZdR θ l h).next=h.next+l.length
 | [],h=>rfl
 | t::l,h=>by
   unfold ZdR
   rw [ZgS]
   have hn:((h.put h.next (some (t.sub θ).ao)).skip 1).next=h.next+1:=by cases h; rfl
   rw [hn,List.length_cons]
   omega
theorem ZhM {θ:Sub}:∀ {l:List (Nat×TB)} {h:AH} {n:Nat} {o:AO},(ZdT θ l h).get n=some o→(∃ t,(n,t)∈l∧o=(t.sub θ).ao)∨h.get n=some o
 | [],h,n,o,hg=>.inr hg
 | (m,t)::l,h,n,o,hg=>by
   unfold ZdT at hg
   rcases ZaP hg with ⟨rfl,h2⟩ | ⟨_,h2⟩
   ·cases h2
    exact .inl ⟨t,List.mem_cons_self,rfl⟩
   ·rcases ZhM h2 with ⟨t',h3,h4⟩ | h3
    ·exact .inl ⟨t',List.mem_cons_of_mem _ h3,h4⟩
    ·exact .inr h3
theorem ZeI {θ:Sub}:∀ {l:List (Nat×TB)} {h:AH},(ZdT θ l h).next=h.next
 | [],h=>rfl
 | (m,t)::l,h=>by
   unfold ZdT
   rw [Za6,ZeI]
theorem Zgr:∀ {l:List (Nat×TB)} {h:AH} {n:Nat} {o:AO},(Zcy l h).get n=some o→h.get n=some o∧∀ t,(n,t)∉l
 | [],h,n,o,hg=>⟨hg,fun t hm=>by cases hm⟩
 | (m,t)::l,h,n,o,hg=>by
   unfold Zcy at hg
   rcases ZaP hg with ⟨_,h2⟩ | ⟨h1,h2⟩
   ·cases h2
   ·obtain ⟨h3,h4⟩:=Zgr h2
    refine ⟨h3,fun t' hm => ?_⟩
    rcases List.mem_cons.1 hm with he | hm
    ·cases he
     exact h1 rfl
    ·exact h4 t' hm
theorem ZdK:∀ {l:List (Nat×TB)} {h:AH},(Zcy l h).next=h.next
 | [],h=>rfl
 | (m,t)::l,h=>by
   unfold Zcy
   rw [Za6,ZdK]
theorem Zjv {nx:Nat}:∀ {l:List TB} {i n:Nat},ZdP n (Zfe nx i l)=n∨∃ j,j<l.length∧n=rel+(i+j)∧ZdP n (Zfe nx i l)=nx+(i+j)
 | [],i,n=>.inl rfl
 | t::l,i,n=>by
   unfold Zfe ZdP
   split
   ·rename_i hb
    have hb:=Nat.eq_of_beq_eq_true hb
    exact .inr ⟨0,by simp,hb.symm,rfl⟩
   ·rcases Zjv (nx:=nx) (l:=l) (i:=Nat.add i 1) (n:=n) with h1 | ⟨j,h1,h2,h3⟩
    ·exact .inl h1
    ·refine .inr ⟨j+1,by simp; omega,?_,?_⟩
     ·rw [h2]
      show rel+(i+1+j)=rel+(i+(j+1))
      omega
     ·rw [h3]
      show nx+(i+1+j)=nx+(i+(j+1))
      omega
theorem ZkT {nx:Nat}{l:List TB}{n:Nat}(h:n<rel):ZdP n (Zfe nx 0 l)=n:=by
 rcases Zjv (nx:=nx) (l:=l) (i:=0) (n:=n) with h1 | ⟨j,_,h2,_⟩
 ·exact h1
 ·omega
theorem Zju {nx:Nat}:∀ {l:List TB} {i j:Nat},j<l.length→ZdP (rel+(i+j)) (Zfe nx i l)=nx+(i+j)
 | [],i,j,h=>by simp at h
 | t::l,i,j,h=>by
   unfold Zfe ZdP
   split
   ·rename_i hb
    have hb:rel+i=rel+(i+j):=Nat.eq_of_beq_eq_true hb
    have:j=0:=by omega
    subst this
    rfl
   ·rename_i hb
    have hb:rel+i≠rel+(i+j):=Nat.ne_of_beq_eq_false hb
    cases j with
    | zero=>exact absurd rfl hb
    | succ j =>
      have:=Zju (nx:=nx) (l:=l) (i:=i+1) (j:=j) (by simpa using h)
      have e1:rel+(i+1+j)=rel+(i+(j+1)):=by omega
      have e2:nx+(i+1+j)=nx+(i+(j+1)):=by omega
      rw [e1,e2] at this
      exact this
theorem Zop.back [Zac]{ρ:Ren}:∀ {l:List (Nat×TB)} {bs:List (Nat×Obj)},Zop ρ l bs→∀ q∈bs,∃ p∈l,∃ s,ρ p.1=some (q.1,s)
 | [],bs,h,q,hq=>by
   have:bs=[]:=h
   subst this
   cases hq
 | (n,t)::l,bs,h,q,hq=>by
   obtain ⟨b,o,s,r,rfl,h1,h2,h3⟩:=h
   rcases List.mem_cons.1 hq with rfl | hq
   ·exact ⟨_,List.mem_cons_self,s,h1⟩
   ·obtain ⟨p,h4,h5⟩:=Zop.back h3 q hq
    exact ⟨p,List.mem_cons_of_mem _ h4,h5⟩
section
variable [Zac]{P:Program}
theorem ZqR {k:Kc}(hf:ZiQ P k.f)(hpost:∀ p∈k.post,∃ t,(p.1,t)∈k.pre)(_hpn:∀ p∈k.pre,p.1<rel)
 (hc:(∀ c∈k.conds,c.1.ev Zac.σ=c.2)→∀ (ρ:Ren) (W w:World) (m:List (Nat×Obj)) (args':Array Value) (bs:List (Nat×Obj)),∀ h:AH,HR ρ h.get h.next w→ZoH {} h k.pre=true→Zop ρ k.pre bs→VRs ρ k.args args'.toList→Own W (bs++m) w →
   Calls P k.f args' w fun e w'=>∃ x ds bs',e = .returned x∧Own W (ds++(bs'++m)) w'∧bs'.map (·.1)=bs.map (·.1)∧ds.length=k.news.length ∧
    ∀ ρ':Ren,(∀ n p,n<rel→ρ n=some p→ρ' n=some p)→(∀ (i:Nat) d,ds[i]?=some d→ρ' (rel+i)=some (d.1,Zay d.2)) →
     VR ρ' k.res x∧(∀ (i:Nat) t d,k.news[i]?=some t→ds[i]?=some d→TR ρ' t (Zay d.2) (some d.2))∧∀ p∈k.post,∃ b o s,(b,o)∈bs'∧ρ p.1=some (b,s)∧TR ρ' p.2 s (some o)):ZiS P k:=by
 intro hcs
 refine ⟨hf,fun ρ h h' w args' v hat hH hargs => ?_⟩
 unfold Kc.at at hat
 split at hat <;> first | (cases hat; done) | skip
 rename_i hfit
 split at hat <;> first | (cases hat; done) | skip
 rename_i hsm
 have hsm:h.next+k.news.length<600000:=by simpa using hsm
 simp only [Option.some.injEq,Prod.mk.injEq] at hat
 obtain ⟨rfl,rfl⟩:=hat
 obtain ⟨hfm,hinj⟩:=Zh5 hfit
 have hid:∀ n:Nat,({}:Sub).nAt n=n:=fun n=>rfl
 have mk:∀ (l:List (Nat×TB)),(∀ p∈l,p∈k.pre)→l.Nodup→∃ bs,Zop ρ l bs∧(∀ q∈bs,w.heap[q.1]?=some q.2)∧(bs.map (·.1)).Nodup:=by
  intro l
  induction l with
  | nil=>intro _ _; exact ⟨[],rfl,(by simp),by simp⟩
  | cons p l ih =>
    intro hl hnd
    obtain ⟨n,t⟩:=p
    obtain ⟨bs,h1,h2,h3⟩:=ih (fun q hq=>hl q (List.mem_cons_of_mem _ hq)) (List.nodup_cons.1 hnd).2
    obtain ⟨a,ha,haf⟩:=hfm (n,t) (hl _ List.mem_cons_self)
    rw [hid] at ha
    obtain ⟨b,s,hp,hO⟩:=hH.obj n a ha
    have hT:=TR.Zt2.1 (TB.Zey haf hO)
    cases hx:w.heap[b]? with
    | none =>
      rw [hx] at hO
      exact hO.ZdS.elim
    | some o =>
      rw [hx] at hT
      refine ⟨(b,o)::bs,⟨b,o,s,bs,rfl,hp,hT,h1⟩,fun q hq => ?_,?_⟩
      ·rcases List.mem_cons.1 hq with rfl | hq
       ·exact hx
       ·exact h2 q hq
      ·rw [List.map_cons,List.nodup_cons]
       refine ⟨fun hm => ?_,h3⟩
       obtain ⟨q,hq,hqb⟩:=List.mem_map.1 hm
       obtain ⟨p',hp',s',hps⟩:=Zop.back h1 q hq
       obtain ⟨a',ha',_⟩:=hfm p' (hl _ (List.mem_cons_of_mem _ hp'))
       rw [hid] at ha'
       rw [hqb] at hps
       have hnn:=hH.inj n p'.1 b s s' (by rw [ha]; rfl) (by rw [ha']; rfl) hp hps
       have:=hinj (n,t) (hl _ List.mem_cons_self) p' (hl _ (List.mem_cons_of_mem _ hp')) hnn
       rw [this] at hnd
       exact (List.nodup_cons.1 hnd).1 hp'
 have hnd:k.pre.Nodup:=by
  have:∀ {l:List (Nat×TB)},ZoH {} h l=true→l.Nodup:=by
   intro l
   induction l with
   | nil=>intro _; exact List.nodup_nil
   | cons p l ih =>
     intro hl
     obtain ⟨n,t⟩:=p
     unfold ZoH at hl
     split at hl <;> first | (cases hl; done) | skip
     rw [Bool.and_eq_true,Bool.and_eq_true] at hl
     refine List.nodup_cons.2 ⟨fun hm => ?_,ih hl.2.2⟩
     exact ZgV hl.2.1 _ hm rfl
  exact this hfit
 obtain ⟨bs,hF,hbs,hbn⟩:=mk k.pre (fun _ h=>h) hnd
 let W:World:={ w with heap:=#[] }
 let m:List (Nat×Obj):=((List.range w.heap.size).filter fun b => !(bs.map (·.1)).contains b).map fun b=>(b,w.heap[b]?.getD (.map #[] 0))
 have hmm:m.map (·.1)=(List.range w.heap.size).filter fun b => !(bs.map (·.1)).contains b:=by
  simp [m,List.map_map,Function.comp_def]
 have hO:Own W (bs++m) w:=by
  refine ⟨⟨rfl,rfl,rfl,Nat.zero_le _,fun b hb=>by simp [W] at hb⟩,fun p hp=>⟨Nat.zero_le _,?_⟩,?_⟩
  ·rcases List.mem_append.1 hp with hp | hp
   ·exact hbs p hp
   ·obtain ⟨b,hb,rfl⟩:=List.mem_map.1 hp
    have hlt:=List.mem_range.1 (List.mem_filter.1 hb).1
    simp [Array.getElem?_eq_getElem hlt]
  ·rw [List.map_append,List.nodup_append]
   refine ⟨hbn,by rw [hmm]; exact List.nodup_range.filter _,fun a ha b hb he => ?_⟩
   rw [hmm] at hb
   have:=(List.mem_filter.1 hb).2
   rw [← he] at this
   simp only [Bool.not_eq_true',List.contains_eq_mem,decide_eq_false_iff_not] at this
   exact this ha
 have hin:∀ b,b<w.heap.size→(∃ o,(b,o)∈bs)∨(b,w.heap[b]?.getD (.map #[] 0))∈m:=by
  intro b hb
  by_cases hc:b∈bs.map (·.1)
  ·obtain ⟨q,hq,rfl⟩:=List.mem_map.1 hc
   exact .inl ⟨q.2,hq⟩
  ·refine .inr (List.mem_map.2 ⟨b,List.mem_filter.2 ⟨List.mem_range.2 hb,?_⟩,rfl⟩)
   simp only [Bool.not_eq_true',List.contains_eq_mem,decide_eq_false_iff_not]
   exact hc
 refine (hc hcs ρ W w m args' bs h hH hfit hF hargs hO).mono ?_
 rintro e w' ⟨x,ds,bs',rfl,hO',hbb,hdl,hres⟩
 have hd:∀ (i:Nat) d,ds[i]?=some d→w'.heap[d.1]?=some d.2:=fun i d hi=>hO'.get (b:=d.1) (o:=d.2) (List.mem_append_left _ (List.mem_of_getElem? hi))
 have hb':∀ q∈bs',w'.heap[q.1]?=some q.2:=fun q hq=>hO'.get (b:=q.1) (o:=q.2) (List.mem_append_right _ (List.mem_append_left _ hq))
 have hrest:∀ b,b<w.heap.size→(∀ o,(b,o)∉bs)→w'.heap[b]?=w.heap[b]?:=by
  intro b hb hno
  rcases hin b hb with ⟨o,ho⟩ | hm
  ·exact absurd ho (hno o)
  ·rw [hO'.get (b:=b) (o:=w.heap[b]?.getD (.map #[] 0)) (List.mem_append_right _ (List.mem_append_right _ hm)),Array.getElem?_eq_getElem hb]
   rfl
 have hdnew:∀ (i:Nat) d,ds[i]?=some d→w.heap.size≤d.1:=by
  intro i d hi
  rcases Nat.lt_or_ge d.1 w.heap.size with hlt | hge
  ·exfalso
   have hnd':=hO'.nd
   rw [List.map_append,List.nodup_append] at hnd'
   have hdm:d.1∈ds.map (·.1):=List.mem_map.2 ⟨d,List.mem_of_getElem? hi,rfl⟩
   rcases hin d.1 hlt with ⟨o,ho⟩ | hm
   ·have:d.1∈bs'.map (·.1):=by rw [hbb]; exact List.mem_map.2 ⟨_,ho,rfl⟩
    exact hnd'.2.2 _ hdm _ (by rw [List.map_append]; exact List.mem_append_left _ this) rfl
   ·exact hnd'.2.2 _ hdm _ (by rw [List.map_append]; exact List.mem_append_right _ (List.mem_map.2 ⟨_,hm,rfl⟩)) rfl
  ·exact hge
 have hsize:w.heap.size≤w'.heap.size:=by
  rcases Nat.lt_or_ge w'.heap.size w.heap.size with hlt | hge
  ·exfalso
   have hpos:w.heap.size - 1<w.heap.size:=by omega
   have:∃ o,w'.heap[w.heap.size - 1]?=some o:=by
    rcases hin _ hpos with ⟨o,ho⟩ | hm
    ·have:(w.heap.size - 1)∈bs'.map (·.1):=by rw [hbb]; exact List.mem_map.2 ⟨_,ho,rfl⟩
     obtain ⟨q,hq,hqe⟩:=List.mem_map.1 this
     exact ⟨q.2,by rw [← hqe]; exact hb' q hq⟩
    ·exact ⟨_,hO'.get (b:=w.heap.size - 1) (o:=w.heap[w.heap.size - 1]?.getD (.map #[] 0)) (List.mem_append_right _ (List.mem_append_right _ hm))⟩
   obtain ⟨o,ho⟩:=this
   have:=Zcg ho
   omega
  ·exact hge
 let ρ2:Ren:=fun n=>if n<h.next then ρ n else (ds[n - h.next]?).map fun d=>(d.1,Zay d.2)
 have r1:∀ n,n<h.next→ρ2 n=ρ n:=fun n hn=>by simp [ρ2,hn]
 have r2:∀ (i:Nat) d,ds[i]?=some d→ρ2 (h.next+i)=some (d.1,Zay d.2):=fun i d hi=>by
  simp only [ρ2,if_neg (show ¬ h.next+i<h.next by omega),Nat.add_sub_cancel_left,hi,Option.map_some]
 let ns:=Zfe h.next 0 k.news
 let ρ3:Ren:=fun n=>ρ2 (ZdP n ns)
 have hρ3:∀ n,ρ3 n=ρ2 (ZdP n ns):=fun _=>rfl
 obtain ⟨hx,hnews,hposts⟩:=hres ρ3 (fun n p hn hp=>by
  rw [hρ3,ZkT hn,r1 n (hH.lt hp)]
  exact hp) (fun i d hi=>by
  have hil:i<k.news.length:=by rw [← hdl]; exact (List.getElem?_eq_some_iff.1 hi).1
  rw [hρ3]
  have:=Zju (nx:=h.next) (l:=k.news) (i:=0) (j:=i) hil
  rw [Nat.zero_add] at this
  rw [this]
  exact r2 i d hi)
 refine ⟨ρ2,x,rfl,(VR.ren hρ3).2 hx,?_⟩
 have hnext:(ZdR { n:=ns } k.news (ZdT { n:=ns } k.post (Zcy k.pre h))).next=h.next+k.news.length:=by
  rw [ZgS,ZeI,ZdK]
 have under:∀ n o,(ZdR { n:=ns } k.news (ZdT { n:=ns } k.post (Zcy k.pre h))).get n=some o →
  (∃ (i:Nat) (d:Nat×Obj) (t:TB),ds[i]?=some d∧k.news[i]?=some t∧n=h.next+i∧o=(t.sub { n:=ns }).ao)∨(∃ t,(n,t)∈k.post∧n<h.next∧o=(t.sub { n:=ns }).ao)∨(n<h.next∧h.get n=some o∧∀ t,(n,t)∉k.pre):=by
  intro n o hg
  rcases ZhH hg with ⟨i,t,h1,h2,h3⟩ | ⟨h1,h2⟩
  ·rw [ZeI,ZdK] at h2
   have hil:i<ds.length:=by rw [hdl]; exact (List.getElem?_eq_some_iff.1 h1).1
   exact .inl ⟨i,ds[i],t,List.getElem?_eq_getElem hil,h1,h2,h3⟩
  ·have hk:∀ a,h.get n=some a→n<h.next:=fun a ha=>by
    obtain ⟨b,s,hp,_⟩:=hH.obj n a ha
    exact hH.lt hp
   rcases ZhM h2 with ⟨t,h3,h4⟩ | h3
   ·obtain ⟨t0,ht0⟩:=hpost _ h3
    obtain ⟨a,ha,_⟩:=hfm _ ht0
    rw [hid] at ha
    exact .inr (.inl ⟨t,h3,hk a ha,h4⟩)
   ·obtain ⟨h4,h5⟩:=Zgr h3
    exact .inr (.inr ⟨hk o h4,h4,h5⟩)
 have hpostb:∀ n t,(n,t)∈k.post→∃ b s,ρ n=some (b,s)∧(h.get n).isSome=true∧TR ρ3 t s w'.heap[b]?:=by
  intro n t hm
  obtain ⟨b,o,s,h1,h2,h3⟩:=hposts _ hm
  obtain ⟨t0,ht0⟩:=hpost _ hm
  obtain ⟨a,ha,_⟩:=hfm _ ht0
  rw [hid] at ha
  exact ⟨b,s,h2,by rw [ha]; rfl,by rw [hb' _ h1]; exact h3⟩
 have hrestn:∀ n o,h.get n=some o→(∀ t,(n,t)∉k.pre)→∃ b s,ρ n=some (b,s)∧w'.heap[b]?=w.heap[b]?∧OR ρ o s w.heap[b]?:=by
  intro n o hg hno
  obtain ⟨b,s,hp,hO1⟩:=hH.obj n o hg
  have hlt:b<w.heap.size:=by
   rcases Nat.lt_or_ge b w.heap.size with h1 | h1
   ·exact h1
   ·rw [Array.getElem?_eq_none h1] at hO1
    exact hO1.ZdS.elim
  refine ⟨b,s,hp,hrest b hlt fun o' ho' => ?_,hO1⟩
  obtain ⟨p,hp',s',hps⟩:=Zop.back hF _ ho'
  obtain ⟨a,ha,_⟩:=hfm p hp'
  rw [hid] at ha
  have:=hH.inj n p.1 b s s' (by rw [hg]; rfl) (by rw [ha]; rfl) hp hps
  obtain ⟨pn,pt⟩:=p
  dsimp only at this
  subst this
  exact hno _ hp'
 have ext2:∀ n p,ρ n=some p→ρ2 n=some p:=fun n p hp=>by rw [r1 n (hH.lt hp)]; exact hp
 have isold:∀ n,((ZdR { n:=ns } k.news (ZdT { n:=ns } k.post (Zcy k.pre h))).get n).isSome=true→n<h.next→(h.get n).isSome=true:=by
  intro n hn hlt
  obtain ⟨o,ho⟩:=Option.isSome_iff_exists.1 hn
  rcases under n o ho with ⟨i,d,t,h1,h2,h3,h4⟩ | ⟨t,h1,h2,h3⟩ | ⟨h1,h2,h3⟩
  ·omega
  ·obtain ⟨b,s,_,h4,_⟩:=hpostb n t h1
   exact h4
  ·rw [h2]; rfl
 have newb:∀ n b s,((ZdR { n:=ns } k.news (ZdT { n:=ns } k.post (Zcy k.pre h))).get n).isSome=true→ρ2 n=some (b,s)→(h.next≤n∧∃ (i:Nat) (d:Nat×Obj),n=h.next+i∧ds[i]?=some d∧b=d.1)∨(n<h.next∧(h.get n).isSome=true∧ρ n=some (b,s)):=by
  intro n b s hn hp
  by_cases hlt:n<h.next
  ·rw [r1 n hlt] at hp
   exact .inr ⟨hlt,isold n hn hlt,hp⟩
  ·obtain ⟨o,ho⟩:=Option.isSome_iff_exists.1 hn
   rcases under n o ho with ⟨i,d,t,h1,h2,h3,h4⟩ | ⟨t,h1,h2,h3⟩ | ⟨h1,h2,h3⟩
   ·subst h3
    rw [r2 i d h1] at hp
    cases hp
    exact .inl ⟨by omega,i,d,rfl,h1,rfl⟩
   ·omega
   ·omega
 have hlive:∀ n b s,((ZdR { n:=ns } k.news (ZdT { n:=ns } k.post (Zcy k.pre h))).get n).isSome=true→ρ2 n=some (b,s)→w.heap.size≤b∨∃ m s',(h.get m).isSome=true∧ρ m=some (b,s'):=by
  intro n b s hn hp
  rcases newb n b s hn hp with ⟨_,i,d,_,h2,rfl⟩ | ⟨h1,h2,h3⟩
  ·exact .inl (hdnew i d h2)
  ·exact .inr ⟨n,s,h2,h3⟩
 have hblock:∀ b,b<w.heap.size→(∀ n s,(h.get n).isSome=true→ρ n≠some (b,s))→w'.heap[b]?=w.heap[b]?:=by
  intro b hb hl
  refine hrest b hb fun o ho => ?_
  obtain ⟨p,hp',s',hps⟩:=Zop.back hF _ ho
  obtain ⟨a,ha,_⟩:=hfm p hp'
  rw [hid] at ha
  exact hl p.1 s' (by rw [ha]; rfl) hps
 have hT:=hH.tables (w':=w') hblock hlive
 refine ⟨⟨fun n hn => ?_,fun n o ho => ?_,fun n q b s s' hn hq hp hp' => ?_,hT.1,hT.2.1,hT.2.2.1,hT.2.2.2⟩,r1,by rw [hnext]; omega,hO'.below.os,hO'.below.tape,hO'.below.output,hsize,hblock,hlive,fun n hn hs2=>isold n hs2 hn⟩
 ·rw [hnext] at hn
  show (if n<h.next then ρ n else (ds[n - h.next]?).map fun d=>(d.1,Zay d.2))=none
  rw [if_neg (by omega),List.getElem?_eq_none (by omega)]
  rfl
 ·rcases under n o ho with ⟨i,d,t,h1,h2,h3,h4⟩ | ⟨t,h1,h2,h3⟩ | ⟨h1,h2,h3⟩
  ·subst h3; subst h4
   refine ⟨d.1,Zay d.2,r2 i d h1,?_⟩
   rw [hd i d h1]
   exact ((TR.ren hρ3).2 (hnews i t d h2 h1)).or
  ·subst h3
   obtain ⟨b,s,h4,_,h5⟩:=hpostb n t h1
   exact ⟨b,s,ext2 _ _ h4,((TR.ren hρ3).2 h5).or⟩
  ·obtain ⟨b,s,h4,h5,h6⟩:=hrestn n o h2 h3
   refine ⟨b,s,ext2 _ _ h4,?_⟩
   rw [h5]
   exact h6.mono ext2
 ·rcases newb n b s hn hp with ⟨_,i,d,rfl,h2,rfl⟩ | ⟨h1,h2,h3⟩ <;> rcases newb q _ s' hq hp' with ⟨_,j,d',rfl,h5,h6⟩ | ⟨h4,h5,h6⟩
  ·have hnd':=hO'.nd
   rw [List.map_append,List.nodup_append] at hnd'
   have h7:(ds.map (·.1))[i]?=some d.1:=by simp [h2]
   have h8:(ds.map (·.1))[j]?=some d.1:=by simp [h5,h6]
   have:=(List.getElem?_inj (List.getElem?_eq_some_iff.1 h7).1 hnd'.1).1 (h7.trans h8.symm)
   omega
  ·exfalso
   obtain ⟨a,ha⟩:=Option.isSome_iff_exists.1 h5
   obtain ⟨b2,s2,hp2,hO2⟩:=hH.obj q a ha
   rw [h6] at hp2
   cases hp2
   have:=hdnew i d h2
   rw [Array.getElem?_eq_none this] at hO2
   exact hO2.ZdS
  ·exfalso
   obtain ⟨a,ha⟩:=Option.isSome_iff_exists.1 h2
   obtain ⟨b2,s2,hp2,hO2⟩:=hH.obj n a ha
   rw [h3] at hp2
   cases hp2
   have:=hdnew j d' h5
   rw [h6,Array.getElem?_eq_none this] at hO2
   exact hO2.ZdS
  ·exact hH.inj n q b s s' h2 h5 h3 h6
theorem ZsC {k:Kc}(hf:ZiQ P k.f)(hpost:∀ p∈k.post,∃ t,(p.1,t)∈k.pre)(hpn:∀ p∈k.pre,p.1<rel)
 (hc:(∀ c∈k.conds,c.1.ev Zac.σ=c.2)→∀ (ρ:Ren) (W w:World) (m:List (Nat×Obj)) (args':Array Value) (bs:List (Nat×Obj)),Zop ρ k.pre bs→VRs ρ k.args args'.toList→Own W (bs++m) w →
   Calls P k.f args' w fun e w'=>∃ x ds bs',e = .returned x∧Own W (ds++(bs'++m)) w'∧bs'.map (·.1)=bs.map (·.1)∧ds.length=k.news.length ∧
    ∀ ρ':Ren,(∀ n p,n<rel→ρ n=some p→ρ' n=some p)→(∀ (i:Nat) d,ds[i]?=some d→ρ' (rel+i)=some (d.1,Zay d.2)) →
     VR ρ' k.res x∧(∀ (i:Nat) t d,k.news[i]?=some t→ds[i]?=some d→TR ρ' t (Zay d.2) (some d.2))∧∀ p∈k.post,∃ b o s,(b,o)∈bs'∧ρ p.1=some (b,s)∧TR ρ' p.2 s (some o)):ZiS P k :=
 ZqR hf hpost hpn fun hcs ρ W w m args' bs _ _ _=>hc hcs ρ W w m args' bs
end
end Go.Proofs.YtfcpdlbkmkhhcaaGreatDoor.Ex

namespace Go.Proofs.YtfcpdlbkmkhhcaaGreatDoor.Ex
open Go
section
variable {P:Program}{gs:List (Nat×List Int)}{rks:List (Nat×CK)}{ro:Nat→Option (Option Addr×Nat×Nat)}{σ:Nat→Int}{Ω:Nat→Nat→Nat→Obj→Prop}
abbrev kgs (l:List Kc):Kg:=fun _=>l
theorem ZnB {f:FuncId}:Zrx gs rks ro P f σ Ω []:=fun fs ok c hc l hl=>by cases hl
theorem ZcZ [Zac]{k:Kc}(ha:AV.shuts k.args=true)(hv:k.res.shut=true)(hpre:k.pre=[])(hpost:k.post=[])(hnews:k.news=[])(hf:ZiQ P k.f)
 (hc:(∀ c∈k.conds,c.1.ev Zac.σ=c.2)→∀ (W w:World) (m:List (Nat×Obj)),Own W m w→Calls P k.f (Zar Zac.σ k.args).toArray w fun e w'=>e = .returned (valOf Zac.σ k.res)∧Own W m w'):ZiS P k:=by
 refine ZsC hf (by rw [hpost]; intro p hp; cases hp) (by rw [hpre]; intro p hp; cases hp) fun hcs ρ W w m args' bs hF hargs hO => ?_
 have hbs:bs=[]:=by rw [hpre] at hF; exact hF
 subst hbs
 have hargs:=VRs.shut hargs ha
 have hargs:args'=(Zar Zac.σ k.args).toArray:=by rw [← hargs]
 subst hargs
 refine (hc hcs W w m hO).mono ?_
 rintro e w' ⟨rfl,h'⟩
 refine ⟨_,[],[],rfl,h',rfl,by rw [hnews]; rfl,fun ρ' _ _=>⟨VR.Zc6 hv,fun i t d hi=>by rw [hnews] at hi; simp at hi,fun p hp=>by rw [hpost] at hp; cases hp⟩⟩
theorem ZeN (hm:P.follows .mixedOrders=true){f:FuncId}{kcs:Kg}{lns:List Ln}(hk:Zl1 gs rks ro P σ Ω kcs)(hl:Zrx gs rks ro P f σ Ω lns){n:Nat}{args:List AV}{t:Tm}{K:AV→List (Nat×TB)→Prop}{ρ:Ren}{w:World}{args':Array Value} :
 ∀ (d:CT) (fs:List (Cnd×Bool)) (ok:∀ f∈fs,f.1.ev σ=f.2),Zho P gs rks kcs lns n f args t d fs=true→Ztf σ K d →
 @HR (nums gs rks ro σ Ω fs ok) ρ t.h.get t.h.next w→@VRs (nums gs rks ro σ Ω fs ok) ρ args args'.toList →
 Calls P f args' w fun e w'=>∃ fs' ok' v post ρ' x,∃ h':AH,K v post∧e = .returned x∧@VR (nums gs rks ro σ Ω fs' ok') ρ' v x∧@Stp (nums gs rks ro σ Ω fs' ok') ρ t.h.get t.h.next w ρ' h'.get h'.next w'∧∀ p∈post,(h'.get p.1).isSome=true∧∃ b s,ρ' p.1=some (b,s)∧@TR (nums gs rks ro σ Ω fs' ok') ρ' p.2 s w'.heap[b]?
 | .is v post,fs,ok,h,hK,hH,hargs=>by
   unfold Zho at h
   letI N:Zac:=nums gs rks ro σ Ω fs ok
   split at h <;> first | (cases h; done) | skip
   rename_i fn hf
   split at h <;> first | (cases h; done) | skip
   split at h <;> first | (cases h; done) | skip
   rename_i c hb
   split at h <;> first | (cases h; done) | skip
   rename_i hle
   rw [Bool.and_eq_true] at hle
   have hle:=Nat.le_of_ble_eq_true hle.1
   have hnt:ZtB P f=fn.ntmps:=by unfold ZtB; rw [hf]
   have hbody:ZmW P f=c:=by unfold ZmW; rw [hf]; dsimp only; rw [hb]
   have hal:args.length=args'.size:=by simpa using VRs.len hargs
   have hE:ER ρ (Zh3 0 args .e) fn.ntmps { tmps:=args'++Array.replicate (fn.ntmps - args'.size) undef,defers:=[] }:=by
    refine ⟨rfl,by simp; omega,fun t v hv => ?_⟩
    rcases ZeZ hv with ⟨_,h1⟩ | h1
    ·rw [Nat.sub_zero] at h1
     obtain ⟨x,hx,hr⟩:=VRs.get hargs h1
     refine ⟨x,?_,hr⟩
     have hlt:=(List.getElem?_eq_some_iff.1 hx).1
     rw [Array.getElem?_append_left (by simpa using hlt)]
     simpa using hx
    ·rw [T.Zed] at h1; cases h1
   split at h <;> first | (cases h; done) | skip
   rename_i x env' h1 hno hx
   split at h <;> first | (cases h; done) | skip
   rename_i vs hvs
   rw [Bool.and_eq_true] at h
   refine calls_of_wp hf hb (wp_mono (Zbs (L:=ZaW c) hm (Zgo hm (fun _=>hk fs ok) n) (fun d hd l hl' hkey=>by
    have:=hl fs ok d (by rw [hbody]; exact hd) l hl' hkey
    rw [hnt] at this
    exact this) c _ _ _ _ _ (fun _ h=>h) hx ρ w _ hE hH) ?_)
   rintro e a1 w1 ⟨rfl,ρ1,hst,hE1⟩
   obtain ⟨y,hy,hrun⟩:=Zdw (fn:=fn) hst.hr hE1 hvs
   have hpost:∀ p∈post,(h1.get p.1).isSome=true∧∃ b s,ρ1 p.1=some (b,s)∧TR ρ1 p.2 s w1.heap[b]?:=fun p hp=>by
    obtain ⟨a,ha,haf⟩:=(Zh5 h.2).1 p hp
    have hid:({}:Sub).nAt p.1=p.1:=rfl
    rw [hid] at ha
    obtain ⟨b,s,hbs,hO⟩:=hst.hr.obj _ _ ha
    exact ⟨by rw [ha]; rfl,b,s,hbs,TR.Zt2.1 (TB.Zey haf hO)⟩
   cases x with
   | exit id=>exact absurd rfl (hno id)
   | normal=>exact ⟨hE1.dz,y,hrun,fs,ok,v,post,ρ1,y,h1,hK,rfl,AV.Zey h.1 hy,hst,hpost⟩
   | ret=>exact ⟨hE1.dz,y,hrun,fs,ok,v,post,ρ1,y,h1,hK,rfl,AV.Zey h.1 hy,hst,hpost⟩
 | .bad,_,_,_,hK,_,_=>hK.elim
 | .node q d e,fs,ok,h,hK,hH,hargs=>by
   unfold Zho at h
   split at h <;> first | (cases h; done) | skip
   rename_i h1
   cases hq:q.ev σ with
   | true=>exact ZeN hm hk hl d ((q,true)::fs) (Zm3 ok hq) h1 (hK.1 hq) (HR.fac hH) (VRs.fac hargs)
   | false=>exact ZeN hm hk hl e ((q,false)::fs) (Zm3 ok hq) h (hK.2 hq) (HR.fac hH) (VRs.fac hargs)
end
def sg (v:Nat→Int)(l:Nat→List (List Int))(n:Nat):Int :=
 if n<2048 then v n else if n<4096 then ((l (n - 2048)).length:Int) else (((l ((n - 4096) % 64))[(n - 4096) / 64 / 64]?).getD [])[(n - 4096) / 64 % 64]?.getD 0
theorem Zuf {v:Nat→Int}{l:Nat→List (List Int)}{i:Nat}(h:i<2048):sg v l i=v i:=by simp [sg,h]
theorem ZtJ {v:Nat→Int}{l:Nat→List (List Int)}{i:Nat}(h:i<64):sg v l (ln i)=((l i).length:Int):=by
 unfold sg ln
 rw [if_neg (by omega),if_pos (by omega),Nat.add_sub_cancel_left]
theorem ZtI {v:Nat→Int}{l:Nat→List (List Int)}{i e j:Nat}(hi:i<64)(hj:j<64):sg v l (lc i e j)=(((l i)[e]?).getD [])[j]?.getD 0:=by
 unfold sg lc
 rw [if_neg (by omega),if_neg (by omega),Nat.add_sub_cancel_left]
 have h1:((e * 64+j) * 64+i) % 64=i:=by omega
 have h2:((e * 64+j) * 64+i) / 64=e * 64+j:=by omega
 have h3:(e * 64+j) / 64=e:=by omega
 have h4:(e * 64+j) % 64=j:=by omega
 rw [h1,h2,h3,h4]
end Go.Proofs.YtfcpdlbkmkhhcaaGreatDoor.Ex
