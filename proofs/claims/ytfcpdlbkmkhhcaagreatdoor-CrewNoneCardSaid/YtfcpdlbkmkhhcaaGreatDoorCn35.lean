/-
  Texts of this claim, joined. No condition.
-/
import Derived.Test.YtfcpdlbkmkhhcaaGreatDoorCn31
import Derived.Test.YtfcpdlbkmkhhcaaGreatDoorCn32
import Derived.Test.YtfcpdlbkmkhhcaaGreatDoorCn33
import Derived.Test.YtfcpdlbkmkhhcaaGreatDoorCn34
namespace Go.Proofs.YtfcpdlbkmkhhcaaGreatDoor.Cv
open See Cw
section
variable {c:Ch}{mn cp:Nat}{st st1 st':St}{g g':List Nat}{k:Nat}{t t':Tk}
theorem Zsz (l r:List Nat):fw (l++r)=if l=[] then fw r else fw l:=by
 cases l with
 | nil=>rfl
 | cons a l=>rfl
theorem p87 (X:Cx c mn cp st g k t)(hpc:t.pc=87):∃ t' g' st',Res c mn cp st g k t t' g' st':=by
 have hA:=X.at_
 unfold At at hA
 rw [hpc] at hA
 have hcpu:=X.cpu
 have hw0:=X.w0 (by omega) (by omega)
 have hC:=X.C
 have hS:=X.S
 have hO:=X.O
 have G:=X.I.G
 obtain ⟨l,ch,h1,h2,h3,h5,h6,h7,h8,h9,h12,h10,iu,f,hK,hiu,rfl,h11⟩:=hA
 have hobl : -1≤t.obj∧t.obj<c.O:=by
  rw [h6]
  exact ⟨Zez (by omega),ZeA G (x:=.ZaB k) (s:=sn t) rfl hO.1 (fun o ho=>by rw [h1.at_]; exact ho)⟩
 obtain ⟨F',hF'⟩:∃ F',F'=if t.obj<0 then t.F else (t.obj+1).toNat:=⟨_,rfl⟩
 obtain ⟨K',hK'⟩:∃ K',K'=Zat (iu - l.length) c.O false true:=⟨_,rfl⟩
 obtain ⟨P,hP⟩:∃ P:Int,P=if t.obj<0∧t.F=0 then 94 else if iu - l.length=0 then 88 else 90:=⟨_,rfl⟩
 have hmn:t.many.toNat=l.length:=by omega
 have hs:Zba c mn cp g t=if fr st (sn t)=t.F∧ct c st (sn t)=t.K then some ({ t with K:=K',F:=F',pc:=P },(g.set (ZbU c (sn t)) F').set (ZbU c (sn t)+1) K') else some ({ t with pc:=84 },g):=by
  rw [Zbb (by omega)]
  unfold Zaf
  rw [hpc]
  refine (Zai h2).trans ?_
  have hk:=Zbd (iu:=iu) (ob:=c.O) (f:=true) (x:=fun iu ob fz=>need (fz=true∧0≤t.many∧t.many≤iu ∧ -1≤t.obj∧t.obj<c.O∧t.F≤c.O)
   (Zf3 g (ZbU c (sn t)) t.F t.K (if t.obj<0 then t.F else (t.obj+1).toNat) (Zat (iu - t.many.toNat) ob false true)
     { t with K:=Zat (iu - t.many.toNat) ob false true,F:=if t.obj<0 then t.F else (t.obj+1).toNat,pc:=if t.obj<0∧t.F=0 then 94 else if iu - t.many.toNat=0 then 88 else 90 } { t with pc:=84 })) hiu hO.1 hO.2
  rw [← hK] at hk
  refine hk.trans ((Zag ⟨rfl,by omega,by omega,hobl.1,hobl.2,h10⟩).trans ?_)
  rw [hmn,← hF',← hK',← hP]
  exact Zcv (X.rfr (Zau h2)) (X.rct (Zau h2))
 have hmine:=h1.own G
 have hb:base c st t=31+cont c st t.back t.cpu:=by
  unfold base
  rw [hpc]
  rfl
 by_cases hc:fr st (sn t)=t.F∧ct c st (sn t)=t.K
 ·rw [if_pos hc] at hs
  obtain ⟨e1,e2⟩:=Zrv X h3.1 hK hiu hc.2
  obtain ⟨FL,hFL⟩:∃ FL,FL=st.ol (sn t) .first:=⟨_,rfl⟩
  have hfw:fw FL=t.F:=by
   rw [← hc.1,hFL]
   rfl
  have hM:MvO c st (sn t) (.ZaB k) .first l []:=MvO.of G rfl (fun e=>by cases e) (by rw [h1.at_,List.append_nil]) (fun e=>by cases e) (fun _ e=>by cases e) (fun _=>by
   rw [← hFL,← ZpH,hfw]
   exact h7) (fun e=>by rw [hmine] at e; cases e) (fun _ _ e=>by cases e) (fun x e=>h3.1) (fun _ e=>by rw [hmine] at e; cases e)
  obtain ⟨s1,hs1⟩:∃ s1,s1=mvO st (sn t) (.ZaB k) .first l []:=⟨_,rfl⟩
  have G1:Zbc c mn cp s1:=by rw [hs1]; exact ZbB G hM
  have hmine1:s1.own (sn t) = .mine k:=by rw [hs1]; exact hmine
  obtain ⟨s2,hs2⟩:∃ s2,s2=Zbr s1 (sn t) true false:=⟨_,rfl⟩
  have G2:Zbc c mn cp s2:=by rw [hs2]; exact Zc9 G1 hmine1 (fun e=>by cases e)
  have R1:∀ j,j≠k→ZaO c j none none st s1:=fun j hj=>by rw [hs1]; exact ZbC (k:=k) hj (fun _ e=>by cases e; rfl) (fun _ e=>by cases e) (fun x e=>by rcases e with e | e <;> cases e) (fun e=>by cases e) (fun e=>by cases e) (fun _ _ _=>.inr (.inl hmine))
  have R2:∀ j,j≠k→ZaO c j none none s1 s2:=fun j hj=>by rw [hs2]; exact Zda hj hmine1
  have R12:∀ j,j≠k→ZaO c j none none st s2:=fun j hj=>(R1 j hj).trans G G1 (R2 j hj)
  have hlv2:s2.lv (sn t)=true:=by rw [hs2]; exact if_pos rfl
  have hfz2:s2.frz (sn t)=false:=by rw [hs2]; exact if_pos rfl
  have hol2:s2.ol (sn t) .first=l++FL:=by
   rw [hs2]
   show s1.ol (sn t) .first=_
   rw [hs1,ZcD,hFL]
  have hown2:s2.own=st.own:=by rw [hs2,hs1]; rfl
  have hsl2:s2.sl=st.sl:=by rw [hs2,hs1]; rfl
  have hloc2:s2.loc=s1.loc:=by rw [hs2]; rfl
  have hft:=Zcq G h1.at_
  rw [← hFL] at e1 hft
  have hFw:fw (l++FL)=F':=by
   rw [Zsz,hF',hfw]
   by_cases hl0:l=[]
   ·rw [if_pos hl0,if_pos (by rw [h6,hl0]; show (-1:Int)<0; omega)]
   ·rw [if_neg hl0]
    cases l with
    | nil=>exact absurd rfl hl0
    | cons a r =>
      have:t.obj=(a:Int):=h6
      rw [if_neg (by omega)]
      show a+1=_
      omega
  have hlen:(l++FL).length=l.length+FL.length:=List.length_append
  have hob2:∀ x,s2.ol x (.ZaB k)=[]:=fun x=>by
   rw [hs2]
   show s1.ol x (.ZaB k)=_
   rw [hs1]
   by_cases e:x=sn t
   ·rw [e,Zci (fun e=>by cases e)]
   ·rw [ZbP (fun e2=>e e2.1) (fun e2=>e e2.1),h1.ob,if_neg e]
  have hKw:ct c s2 (sn t)=K':=by
   rw [ZbW hlv2 hfz2,hol2,hlen,hK']
   congr 1
   omega
  have hFr:fr s2 (sn t)=F':=by
   unfold fr
   rw [hol2,hFw]
  have hval:∀ i:Ix,i≠.fr (sn t)→i≠.ct (sn t)→val c s2 i=val c st i:=fun i hi hi2=>by
   rw [hs2,ZdX i hi2,hs1]
   refine Zb8 i (fun x e=>⟨(fun e2=>by cases e2),fun e2=>by cases e2⟩) (fun x e=>.inl ?_)
   rintro rfl
   rcases e with e | e
   ·exact hi e
   ·exact hi2 e
  have hW:W64 ((g.set (ZbU c (sn t)) F').set (ZbU c (sn t)+1) K'):=by
   refine Zal (Zal X.W ?_) (by rw [hK']; exact ZcS (by omega) hO.2)
   rw [hF']
   split <;> omega
  have hempt:∀ (z:St),z.sl .shelf=st.sl .shelf→(∀ x,x≠sn t→z.ol x .first=st.ol x .first∧z.frz x=st.frz x)→ZfV c z≤mn+0:=fun z hz hz2=>by
   refine Nat.le_trans (m:=ZfV c st) ?_ h8.em
   unfold ZfV
   rw [hz]
   refine Zbh fun x hx he => ?_
   have hne:x≠sn t:=by
    rintro rfl
    rw [G.sm _ rfl,hmine] at hx
    cases hx
   rw [(hz2 x hne).1,(hz2 x hne).2] at he
   exact he
  have hoth:∀ x,x≠sn t→s2.ol x .first=st.ol x .first∧s2.frz x=st.frz x:=fun x hne=>by
   constructor
   ·rw [hs2]
    show s1.ol x .first=_
    rw [hs1]
    exact ZbP (fun e2=>hne e2.1) (fun e2=>hne e2.1)
   ·rw [hs2,show (Zbr s1 (sn t) true false).frz x=s1.frz x from if_neg hne,hs1]
    rfl
  have hlvo:∀ x,x≠sn t→s2.lv x=st.lv x:=fun x hne=>by
   rw [hs2,show (Zbr s1 (sn t) true false).lv x=s1.lv x from if_neg hne,hs1]
   rfl
  have hout:∀ x y,s2.loc x y = .out↔st.loc x y = .out:=fun x y=>by
   rw [hloc2,hs1]
   exact Za7 (fun o ho=>by rw [hM.at_ o ho]; intro e; cases e) (fun e=>by cases e) x y
  have hcont:cont c s2 t.back t.cpu=cont c st t.back t.cpu:=by
   unfold cont
   rw [hsl2]
  have hlvN:lvN s2 (sn t)=lvN st (sn t):=by
   unfold lvN
   rw [hlv2,h3.1]
  have hht2:s2.ht=st.ht:=by rw [hs2,hs1]; rfl
  have hpt2:s2.pt=st.pt:=by rw [hs2,hs1]; rfl
  have hn2:s2.n=st.n:=by rw [hs2,hs1]; rfl
  have htk2:s2.tk=st.tk:=by rw [hs2,hs1]; rfl
  have hho2:s2.hold=st.hold:=by rw [hs2,hs1]; rfl
  have hcu2:s2.cut=st.cut:=by rw [hs2,hs1]; rfl
  have hhe2:s2.held=st.held:=by rw [hs2,hs1]; rfl
  by_cases hE:t.obj<0∧t.F=0
  ·
   have hl0:l=[]:=Zh6 (h6 ▸ hE.1)
   have hFL0:FL=[]:=ZkG (by rw [hfw]; exact hE.2)
   have hol0:s2.ol (sn t) .first=[]:=by rw [hol2,hl0,hFL0]; rfl
   have hP2:P=94:=by rw [hP,if_pos hE]
   rw [hP2] at hs
   have hMS:MvS c cp s2 (.mine k) .full [sn t] []:={
    ne:=fun e=>by cases e
    src:=fun _=>by rw [hsl2]; exact h1.ms
    at_:=Zbn (by rw [hown2]; exact hmine)
    nd:=by simp
    ad:=⟨(fun e=>by cases e),fun e=>by cases e⟩
    bd:=fun e=>by cases e
    lv:=Zbn hlv2
    k:=fun x e=>by rcases e with e | e | e | e <;> cases e
    one:=fun x e=>by rcases e with e | e <;> cases e
    fu:=fun e=>Zbn ⟨hfz2,hol0⟩
    sh:=fun e=>by cases e
    hp:=fun x e=>by rcases e with e | e | e <;> cases e
    oh:=fun x e=>by cases e
    cP:=fun x e=>by rcases e with e | e <;> cases e
    cS:=fun e=>by cases e
    cap:=fun x e=>by cases e }
   have R3:∀ j,j≠k→ZaO c j none none s2 (mvS s2 (.mine k) .full [sn t] []):=fun j hj=>ZbZ (k:=k) hj (fun _ e=>by rcases e with e | e <;> cases e; rfl) (fun _ e=>by rcases e with e | e <;> cases e) (fun x e=>by rcases e with e | e <;> cases e) (fun x e=>by rcases e with e | e <;> cases e) (fun _ e=>by cases e) (fun e=>by cases e) (fun e=>by cases e) (fun x e=>by cases e)
   have hR:∀ j,j≠k→ZaO c j none none st (mvS s2 (.mine k) .full [sn t] []):=fun j hj=>(R12 j hj).trans G G2 (R3 j hj)
   refine Res.eff X (mvS s2 (.mine k) .full [sn t] []) (hx:=none) (px:=none) (t':={ t with K:=K',F:=F',pc:=94 }) (pc:=87) (pc':=94) hpc rfl rfl hs rfl rfl rfl (.inl ⟨hw0,by decide⟩) (ZbY G2 hMS) hR hht2 hpt2 hn2 htk2 ?_ (fun _=>⟨rfl,hw0⟩) ?_ hW ?_ hout (fun e=>absurd e (X.ZjF (by rw [hpc]; decide)))
   ·unfold At
    refine ⟨ch,⟨?_,fun x => ?_,?_⟩,⟨?_,?_,?_,?_⟩,h5⟩
    ·exact ZcE (st:=s2) (a:=.mine k) (b:=.full) (l1:=[sn t]) (l2:=[]) (fun e=>by cases e)
    ·refine (hob2 x).trans ?_
     split <;> rfl
    ·refine (Za1 (st:=s2) (y:=.chain k) (a:=.mine k) (b:=.full) (l1:=[sn t]) (l2:=[]) (fun e=>by cases e) (fun e=>by cases e)).trans ?_
     rw [hsl2]
     exact h1.ch
    ·exact hho2.trans h8.hold
    ·exact hcu2.trans h8.cut
    ·show s2.held+0=((mvS s2 (.mine k) .full [sn t] []).sl .shelf).length+0
     rw [Za1 (fun e=>by cases e) (fun e=>by cases e),hsl2,hhe2]
     exact h8.held
    ·refine hempt (tick (mvS s2 (.mine k) .full [sn t] []) none none k (some { t with K:=K',F:=F',pc:=94 })) ?_ hoth
     refine (Za1 (st:=s2) (y:=.shelf) (a:=.mine k) (b:=.full) (l1:=[sn t]) (l2:=[]) (fun e=>by cases e) (fun e=>by cases e)).trans ?_
     rw [hsl2]
   ·refine ZcU X (Zau h2) (fun i hi hi2 => ?_) hFr hKw
    rw [ZcM i (fun x e=>⟨(fun e2=>by cases e2),fun e2=>by cases e2⟩) (fun x e=>⟨(fun e2=>by cases e2),fun e2=>by cases e2⟩) (fun _=>⟨(fun e=>by cases e),fun e=>by cases e⟩)]
    exact hval i hi hi2
   ·refine ZnV X (Zau h2) hR hht2 hpt2 (fun _ => ?_) hlvo ?_
    ·rw [Za1 (fun e=>by cases e) (fun e=>by cases e),hsl2]
    ·rw [show lvN (mvS s2 (.mine k) .full [sn t] []) (sn t)=lvN s2 (sn t) from rfl,hlvN]
     have e3:cont c (mvS s2 (.mine k) .full [sn t] []) t.back t.cpu=cont c st t.back t.cpu:=by
      unfold cont
      rw [Za1 (fun e=>by cases e) (fun e=>by cases e),hsl2]
     show 1+cont c (mvS s2 (.mine k) .full [sn t] []) t.back t.cpu+0+25+_≤pot c st t+_
     rw [e3]
     unfold pot
     omega
  ·have hne:l++FL≠[]:=by
    intro e
    have hl0:=(List.append_eq_nil_iff.1 e).1
    have hf0:=(List.append_eq_nil_iff.1 e).2
    refine hE ⟨by rw [h6,hl0]; show (-1:Int)<0; omega,?_⟩
    rw [← hfw,hf0]
    rfl
   have hHas:∀ x:Option Tk,Has (tick s2 none none k x) k [sn t] (sn t) [] ch:=fun x=>⟨by
    show s2.sl (.mine k)=_
    rw [hsl2]
    exact h1.ms,fun x=>(hob2 x).trans (by split <;> rfl),by
    show s2.sl (.chain k)=_
    rw [hsl2]
    exact h1.ch⟩
   have hLk:∀ x:Option Tk,LkS c mn (tick s2 none none k x) k none 0 0 0:=fun x=>⟨hho2.trans h8.hold,hcu2.trans h8.cut,by
    show s2.held+0=(s2.sl .shelf).length+0
    rw [hsl2,hhe2]
    exact h8.held,hempt _ (by show s2.sl .shelf=_; rw [hsl2]) hoth⟩
   by_cases hz:iu - l.length=0
   ·have hP2:P=88:=by rw [hP,if_neg hE,if_pos hz]
    rw [hP2] at hs
    refine Res.eff X s2 (hx:=none) (px:=none) (t':={ t with K:=K',F:=F',pc:=88 }) (pc:=87) (pc':=88) hpc rfl rfl hs rfl rfl rfl (.inl ⟨hw0,by decide⟩) G2 R12 hht2 hpt2 hn2 htk2 ?_ (fun _=>⟨rfl,hw0⟩) (ZcU X (Zau h2) hval hFr hKw) hW ?_ hout (fun e=>absurd e (X.ZjF (by rw [hpc]; decide)))
    ·unfold At
     refine ⟨ch,hHas _,h2,⟨hlv2,hfz2⟩,?_,⟨hFr.symm,hKw.symm⟩,hLk _,h5⟩
     show (s2.ol (sn t) .first).length=c.O
     rw [hol2,hlen]
     omega
    ·refine ZnV X (Zau h2) R12 hht2 hpt2 (fun _=>by rw [hsl2]) hlvo ?_
     rw [hlvN]
     show 6+cont c s2 t.back t.cpu+0+25+_≤pot c st t+_
     rw [hcont]
     unfold pot
     omega
   ·have hP2:P=90:=by rw [hP,if_neg hE,if_neg hz]
    rw [hP2] at hs
    refine Res.eff X s2 (hx:=none) (px:=none) (t':={ t with K:=K',F:=F',pc:=90 }) (pc:=87) (pc':=90) hpc rfl rfl hs rfl rfl rfl (.inl ⟨hw0,by decide⟩) G2 R12 hht2 hpt2 hn2 htk2 ?_ (fun _=>⟨rfl,hw0⟩) (ZcU X (Zau h2) hval hFr hKw) hW ?_ hout (fun e=>absurd e (X.ZjF (by rw [hpc]; decide)))
    ·unfold At
     refine ⟨ch,hHas _,h2,⟨hlv2,hfz2⟩,?_,fun e => ?_,hLk _,h5⟩
     ·show s2.ol (sn t) .first≠[]
      rw [hol2]
      exact hne
     ·exfalso
      have e4:(s2.ol (sn t) .first).length=c.O:=e
      rw [hol2,hlen] at e4
      omega
    ·refine ZnV X (Zau h2) R12 hht2 hpt2 (fun _=>by rw [hsl2]) hlvo ?_
     rw [hlvN]
     show 5+cont c s2 t.back t.cpu+0+25+_≤pot c st t+_
     rw [hcont]
     unfold pot
     omega
 ·rw [if_neg hc] at hs
  refine Res.read X (t':={ t with pc:=84 }) (pc:=87) (pc':=84) hpc rfl rfl hs ?_ rfl rfl rfl hw0 ?_
  ·unfold At
   exact ⟨l,ch,h1,h2,h3,h5,h6,⟨_,h7⟩,h8,h9,h12⟩
  ·have:=Zrb hc rfl (by omega)
   show 34+cont c st t.back t.cpu+0+1≤pot c st t
   unfold pot
   omega
theorem step_ok (X:Cx c mn cp st g k t)(hw:t.want=0):∃ t' g' st',Res c mn cp st g k t t' g' st':=by
 have hA:=X.at_
 unfold At at hA
 split at hA
 ·exact p0 X (by assumption)
 ·exact p1 X (by assumption)
 ·exact p2 X (by assumption)
 ·exact p3 X (by assumption)
 ·exact p20 X (by assumption)
 ·exact p21 X (by assumption)
 ·exact p22 X (by assumption)
 ·exact p23 X (by assumption)
 ·exact p24 X (by assumption)
 ·exact p30 X (by assumption)
 ·exact p31 X (by assumption)
 ·exact p32 X (by assumption)
 ·exact p33 X (by assumption)
 ·exact p34 X (by assumption)
 ·exact p35 X (by assumption)
 ·exact p36 X (by assumption)
 ·exact p37 X (by assumption)
 ·exact p38 X (by assumption)
 ·exact p39 X (by assumption)
 ·exact p46 X (by assumption)
 ·exact p47 X (by assumption)
 ·exact p48 X (by assumption)
 ·exact p49 X (by assumption)
 ·exact p40 X (by assumption)
 ·exact p41 X (by assumption)
 ·exact p42 X (by assumption)
 ·exact p43 X (by assumption) hw
 ·exact p44 X (by assumption)
 ·exact p10 X (by assumption)
 ·exact p11 X (by assumption)
 ·exact p12 X (by assumption)
 ·exact p13 X (by assumption)
 ·exact p50 X (by assumption)
 ·exact p51 X (by assumption)
 ·exact p52 X (by assumption)
 ·exact p53 X (by assumption)
 ·exact p54 X (by assumption)
 ·exact p55 X (by assumption)
 ·exact p56 X (by assumption)
 ·exact p57 X (by assumption)
 ·exact p58 X (by assumption)
 ·exact p59 X (by assumption)
 ·exact p60 X (by assumption)
 ·exact p61 X (by assumption)
 ·exact p62 X (by assumption)
 ·exact p63 X (by assumption)
 ·exact p64 X (by assumption)
 ·exact p65 X (by assumption)
 ·exact p66 X (by assumption)
 ·exact p67 X (by assumption)
 ·exact p68 X (by assumption)
 ·exact p70 X (by assumption)
 ·exact p71 X (by assumption)
 ·exact p72 X (by assumption)
 ·exact p73 X (by assumption)
 ·exact p74 X (by assumption)
 ·exact p75 X (by assumption)
 ·exact p79 X (by assumption)
 ·exact p80 X (by assumption)
 ·exact p81 X (by assumption)
 ·exact p84 X (by assumption)
 ·exact p85 X (by assumption)
 ·exact p86 X (by assumption)
 ·exact p87 X (by assumption)
 ·exact p88 X (by assumption)
 ·exact p90 X (by assumption)
 ·exact p91 X (by assumption)
 ·exact p92 X (by assumption)
 ·exact p93 X (by assumption)
 ·exact p94 X (by assumption)
 ·exact p76 X (by assumption)
 ·exact p77 X (by assumption)
 ·rw [X.loc.w78 (by assumption)] at hw
  cases hw
 ·exact p95 X (by assumption)
 ·exact p96 X (by assumption)
 ·exact p97 X (by assumption)
 ·exact p98 X (by assumption)
 ·exact p99 X (by assumption)
 ·exact Zub X (by assumption)
 ·exact Zuc X (by assumption)
 ·exact Zud X (by assumption)
 ·exact Zue X (by assumption)
 ·exact hA.elim
end
end Go.Proofs.YtfcpdlbkmkhhcaaGreatDoor.Cv

namespace Go.Proofs.YtfcpdlbkmkhhcaaGreatDoor.Cv
open See Cw
section
variable {c:Ch}{mn cp:Nat}{st st1 st':St}{g g':List Nat}{k:Nat}{t t':Tk}
structure Cw0 (c:Ch)(mn cp:Nat)(st:St)(g:List Nat):Prop where
 I:Inv c mn cp st
 E:Enc c st g
 W:W64 g
 C:1≤c.C∧c.C≤5
 S:1≤c.S∧c.S≤32
 O:1≤c.O∧c.O≤16
 cp:cp≤32
 mn:mn≤32
theorem Cw0.cx (Z:Cw0 c mn cp st g)(ht:st.tk k=some t)(hn:st.n<1000000000):Cx c mn cp st g k t:=⟨Z.I,Z.E,Z.W,ht,Z.C,Z.S,Z.O,Z.cp,Z.mn,hn⟩
def makes (t:Tk):Bool:=(t.want==0&&(t.pc==43||t.pc==44))||t.pc==77||t.pc==78
theorem Loc.making (G:Zbc c mn cp st)(h:Loc c mn cp st k t){s:Nat}(ho:st.own s = .mine k)(hl:st.lv s=false):makes t=true∧t.slab=(s:Int):=by
 have hm:=(G.sm (.mine k) rfl s).2 ho
 have h0:∀ {x:Nat} {l ch:List Nat},Has st k [] x l ch→False:=fun h=>by
  rw [h.ms] at hm
  cases hm
 have h1:∀ {y x:Nat} {l ch:List Nat},Has st k [y] x l ch→s=y:=fun h=>by
  rw [h.ms,List.mem_singleton] at hm
  exact hm
 have h2:∀ {y x:Nat} {l ch:List Nat},Has st k [y] x l ch→st.lv y=true→False:=fun h h'=>by
  have:=h1 h
  subst this
  rw [h'] at hl
  cases hl
 have h3:∀ {x:Nat} {l ch:List Nat},Has st k [sn t] x l ch→Zan c t→t.slab=(s:Int):=fun h h'=>by
  rw [h1 h]
  exact ZiA h'
 have hwant:=h.want
 have h:=h.at_
 unfold At at h
 split at h
 all_goals first
  | exact (h0 h).elim
  | exact (h0 h.1).elim
  | exact (h2 h.1 h.2.2.1.1).elim
  | exact h.elim
  | skip
 case h_20 =>
  obtain ⟨⟨l,h5,-⟩,-⟩:=h
  exact (h0 h5).elim
 case h_21 =>
  obtain ⟨⟨l,h5,-⟩,-⟩:=h
  exact (h0 h5).elim
 case h_22 =>
  obtain ⟨⟨l,h5,-⟩,-,-,-,-,h6⟩:=h
  exact (h2 h5 h6.1).elim
 case h_23 =>
  obtain ⟨⟨l,h5,-⟩,-,-,-,-,h6⟩:=h
  exact (h2 h5 h6.1).elim
 case h_24 =>
  obtain ⟨⟨l,h5,-⟩,-,-,-,h6⟩:=h
  exact (h2 h5 h6.1).elim
 case h_25 =>
  obtain ⟨⟨l,h5,-⟩,-,-,-,h6⟩:=h
  exact (h2 h5 h6.1).elim
 case h_26 =>
  obtain ⟨⟨l,h5,-⟩,-,-,-,h6,-⟩:=h
  exact (h2 h5 h6.1).elim
 case h_27 =>
  rename_i hpc
  rcases hwant with hw | hw | hw
  ·refine ⟨?_,h3 (h.2 hw).1 (h.2 hw).2.2.1⟩
   unfold makes
   rw [hpc,hw]
   rfl
  ·exact (h0 (h.1 hw.2).1).elim
  ·rw [hpc] at hw
   cases hw.1
 case h_28 =>
  rename_i hpc
  refine ⟨?_,h3 h.1 h.2.2.1⟩
  rcases hwant with hw | hw | hw
  ·unfold makes
   rw [hpc,hw]
   rfl
  ·rw [hpc] at hw
   cases hw.1
  ·rw [hpc] at hw
   cases hw.1
 case h_43=>exact (h2 h.1 h.2.2.1).elim
 case h_58 =>
  obtain ⟨ch,h5,-⟩:=h
  exact (h0 h5).elim
 case h_59 =>
  obtain ⟨l,ch,h5,-,h6,-⟩:=h
  exact (h2 h5 h6.1).elim
 case h_60 =>
  obtain ⟨l,ch,h5,-,h6,-⟩:=h
  exact (h2 h5 h6.1).elim
 case h_61 =>
  obtain ⟨l,ch,h5,-,h6,-⟩:=h
  exact (h2 h5 h6.1).elim
 case h_62 =>
  obtain ⟨l,ch,h5,-,h6,-⟩:=h
  exact (h2 h5 h6.1).elim
 case h_63 =>
  obtain ⟨l,ch,h5,-,h6,-⟩:=h
  exact (h2 h5 h6.1).elim
 case h_64 =>
  obtain ⟨l,ch,h5,-,h6,-⟩:=h
  exact (h2 h5 h6.1).elim
 case h_65 =>
  obtain ⟨ch,h5,-,h6,-⟩:=h
  exact (h2 h5 h6.1).elim
 case h_66 =>
  obtain ⟨ch,h5,-,h6,-⟩:=h
  exact (h2 h5 h6.1).elim
 case h_67 =>
  obtain ⟨ch,h5,-,h6,-⟩:=h
  exact (h2 h5 h6.1).elim
 case h_68 =>
  obtain ⟨ch,h5,-,h6,-⟩:=h
  exact (h2 h5 h6.1).elim
 case h_69 =>
  obtain ⟨ch,h5,-⟩:=h
  exact (h0 h5).elim
 case h_70 =>
  obtain ⟨ch,h5,-⟩:=h
  exact (h0 h5).elim
 case h_71 =>
  obtain ⟨ch,h5,-,h6,-⟩:=h
  exact (h2 h5 h6.1).elim
 case h_72 =>
  rename_i hpc
  obtain ⟨l,ch,h5,h6,-⟩:=h
  refine ⟨?_,h3 h5 h6⟩
  unfold makes
  rw [hpc]
  simp
 case h_73 =>
  rename_i hpc
  obtain ⟨l,ch,h5,h6,-⟩:=h
  refine ⟨?_,h3 h5 h6⟩
  unfold makes
  rw [hpc]
  simp
theorem Loc.mine (G:Zbc c mn cp st)(h:Loc c mn cp st k t)(hm:makes t=true):st.own (sn t) = .mine k∧t.slab=(sn t:Int)∧st.lv (sn t)=false:=by
 have hA:=h.at_
 unfold makes at hm
 simp only [Bool.or_eq_true,Bool.and_eq_true,beq_iff_eq] at hm
 rcases hm with (⟨hw,hp | hp⟩ | hp) | hp
 ·unfold At at hA
  rw [hp] at hA
  have:=hA.2 hw
  exact ⟨this.1.own G,ZiA this.2.2.1,this.2.2.2.1⟩
 ·unfold At at hA
  rw [hp] at hA
  exact ⟨hA.1.own G,ZiA hA.2.2.1,hA.2.2.2.1⟩
 ·unfold At at hA
  rw [hp] at hA
  obtain ⟨l,ch,h1,h2,h3,-⟩:=hA
  exact ⟨h1.own G,ZiA h2,h3⟩
 ·unfold At at hA
  rw [hp] at hA
  obtain ⟨l,ch,h1,h2,h3,-⟩:=hA
  exact ⟨h1.own G,ZiA h2,h3⟩
def making (tk:Nat→Option Tk)(C s:Nat):Prop:=∃ j,j<C∧∃ t,tk j=some t∧makes t=true∧t.slab=(s:Int)
theorem Zqd {s:Nat}(h:ct c st s=0):st.lv s=false:=by
 unfold ct at h
 split at h
 ·have e:Zat (c.O - (st.ol s .first).length) c.O (st.frz s) true=(c.O - (st.ol s .first).length)+256 * c.O+(if st.frz s then 65536 else 0)+131072:=rfl
  omega
 ·rename_i h2
  simpa using h2
theorem Zjk (I:Inv c mn cp st){s:Nat}(_hs:s<c.S):st.own s = .dead↔ct c st s=0∧¬making st.tk c.C s:=by
 constructor
 ·intro h
  refine ⟨?_,?_⟩
  ·unfold ct
   rw [I.G.dead s h]
   rfl
  ·rintro ⟨j,hj,t,ht,hm,hsl⟩
   have:=(I.loc j t ht).2.mine I.G hm
   have e:sn t=s:=by
    unfold sn
    omega
   rw [e,h] at this
   cases this.1
 ·rintro ⟨h1,h2⟩
  have hl:=Zqd h1
  have hn:∀ {b:Bool},st.lv s=true→b=true:=fun e=>by
   rw [hl] at e
   cases e
  cases ho:st.own s with
  | dead=>rfl
  | full =>
    have:=(I.G.full s ho).1
    rw [hl] at this
    cases this
  | shelf =>
    have:=(I.G.shelf s ho).1
    rw [hl] at this
    cases this
  | head x =>
    have:=(I.G.hpc s x (.inl ho)).1
    rw [hl] at this
    cases this
  | part x =>
    have:=(I.G.hpc s x (.inr (.inl ho))).1
    rw [hl] at this
    cases this
  | chain x =>
    have:=(I.G.hpc s x (.inr (.inr ho))).1
    rw [hl] at this
    cases this
  | mine x =>
    exfalso
    cases ht:st.tk x with
    | none =>
      have h3:=(I.idle x ht).ms
      have h4:=(I.G.sm (.mine x) rfl s).2 ho
      rw [h3] at h4
      cases h4
    | some t =>
      obtain ⟨hx,hL⟩:=I.loc x t ht
      obtain ⟨h5,h6⟩:=hL.making I.G ho hl
      exact h2 ⟨x,hx,t,ht,h5,h6⟩
theorem ZiU {x:Option Tk}(I:Inv c mn cp st)(hk:k<c.C)(R:∀ j,j≠k→ZaO c j none none st st1)(hht:st1.ht=st.ht)(hpt:st1.pt=st.pt)(h1:∀ j,st1.sl (.part j)=st.sl (.part j))(h2:∀ s,st1.ol s .first=st.ol s .first)(h3:st1.lv=st.lv)(h4:st1.frz=st.frz) :
 Phi c (tick st1 none none k x)+Zkl c st k≤Phi c st+Zmt c (tick st1 none none k x) x:=by
 have h:=Zk7 (f:=Zkl c st) (f':=Zkl c (tick st1 none none k x)) (k:=k) (q:=0) hk fun j _ hj=>by
  have:=ZjN (q1:=0) (q2:=0) (q3:=0) I ((R j hj).left (t:=x) hj hht hpt) (fun _ y=>by show st1.ht y=_; rw [hht]) (fun _ y=>by show st1.pt y=_; rw [hpt]) (fun _ s=>⟨Zdn (h2 s),Zcx (h2 s) (by show st1.lv s=_; rw [h3]) (by show st1.frz s=_; rw [h4])⟩) ⟨.inl rfl,.inl rfl,.inl rfl⟩
  simpa using this
 have e1:Zde (ptN (tick st1 none none k x)) c.C=Zde (ptN st) c.C:=ZbK fun j _=>by
  show (st1.sl _).length=(st.sl _).length
  rw [h1]
 have e2:Zde (lvN (tick st1 none none k x)) c.S=Zde (lvN st) c.S:=ZbK fun j _=>by
  show (if st1.lv j=true then 1 else 0)=(if st.lv j=true then 1 else 0)
  rw [h3]
 rw [ZjO (st:=tick st1 none none k x) (k:=k) (x:=x) upd_same] at h
 unfold Phi
 rw [e1,e2]
 omega
abbrev PJ (c:Ch):Nat:=2 * c.S+c.O+131
structure Nx (c:Ch)(mn cp:Nat)(st:St)(g:List Nat)(k:Nat)(x:Option Tk)(st':St):Prop where
 Z:Cw0 c mn cp st' g
 tk:st'.tk=upd st.tk k x
 n:st'.n=st.n+1
theorem Zmp {x:Option Tk}(Z:Cw0 c mn cp st g)(hk:k<c.C)(G1:Zbc c mn cp st1)(R:∀ j,j≠k→ZaO c j none none st st1)(hht:st1.ht=st.ht)(hpt:st1.pt=st.pt)(hn:st1.n=st.n)(htk:st1.tk=st.tk)(hho:st1.hold=st.hold)(hun:st.hold≠some k)
 (h:x=none∧Has st1 k [] 0 [] []∨∃ t',x=some t'∧Loc c mn cp (tick st1 none none k x) k t') (hv:∀ i:Ix,i.ok c→val c st1 i=val c st i):Nx c mn cp st g k x (tick st1 none none k x):=by
 refine ⟨⟨Z.I.step hk (Zha G1) (fun j hj=>(R j hj).left hj hht hpt) ?_ ?_,Z.E.same fun i hi=>(Zbt i).trans (hv i hi),Z.W,Z.C,Z.S,Z.O,Z.cp,Z.mn⟩,?_,?_⟩
 ·rcases h with ⟨h1,h2⟩ | ⟨t',h1,h2⟩
  ·exact .inl ⟨upd_same.trans h1,h2⟩
  ·exact .inr ⟨t',upd_same.trans h1,h2⟩
 ·intro e
  have e2:st1.hold=some k:=e
  rw [hho] at e2
  exact absurd e2 hun
 ·show upd st1.tk k x=_
  rw [htk]
 ·show st1.n+1=_
  rw [hn]
inductive Zry (c:Ch)(k:Nat):Tk→Prop where
 | alloc:Zry c k { job:=1,cpu:=k,pc:=0 }
 | flush (f:Nat) (h:f<c.C):Zry c k { job:=3,cpu:=k,pc:=70,for_:=(f:Int) }
 | trim:Zry c k { job:=4,cpu:=k,pc:=95 }
theorem Zow (Z:Cw0 c mn cp st g)(hk:k<c.C)(ht:st.tk k=none)(h:Zry c k t):∃ st',Nx c mn cp st g k (some t) st'∧Phi c st'+1≤Phi c st+PJ c∧st'.loc=st.loc∧st'.own=st.own∧st'.ol=st.ol:=by
 have hi:=Z.I.idle k ht
 have hun:st.hold≠some k:=fun e=>by
  obtain ⟨t2,e1,_⟩:=Z.I.lockd k e
  rw [ht] at e1
  cases e1
 have hL:Loc c mn cp (tick st none none k (some t)) k t:=by
  cases h with
  | alloc=>exact ⟨rfl,rfl,⟨fun _=>rfl,fun _=>rfl⟩,.inl rfl,(fun e=>by cases e),hi⟩
  | flush f hf=>exact ⟨rfl,rfl,(by constructor <;> intro e <;> cases e),.inl rfl,(fun e=>by cases e),hi,by show (0:Int)≤f; omega,by show (f:Int)<c.C; omega⟩
  | trim=>exact ⟨rfl,rfl,(by constructor <;> intro e <;> cases e),.inl rfl,(fun e=>by cases e),hi⟩
 refine ⟨_,Zmp Z hk Z.I.G (fun j hj=>ZaO.refl) rfl rfl rfl rfl rfl hun (.inr ⟨t,rfl,hL⟩) fun _ _=>rfl,?_,rfl,rfl,rfl⟩
 have:=ZiU (x:=some t) Z.I hk (fun j hj=>ZaO.refl) rfl rfl (fun _=>rfl) (fun _=>rfl) rfl rfl
 have hp:Zmt c (tick st none none k (some t)) (some t)+1≤PJ c:=by
  cases h with
  | alloc =>
    show AA c+51+0+1≤_
    unfold AA PJ
    omega
  | flush f hf =>
    show 74+c.O+0+1≤_
    unfold PJ
    omega
  | trim =>
    show 2 * c.S+12+0+1≤_
    unfold PJ
    omega
 omega
theorem Zfs {s o:Nat}(Z:Cw0 c mn cp st g)(hk:k<c.C)(ht:st.tk k=none)(ho:st.loc s o = .out):∃ st',Nx c mn cp st g k (some { job:=2,cpu:=k,pc:=10,slab:=(s:Int),obj:=(o:Int) }) st'∧Phi c st'+1≤Phi c st+PJ c∧(∀ x y,st'.loc x y = .out↔st.loc x y = .out∧¬(x=s∧y=o))∧st'.own=st.own:=by
 have G:=Z.I.G
 have hi:=Z.I.idle k ht
 have hb:=G.ob s o (by rw [ho]; intro e; cases e)
 have hun:st.hold≠some k:=fun e=>by
  obtain ⟨t2,e1,_⟩:=Z.I.lockd k e
  rw [ht] at e1
  cases e1
 have hmk:∀ x,st.own s = .mine x→st.lv s=true:=fun x e=>by
  cases hl:st.lv s with
  | true=>rfl
  | false =>
    have:=G.making s x e hl o hb.2
    rw [ho] at this
    cases this
 have hM:MvO c st s .out (.ZaB k) [o] []:={
  ne:=fun e=>by cases e
  src:=fun e=>by cases e
  at_:=Zbn ho
  nd:=by simp
  an:=fun e=>by cases e
  bn:=fun e=>by cases e
  hb:=fun _ e=>by cases e
  lb:=fun e=>by rcases e with e | ⟨_,e⟩ <;> cases e
  fu:=fun _ e=>by cases e
  sh:=fun _ _ e=>by cases e
  mkg:=hmk
  em:=fun _ _ e=>by cases e }
 have hR:∀ j,j≠k→ZaO c j none none st (mvO st s .out (.ZaB k) [o] []):=fun j hj=>ZbC (k:=k) hj (fun _ e=>by cases e) (fun _ e=>by cases e; rfl) (fun x e=>by rcases e with e | e <;> cases e) (fun e=>by cases e) (fun e=>by cases e) (fun e=>by cases e)
 have hL:Loc c mn cp (tick (mvO st s .out (.ZaB k) [o] []) none none k (some { job:=2,cpu:=k,pc:=10,slab:=(s:Int),obj:=(o:Int) })) k { job:=2,cpu:=k,pc:=10,slab:=(s:Int),obj:=(o:Int) }:=by
  refine ⟨rfl,rfl,(by constructor <;> intro e <;> cases e),.inl rfl,(fun e=>by cases e),⟨hi.ms,fun x => ?_,hi.ch⟩,⟨by show (0:Int)≤s; omega,by show (s:Int)<c.S; omega⟩,by show (0:Int)≤o; omega,by show (o:Int)<c.O; omega⟩
  show (mvO st s .out (.ZaB k) [o] []).ol x (.ZaB k)=if x=s then [o] else []
  by_cases e:x=s
  ·rw [e,ZcD,if_pos rfl,hi.ob]
   split <;> rfl
  ·rw [ZbP (fun e2=>e e2.1) (fun e2=>e e2.1),hi.ob,if_neg e]
   split <;> rfl
 refine ⟨_,Zmp Z hk (ZbB G hM) hR rfl rfl rfl rfl rfl hun (.inr ⟨_,rfl,hL⟩) fun i _ => ?_,?_,fun x y => ?_,rfl⟩
 ·exact Zb8 i (fun x e=>⟨(fun e2=>by cases e2),fun e2=>by cases e2⟩) (fun x e=>.inr ⟨(fun e=>by cases e),fun e=>by cases e⟩)
 ·have:=ZiU (x:=some { job:=2,cpu:=k,pc:=10,slab:=(s:Int),obj:=(o:Int) }) Z.I hk hR rfl rfl (fun _=>rfl) (fun x=>Zcb (fun e=>by cases e) (fun e=>by cases e) x) rfl rfl
  have hp:Zmt c (tick (mvO st s .out (.ZaB k) [o] []) none none k (some { job:=2,cpu:=k,pc:=10,slab:=(s:Int),obj:=(o:Int) })) (some { job:=2,cpu:=k,pc:=10,slab:=(s:Int),obj:=(o:Int) })+1≤PJ c:=by
   show 97+0+1≤_
   unfold PJ
   omega
  omega
 ·show (mvO st s .out (.ZaB k) [o] []).loc x y = .out↔_
  unfold mvO
  dsimp only
  by_cases e:x=s∧y∈[o]
  ·rw [if_pos e]
   rw [List.mem_singleton] at e
   exact ⟨(fun e2=>by cases e2),fun e2=>absurd e e2.2⟩
  ·rw [if_neg e]
   rw [List.mem_singleton] at e
   exact ⟨fun e2=>⟨e2,e⟩,fun e2=>e2.1⟩
theorem Ztc (h:Loc c mn cp st k t)(hw:t.want=1):t.pc=43∧Has st k [] 0 [] []∧ZfS st k:=by
 have hA:=h.at_
 rcases h.want with h1 | h1 | h1
 ·rw [hw] at h1
  cases h1
 ·unfold At at hA
  rw [h1.1] at hA
  exact ⟨h1.1,hA.1 hw⟩
 ·rw [hw] at h1
  cases h1.2
theorem Ztd (h:Loc c mn cp st k t)(hw:t.want=2):t.pc=78:=by
 rcases h.want with h1 | h1 | h1
 ·rw [hw] at h1
  cases h1
 ·rw [hw] at h1
  cases h1.2
 ·exact h1.1
theorem ZiJ (I:Inv c mn cp st)(ht:st.tk k=some t)(hw:t.want≠0):st.hold≠some k:=fun e=>by
 obtain ⟨t2,e1,_,e3⟩:=I.lockd k e
 rw [ht] at e1
 cases e1
 exact hw e3
theorem ZmO (Z:Cw0 c mn cp st g)(ht:st.tk k=some t)(hw:t.want=1):∃ st',Nx c mn cp st g k none st'∧Phi c st'+1≤Phi c st∧st'.loc=st.loc∧st'.own=st.own:=by
 obtain ⟨hk,hL⟩:=Z.I.loc k t ht
 obtain ⟨hp,h1,_⟩:=Ztc hL hw
 refine ⟨_,Zmp Z hk Z.I.G (fun j hj=>ZaO.refl) rfl rfl rfl rfl rfl (ZiJ Z.I ht (by rw [hw]; decide)) (.inl ⟨rfl,h1⟩) fun _ _=>rfl,?_,rfl,rfl⟩
 have:=ZiU (x:=none) Z.I hk (fun j hj=>ZaO.refl) rfl rfl (fun _=>rfl) (fun _=>rfl) rfl rfl
 rw [Zdv ht] at this
 have hb:base c st t=AA c - 1:=by
  unfold base
  rw [hp]
  exact if_pos hw
 have e:Zmt c (tick st none none k none) none=0:=rfl
 unfold pot at this
 unfold AA at hb
 omega
theorem Zl4 {s:Nat}(Z:Cw0 c mn cp st g)(ht:st.tk k=some t)(hw:t.want=1)(hs:s<c.S)(hd:st.own s = .dead):∃ st',Nx c mn cp st g k (some { t with want:=0,slab:=(s:Int),many:=0,pc:=43 }) st'∧Phi c st'+1≤Phi c st∧(∀ x y,st'.loc x y = .out↔st.loc x y = .out)∧∀ x,st'.own x=st.own x∨st'.own x = .mine k:=by
 have hO:=Z.O
 have G:=Z.I.G
 obtain ⟨hk,hL⟩:=Z.I.loc k t ht
 obtain ⟨hp,h1,h2⟩:=Ztc hL hw
 have hlv:=G.dead s hd
 have hn:∀ o,st.loc s o = .none:=fun o=>by
  by_cases e:st.loc s o = .none
  ·exact e
  ·have h1:=G.ob s o e
   exact (G.live s o h1.1 h1.2).2 hd
 have hG:=ZnG (l:=List.range c.O) G hd hs hk (fun o=>List.mem_range) List.nodup_range h1.ms
 have hfirst:∀ x z,z≠.ZaB k→(make st k s (List.range c.O)).ol x z=st.ol x z:=by
  intro x z hz
  unfold make
  dsimp only
  rw [if_neg (fun e=>hz e.2)]
 have hsl:∀ y,y≠.mine k→(make st k s (List.range c.O)).sl y=st.sl y:=by
  intro y hy
  unfold make
  dsimp only
  rw [if_neg hy]
 have hL':Loc c mn cp (tick (make st k s (List.range c.O)) none none k (some { t with want:=0,slab:=(s:Int),many:=0,pc:=43 })) k { t with want:=0,slab:=(s:Int),many:=0,pc:=43 }:=by
  refine ⟨hL.cpu,hL.fin,?_,.inl rfl,(fun e=>by cases e),?_,fun _=>⟨⟨if_pos rfl,fun x => ?_,?_⟩,?_,⟨by show (0:Int)≤s; omega,by show (s:Int)<c.S; omega⟩,hlv,⟨by show (0:Int)≤0; omega,by show (0:Int)<c.O; omega⟩,fun i hi => ?_⟩⟩
  ·have:=hL.job
   rw [hp] at this
   exact this
  ·intro e
   cases e
  ·show (if x=s∧Ct.ZaB k = .ZaB k then List.range c.O else st.ol x (.ZaB k))=if x=s then List.range c.O else []
   by_cases e:x=s
   ·rw [if_pos ⟨e,rfl⟩,if_pos e]
   ·rw [if_neg (fun e2=>e e2.1),if_neg e,h1.ob]
    split <;> rfl
  ·exact (hsl _ (fun e=>by cases e)).trans h1.ch
  ·exact (hsl _ (fun e=>by cases e)).trans h2
  ·have:i<(0:Int).toNat:=hi
   simp at this
 refine ⟨_,Zmp Z hk hG (fun j hj=>Zjy hj) rfl rfl rfl rfl rfl (ZiJ Z.I ht (by rw [hw]; decide)) (.inr ⟨_,rfl,hL'⟩) fun i _ => ?_,?_,fun x y => ?_,fun x => ?_⟩
 ·cases i with
  | hd x=>exact ZbX (hsl _ (fun e=>by cases e)) (fun y=>hfirst y _ (fun e=>by cases e))
  | pd x=>show pw ((make st k s _).sl _)=pw (st.sl _); rw [hsl _ (fun e=>by cases e)]
  | shelf=>show sw ((make st k s _).sl _)=sw (st.sl _); rw [hsl _ (fun e=>by cases e)]
  | fr x=>exact Zdn (hfirst x _ (fun e=>by cases e))
  | ct x=>exact Zcx (hfirst x _ (fun e=>by cases e)) rfl rfl
  | _=>rfl
 ·have:=ZiU (x:=some { t with want:=0,slab:=(s:Int),many:=0,pc:=43 }) Z.I hk (fun j hj=>Zjy (s:=s) (l:=List.range c.O) hj) rfl rfl (fun _=>hsl _ (fun e=>by cases e)) (fun x=>hfirst x _ (fun e=>by cases e)) rfl rfl
  rw [Zdv ht] at this
  have hb:base c st t=AA c - 1:=by
   unfold base
   rw [hp]
   exact if_pos hw
  have hp2:Zmt c (tick (make st k s (List.range c.O)) none none k (some { t with want:=0,slab:=(s:Int),many:=0,pc:=43 })) (some { t with want:=0,slab:=(s:Int),many:=0,pc:=43 })=77+2 * c.S+c.O:=rfl
  rw [hp2] at this
  unfold pot at this
  unfold AA at hb
  omega
 ·show (make st k s (List.range c.O)).loc x y = .out↔_
  unfold make
  dsimp only
  split
  ·rename_i e
   rw [e.1,hn]
   exact ⟨(fun e=>by cases e),fun e=>by cases e⟩
  ·exact Iff.rfl
 ·by_cases e:x=s
  ·exact .inr (if_pos e)
  ·exact .inl (if_neg e)
theorem Zlu (Z:Cw0 c mn cp st g)(ht:st.tk k=some t)(hw:t.want=2):∃ t',Zb2 { t with want:=0 }=some t'∧∃ st',Nx c mn cp st g k (stop t') st'∧(t'.fin=0∨t'.fin=1)∧t'.job=t.job∧t.job≠1∧Phi c st'+1≤Phi c st∧(∀ x y,st'.loc x y = .out↔st.loc x y = .out):=by
 have G:=Z.I.G
 obtain ⟨hk,hL⟩:=Z.I.loc k t ht
 have hp:=Ztd hL hw
 have hA:=hL.at_
 unfold At at hA
 rw [hp] at hA
 obtain ⟨l,ch,h1,h2,h3,h4⟩:=hA
 have hjob:t.job≠1:=fun e=>by
  have:=hL.job.1 e
  rw [hp] at this
  cases this
 have hG:=Znw G h1.ms h3
 have hfirst:∀ x z,z≠.ZaB k→(kill st k (sn t)).ol x z=st.ol x z:=by
  intro x z hz
  unfold kill
  dsimp only
  rw [if_neg (fun e=>hz e.2)]
 have hsl:∀ y,y≠.mine k→(kill st k (sn t)).sl y=st.sl y:=by
  intro y hy
  unfold kill
  dsimp only
  rw [if_neg hy]
 have hHas:Has (kill st k (sn t)) k [] 0 [] ch:=by
  refine ⟨if_pos rfl,fun x => ?_,(hsl _ (fun e=>by cases e)).trans h1.ch⟩
  show (if x=sn t∧Ct.ZaB k = .ZaB k then [] else st.ol x (.ZaB k))=if x=0 then [] else []
  by_cases e:x=sn t
  ·rw [if_pos ⟨e,rfl⟩]
   split <;> rfl
  ·rw [if_neg (fun e2=>e e2.1),h1.ob,if_neg e]
   split <;> rfl
 have hun:=ZiJ Z.I ht (by rw [hw]; decide)
 have hv:∀ i:Ix,i.ok c→val c (kill st k (sn t)) i=val c st i:=fun i _=>by
  cases i with
  | hd x=>exact ZbX (hsl _ (fun e=>by cases e)) (fun y=>hfirst y _ (fun e=>by cases e))
  | pd x=>show pw ((kill st k _).sl _)=pw (st.sl _); rw [hsl _ (fun e=>by cases e)]
  | shelf=>show sw ((kill st k _).sl _)=sw (st.sl _); rw [hsl _ (fun e=>by cases e)]
  | fr x=>exact Zdn (hfirst x _ (fun e=>by cases e))
  | ct x=>exact Zcx (hfirst x _ (fun e=>by cases e)) rfl rfl
  | _=>rfl
 have hout:∀ x y,(kill st k (sn t)).loc x y = .out↔st.loc x y = .out:=fun x y=>by
  unfold kill
  dsimp only
  split
  ·rename_i e
   constructor
   ·intro e2
    cases e2
   ·intro e2
    have hb:=G.ob x y (by rw [e2]; intro e; cases e)
    have:=G.making (sn t) k (h1.own G) h3 y hb.2
    rw [← e,e2] at this
    cases this
  ·exact Iff.rfl
 have hphi:∀ x,Phi c (tick (kill st k (sn t)) none none k x)+pot c st t≤Phi c st+Zmt c (tick (kill st k (sn t)) none none k x) x:=fun x=>by
  have:=ZiU (x:=x) Z.I hk (fun j hj=>ZgM (s:=sn t) hj) rfl rfl (fun _=>hsl _ (fun e=>by cases e)) (fun x=>hfirst x _ (fun e=>by cases e)) rfl rfl
  rw [Zdv ht] at this
  exact this
 have hb:pot c st t=1+cont c st t.back t.cpu:=by
  unfold pot base pen
  simp [hp]
 have hfin:ch=[]→Zb2 { t with want:=0 }=some { t with want:=0,fin:=1 }→∃ t',Zb2 { t with want:=0 }=some t'∧∃ st',Nx c mn cp st g k (stop t') st'∧(t'.fin=0∨t'.fin=1)∧t'.job=t.job∧t.job≠1∧Phi c st'+1≤Phi c st∧(∀ x y,st'.loc x y = .out↔st.loc x y = .out):=by
  intro hch hg
  have hst:stop { t with want:=0,fin:=1 }=none:=if_neg (show ¬(1:Int)=0 by decide)
  refine ⟨_,hg,tick (kill st k (sn t)) none none k none,by rw [hst]; exact Zmp Z hk hG (fun j hj=>ZgM hj) rfl rfl rfl rfl rfl hun (.inl ⟨rfl,by rw [hch] at hHas; exact hHas⟩) hv,.inr rfl,rfl,hjob,?_,hout⟩
  have h5:=hphi none
  have e:Zmt c (tick (kill st k (sn t)) none none k none) none=0:=rfl
  omega
 have hgo:∀ t',t'.cpu=t.cpu→t'.fin=0→t'.job=t.job→t'.want=0→t'.pc≠78→alloc t'.pc=false→At c mn cp (tick (kill st k (sn t)) none none k (some t')) k t'→pot c (tick (kill st k (sn t)) none none k (some t')) t'≤cont c st t.back t.cpu→Zb2 { t with want:=0 }=some t' →
  ∃ t',Zb2 { t with want:=0 }=some t'∧∃ st',Nx c mn cp st g k (stop t') st'∧(t'.fin=0∨t'.fin=1)∧t'.job=t.job∧t.job≠1∧Phi c st'+1≤Phi c st∧(∀ x y,st'.loc x y = .out↔st.loc x y = .out):=by
  intro t' hc hf hj hw' hp' ha hAt hpot hg
  have hst:stop t'=some t':=if_pos hf
  have hJ:t'.job=1↔alloc t'.pc=true:=by
   rw [hj,ha]
   exact ⟨fun e=>absurd e hjob,fun e=>by cases e⟩
  refine ⟨_,hg,tick (kill st k (sn t)) none none k (some t'),by rw [hst]; exact Zmp Z hk hG (fun j hj=>ZgM hj) rfl rfl rfl rfl rfl hun (.inr ⟨t',rfl,hc.trans hL.cpu,hf,hJ,.inl hw',fun e=>absurd e hp',hAt⟩) hv,.inl hf,hj,hjob,?_,hout⟩
  ·have h5:=hphi (some t')
   have e:Zmt c (tick (kill st k (sn t)) none none k (some t')) (some t')=pot c (tick (kill st k (sn t)) none none k (some t')) t':=rfl
   omega
 rcases h4 with ⟨hbk,hch⟩ | ⟨hbk,hch,hf⟩ | ⟨hbk,hch⟩ | ⟨hbk,hH⟩
 ·exact hfin hch (if_pos hbk)
 ·refine hgo { t with want:=0,pc:=73 } rfl hL.fin rfl rfl (fun e=>by cases e) rfl ?_ ?_ ?_
  ·unfold At
   rw [hch] at hHas
   exact ⟨hHas,hf⟩
  ·show 20+0≤_
   unfold cont
   rw [if_pos hbk]
   exact Nat.le_refl _
  ·unfold Zb2
   rw [if_neg (show ¬t.back=0 by omega),if_pos (show t.back=73 from hbk)]
 ·refine hgo { t with want:=0,pc:=95 } rfl hL.fin rfl rfl (fun e=>by cases e) rfl ?_ ?_ ?_
  ·unfold At
   rw [hch] at hHas
   exact hHas
  ·show 2 * c.S+12+0≤_
   unfold cont
   rw [if_neg (by omega),if_pos hbk]
   omega
  ·unfold Zb2
   rw [if_neg (show ¬t.back=0 by omega),if_neg (show ¬t.back=73 by omega),if_pos (show t.back=95 from hbk)]
 ·cases hch:ch with
  | nil =>
    refine hfin hch ?_
    unfold Zb2
    rw [if_neg (show ¬t.back=0 by omega),if_neg (show ¬t.back=73 by omega),if_neg (show ¬t.back=95 by omega),if_pos (show t.back=79 from hbk),if_pos (show t.H=0 by rw [hH,hch]; rfl)]
  | cons a r =>
    refine hgo { t with want:=0,pc:=79 } rfl hL.fin rfl rfl (fun e=>by cases e) rfl ?_ ?_ ?_
    ·unfold At
     exact ⟨ch,hHas,by rw [hch]; simp,hH⟩
    ·show 36 * ((kill st k (sn t)).sl (.chain t.cpu)).length+0≤_
     rw [hsl _ (fun e=>by cases e)]
     unfold cont
     rw [if_neg (by omega),if_neg (by omega),if_pos hbk]
     omega
    ·unfold Zb2
     rw [if_neg (show ¬t.back=0 by omega),if_neg (show ¬t.back=73 by omega),if_neg (show ¬t.back=95 by omega),if_pos (show t.back=79 from hbk),if_neg (show ¬t.H=0 by rw [hH,hch]; exact ZnZ)]
end
end Go.Proofs.YtfcpdlbkmkhhcaaGreatDoor.Cv
