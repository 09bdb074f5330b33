/-
  Texts of this claim, joined. No condition.
-/
import Derived.Test.YtfcpdlbkmkhhcaaGreatDoorCn30
namespace Go.Proofs.YtfcpdlbkmkhhcaaGreatDoor.Cv
open See Cw
section
variable {c:Ch}{mn cp:Nat}{st st1 st':St}{g g':List Nat}{k:Nat}{t t':Tk}
theorem Zjs {f:Nat→Nat}{key n:Nat}(h:∀ i,i<n→f i=ZaR (if ((i+1:Nat):Int)<n then ((i+1:Nat):Int) else -1) key i):∀ m,m≤n→lkd f key (List.range' (n - m) m) (-1)
 | 0,_=>trivial
 | m+1,hm=>by
   have ih:=Zjs h m (by omega)
   have e:n - (m+1)+1=n - m:=by omega
   refine ⟨?_,by rw [e]; exact ih⟩
   rw [h _ (by omega),e]
   cases m with
   | zero =>
     rw [if_neg (by omega)]
     rfl
   | succ m =>
     rw [if_pos (by omega)]
     rfl
theorem ZqU {f:Nat→Nat}{key n:Nat}(h:∀ i,i<n→f i=ZaR (if ((i+1:Nat):Int)<n then ((i+1:Nat):Int) else -1) key i):lkd f key (List.range n) (-1):=by
 have:=Zjs h n (Nat.le_refl _)
 rw [Nat.sub_self] at this
 rw [List.range_eq_range']
 exact this
theorem p44 (X:Cx c mn cp st g k t)(hpc:t.pc=44):∃ t' g' st',Res c mn cp st g k t t' g' st':=by
 have hA:=X.at_
 unfold At at hA
 rw [hpc] at hA
 have hcpu:=X.cpu
 have hw0:=X.w0 (by omega) (by omega)
 have hC:=X.C
 have hS:=X.S
 have hO:=X.O
 have G:=X.I.G
 obtain ⟨h1,h4,h2,h3,h5⟩:=hA
 have hs:Zba c mn cp g t=some ({ t with obj:=0,pc:=40 },g.set (ZbU c (sn t)+1) (Zat c.O c.O true true)):=by
  rw [ZbE (by omega) (by omega)]
  unfold Zas
  rw [hpc]
  exact (Zai h2).trans (ZbG (X.rct (Zau h2)))
 have hmine:=h1.own G
 have hol:st.ol (sn t) .first=[]:=by
  cases hc:st.ol (sn t) .first with
  | nil=>rfl
  | cons a r =>
    have ha:a∈st.ol (sn t) .first:=by rw [hc]; exact List.mem_cons_self
    have h6:=G.making (sn t) k hmine h3 a (ZgX G (x:=.first) rfl ha).2
    rw [(G.om _ _ rfl a).1 ha] at h6
    cases h6
 have hR:∀ j,j≠k→ZaO c j none none st (Zbr st (sn t) true true):=fun j hj=>Zda hj hmine
 have hlv1:(Zbr st (sn t) true true).lv (sn t)=true:=if_pos rfl
 have hfz1:(Zbr st (sn t) true true).frz (sn t)=true:=if_pos rfl
 have hrange:List.range c.O=0::List.range' 1 (c.O - 1):=by
  obtain ⟨n,hn⟩:∃ n,c.O=n+1:=⟨c.O - 1,by omega⟩
  rw [hn,List.range_eq_range']
  rfl
 refine Res.eff X (Zbr st (sn t) true true) (hx:=none) (px:=none) (t':={ t with obj:=0,pc:=40 }) (pc:=44) (pc':=40) hpc rfl rfl hs rfl rfl rfl (.inl ⟨hw0,by decide⟩) (Zc9 G hmine (fun e=>by cases e)) hR rfl rfl rfl rfl ?_ (fun e=>absurd e (X.ZcF (by rw [hpc]; decide))) ?_ ?_ ?_ (fun _ _=>Iff.rfl)
 ·unfold At
  refine ⟨⟨List.range' 1 (c.O - 1),⟨h1.ms,fun x=>(h1.ob x).trans ?_,h1.ch⟩,?_⟩,h4,h2,⟨by show (0:Int)≤0; omega,by show (0:Int)<c.O; omega⟩,hlv1,hfz1⟩
  ·rw [hrange]
   rfl
  ·have:=ZqU (f:=st.lk (sn t)) (key:=ky c (sn t)) (n:=c.O) h5
   rw [hrange] at this
   exact this
 ·refine X.E.set (i:=.ct (sn t)) (Zau h2) (fun j _ hj => ?_) ?_
  ·rw [Zbt]
   exact ZdX j hj
  ·show ct c (Zbr st (sn t) true true) (sn t)=_
   rw [ZbW hlv1 hfz1]
   show Zat (c.O - (st.ol (sn t) .first).length) c.O true true=_
   rw [hol]
   rfl
 ·exact Zal X.W (ZcS (by omega) hO.2)
 ·refine ZnV X (Zau h2) hR rfl rfl (fun _=>rfl) (fun x hx=>if_neg hx) ?_
  have hb:base c st t=77+2 * c.S:=by
   unfold base
   rw [hpc]
   rfl
  have e1:lvN (Zbr st (sn t) true true) (sn t)=1:=by
   unfold lvN
   rw [hlv1]
   rfl
  have e2:lvN st (sn t)=0:=by
   unfold lvN
   rw [h3]
   rfl
  rw [e1,e2]
  show 19+0+25+_≤pot c st t+_
  unfold pot
  omega
theorem Znj (X:Cx c mn cp st g k t)(h1:Has st k [] (sn t) [on t] []){iu:Nat}{f:Bool}(hlk:st.lk (sn t) (on t)=ZaR ((t.F:Int) - 1) (ky c (sn t)) (on t))(hiu:iu=c.O - (st.ol (sn t) .first).length)(hf:st.frz (sn t)=f)(hF:fr st (sn t)=t.F)(hlv:st.lv (sn t)=true)
 (hq:f=true∨t.F≠0∧(1<iu∨st.hold=some k)):MvO c st (sn t) (.ZaB k) .first [on t] []:=by
 have G:=X.I.G
 refine MvO.of G rfl (fun e=>by cases e) h1.at_ (fun e=>by cases e) (fun _ e=>by cases e) (fun _=>⟨?_,trivial⟩) (fun e _ => ?_) (fun _ _ e=>by cases e) (fun x e=>hlv) (fun hh hsh _ hlen => ?_)
 ·show _=ZaR (ZcP (st.ol (sn t) .first) (-1)) _ _
  rw [hlk,← hF]
  unfold fr
  rw [ZpH]
 ·obtain ⟨-,h3,h4⟩:=G.full _ e
  rcases hq with h5 | h5
  ·rw [h3] at hf
   rw [← hf] at h5
   cases h5
  ·refine h5.1 ?_
   rw [← hF]
   unfold fr
   rw [h4]
   rfl
 ·have h3:=((G.shelf _ hsh).2 (by rw [(G.rest hh).1]; intro e; cases e)).1
  simp only [List.length_append,List.length_singleton] at hlen
  rcases hq with h5 | ⟨h5,h6 | h6⟩
  ·rw [h3] at hf
   rw [← hf] at h5
   cases h5
  ·omega
  ·rw [hh] at h6
   cases h6
theorem p53 (X:Cx c mn cp st g k t)(hpc:t.pc=53):∃ t' g' st',Res c mn cp st g k t t' g' st':=by
 have hA:=X.at_
 unfold At at hA
 rw [hpc] at hA
 have hcpu:=X.cpu
 have hw0:=X.w0 (by omega) (by omega)
 have hC:=X.C
 have hS:=X.S
 have hO:=X.O
 have G:=X.I.G
 obtain ⟨h1,h2,h3,h4,⟨iu,f,hK,hiu,h5,h6⟩,h7⟩:=hA
 have hs:Zba c mn cp g t=if fr st (sn t)=t.F∧ct c st (sn t)=t.K then some ({ t with fin:=1 },(g.set (ZbU c (sn t)) (on t+1)).set (ZbU c (sn t)+1) (Zat (iu - 1) c.O f true)) else some ({ t with pc:=50 },g):=by
  rw [Zb3 (by omega) (by omega)]
  unfold ZaD
  rw [hpc]
  refine (Zai h2).trans ((Zbm h3).trans ?_)
  have hk:=Zbd (iu:=iu) (ob:=c.O) (f:=f) (x:=fun _ _ fz=>ZgD c g t (sn t) (on t) fz fz (fun _=>{ t with fin:=1 }) fun _=>{ t with pc:=50 }) hiu hO.1 hO.2
  rw [← hK] at hk
  rw [hpc] at hk
  refine hk.trans ?_
  unfold ZgD
  have hk:=Zbd (iu:=iu) (ob:=c.O) (f:=f) (x:=fun iu ob f'=>need (f'=f∧1≤iu) (Zf3 g (ZbU c (sn t)) t.F t.K (on t+1) (Zat (iu - 1) ob f true) { t with fin:=1 } { t with pc:=50 })) hiu hO.1 hO.2
  rw [← hK] at hk
  rw [hpc] at hk
  refine hk.trans ((Zag ⟨rfl,h5⟩).trans ?_)
  exact Zcv (X.rfr (Zau h2)) (X.rct (Zau h2))
 have hlv:=Zfl G (h1.loc G (o:=on t) (by simp)) h1.ms
 have hft:=Zcq G h1.at_
 simp only [List.length_singleton] at hft
 have hb:base c st t=92:=by
  unfold base
  rw [hpc]
  rfl
 by_cases hc:fr st (sn t)=t.F∧ct c st (sn t)=t.K
 ·rw [if_pos hc] at hs
  obtain ⟨e1,e2⟩:=Zrv X hlv hK hiu hc.2
  have hM:=Znj X h1 h7 e1 e2 hc.1 hlv (h6.imp id fun h=>⟨h.1,.inl h.2⟩)
  have hR:∀ j,j≠k→ZaO c j none none st (mvO st (sn t) (.ZaB k) .first [on t] []):=fun j hj=>ZbC (k:=k) hj (fun _ e=>by cases e; rfl) (fun _ e=>by cases e) (fun x e=>by rcases e with e | e <;> cases e) (fun e=>by cases e) (fun e=>by cases e) (fun _ hfz hlen=>by
   simp only [List.length_append,List.length_singleton] at hlen
   rcases h6 with h6 | h6
   ·rw [hfz,h6] at e2
    cases e2
   ·omega)
  have holb:(mvO st (sn t) (.ZaB k) .first [on t] []).ol (sn t) .first=on t::st.ol (sn t) .first:=ZcD
  refine Res.ZoD X (mvO st (sn t) (.ZaB k) .first [on t] []) (hx:=none) (px:=none) hs rfl rfl (ZbB G hM) hR rfl rfl rfl rfl ⟨h1.ms,fun x => ?_,h1.ch⟩ (X.ZcF (by rw [hpc]; decide)) ?_ ?_ ?_ ?_
  ·by_cases e:x=sn t
   ·rw [e,Zci (fun e=>by cases e)]
    split <;> rfl
   ·rw [ZbP (fun e2=>e e2.1) (fun e2=>e e2.1),h1.ob,if_neg e]
    split <;> rfl
  ·refine ZcU X (Zau h2) (fun i hi hi2 => ?_) ?_ ?_
   ·refine Zb8 i (fun x e=>⟨(fun e2=>by cases e2),fun e2=>by cases e2⟩) (fun x e=>.inl ?_)
    rintro rfl
    rcases e with e | e
    ·exact hi e
    ·exact hi2 e
   ·unfold fr
    rw [holb]
    rfl
   ·rw [ZbW (st:=mvO st (sn t) (.ZaB k) .first [on t] []) hlv e2,holb,List.length_cons]
    congr 1
    omega
  ·exact Zal (Zal X.W (by have:=ZdF h3; omega)) (ZcS (by omega) hO.2)
  ·refine ZnV X (Zau h2) hR rfl rfl (fun _=>rfl) (fun _ _=>rfl) ?_
   show 0+25+(2 * c.S+33) * lvN st (sn t)≤pot c st t+_
   unfold pot
   omega
  ·rw [if_neg (X.ZjF (by rw [hpc]; decide))]
   exact Za7 (fun o ho=>by rw [hM.at_ o ho]; intro e; cases e) (fun e=>by cases e)
 ·rw [if_neg hc] at hs
  refine Res.read X (t':={ t with pc:=50 }) (pc:=53) (pc':=50) hpc rfl rfl hs ?_ rfl rfl rfl hw0 ?_
  ·unfold At
   exact ⟨h1,h2,h3⟩
  ·have:=Zrb hc rfl (by omega)
   show 95+0+1≤pot c st t
   unfold pot
   omega
theorem p54 (X:Cx c mn cp st g k t)(hpc:t.pc=54):∃ t' g' st',Res c mn cp st g k t t' g' st':=by
 have hA:=X.at_
 unfold At at hA
 rw [hpc] at hA
 have hcpu:=X.cpu
 have hw0:=X.w0 (by omega) (by omega)
 have hC:=X.C
 have hS:=X.S
 have hO:=X.O
 have G:=X.I.G
 obtain ⟨h1,h2,h3,h4,⟨iu,f,hK,hiu,h5,rfl⟩,h7⟩:=hA
 have hs:Zba c mn cp g t=if fr st (sn t)=t.F∧ct c st (sn t)=t.K then some ({ t with pc:=60 },(g.set (ZbU c (sn t)) (on t+1)).set (ZbU c (sn t)+1) (Zat (iu - 1) c.O true true)) else some ({ t with pc:=50 },g):=by
  rw [Zb3 (by omega) (by omega)]
  unfold ZaD
  rw [hpc]
  refine (Zai h2).trans ((Zbm h3).trans ?_)
  unfold ZgD
  have hk:=Zbd (iu:=iu) (ob:=c.O) (f:=false) (x:=fun iu ob f'=>need (f'=false∧1≤iu) (Zf3 g (ZbU c (sn t)) t.F t.K (on t+1) (Zat (iu - 1) ob true true) { t with pc:=60 } { t with pc:=50 })) hiu hO.1 hO.2
  rw [← hK] at hk
  refine hk.trans ((Zag ⟨rfl,h5⟩).trans ?_)
  exact Zcv (X.rfr (Zau h2)) (X.rct (Zau h2))
 have hlv:=Zfl G (h1.loc G (o:=on t) (by simp)) h1.ms
 have hft:=Zcq G h1.at_
 simp only [List.length_singleton] at hft
 have hb:base c st t=92:=by
  unfold base
  rw [hpc]
  rfl
 by_cases hc:fr st (sn t)=t.F∧ct c st (sn t)=t.K
 ·rw [if_pos hc] at hs
  obtain ⟨e1,e2⟩:=Zrv X hlv hK hiu hc.2
  have hol:st.ol (sn t) .first=[]:=ZkG (by have:=hc.1; unfold fr at this; omega)
  have hown:st.own (sn t) = .full:=by
   rcases X.I.ZlY hO.1 hlv e2 with h | h | ⟨j,h⟩
   ·exact h.1
   ·exact absurd hol h.2
   ·exact absurd hol h.2.2
  have hMS:MvS c cp st .full (.mine k) [sn t] []:={
   ne:=fun e=>by cases e
   src:=fun e=>by cases e
   at_:=Zbn hown
   nd:=by simp
   ad:=⟨(fun e=>by cases e),fun e=>by cases e⟩
   bd:=fun e=>by cases e
   lv:=Zbn hlv
   k:=fun x e=>by rcases e with e | e | e | e <;> cases e; exact X.kC
   one:=fun x e=>by rw [h1.ms]; simp
   fu:=fun e=>by cases e
   sh:=fun e=>by cases e
   hp:=fun x e=>by rcases e with e | e | e <;> cases e
   oh:=fun x e=>by cases e
   cP:=fun x e=>by rcases e with e | e <;> cases e
   cS:=fun e=>by cases e
   cap:=fun x e=>by cases e }
  obtain ⟨s1,hs1⟩:∃ s1,s1=mvS st .full (.mine k) [sn t] []:=⟨_,rfl⟩
  have G1:Zbc c mn cp s1:=by rw [hs1]; exact ZbY G hMS
  have hown1:s1.own (sn t) = .mine k:=by rw [hs1]; exact if_pos (by simp)
  obtain ⟨s2,hs2⟩:∃ s2,s2=Zbr s1 (sn t) true true:=⟨_,rfl⟩
  have G2:Zbc c mn cp s2:=by rw [hs2]; exact Zc9 G1 hown1 (fun e=>by cases e)
  have hlv2:s2.lv (sn t)=true:=by rw [hs2]; exact if_pos rfl
  have hfz2:s2.frz (sn t)=true:=by rw [hs2]; exact if_pos rfl
  have hol2:s2.ol=st.ol:=by rw [hs2,hs1]; rfl
  have hlk2:s2.lk=st.lk:=by rw [hs2,hs1]; rfl
  have hloc2:s2.loc=st.loc:=by rw [hs2,hs1]; rfl
  have hown2:s2.own (sn t) = .mine k:=by rw [hs2]; exact hown1
  have hsl2:s2.sl=s1.sl:=by rw [hs2]; rfl
  have hM:MvO c s2 (sn t) (.ZaB k) .first [on t] []:=MvO.of G2 rfl (fun e=>by cases e) (by rw [hol2]; exact h1.at_) (fun e=>by cases e) (fun _ e=>by cases e) (fun _=>⟨by
   show _=ZaR (ZcP (s2.ol (sn t) .first) (-1)) _ _
   rw [hlk2,h7,hol2,hol,h4]
   rfl,trivial⟩) (fun e _=>by rw [hown2] at e; cases e) (fun _ _ e=>by cases e) (fun x e=>hlv2) (fun _ e=>by rw [hown2] at e; cases e)
  have R1:∀ j,j≠k→ZaO c j none none st s1:=fun j hj=>by rw [hs1]; exact ZbZ (k:=k) hj (fun _ e=>by rcases e with e | e <;> cases e) (fun _ e=>by rcases e with e | e <;> cases e; rfl) (fun x e=>by rcases e with e | e <;> cases e) (fun x e=>by rcases e with e | e <;> cases e) (fun _ e=>by cases e) (fun e=>by cases e) (fun e=>by cases e) (fun x e=>by cases e)
  have R2:∀ j,j≠k→ZaO c j none none s1 s2:=fun j hj=>by rw [hs2]; exact Zda hj hown1
  have R3:∀ j,j≠k→ZaO c j none none s2 (mvO s2 (sn t) (.ZaB k) .first [on t] []):=fun j hj=>ZbC (k:=k) hj (fun _ e=>by cases e; rfl) (fun _ e=>by cases e) (fun x e=>by rcases e with e | e <;> cases e) (fun e=>by cases e) (fun e=>by cases e) (fun _ hfz=>by rw [hfz2] at hfz; cases hfz)
  have hR:∀ j,j≠k→ZaO c j none none st (mvO s2 (sn t) (.ZaB k) .first [on t] []):=fun j hj=>((R1 j hj).trans G G1 (R2 j hj)).trans G G2 (R3 j hj)
  have holb:(mvO s2 (sn t) (.ZaB k) .first [on t] []).ol (sn t) .first=[on t]:=by rw [ZcD,hol2,hol]; rfl
  refine Res.eff X (mvO s2 (sn t) (.ZaB k) .first [on t] []) (hx:=none) (px:=none) (t':={ t with pc:=60 }) (pc:=54) (pc':=60) hpc rfl rfl hs rfl rfl rfl (.inl ⟨hw0,by decide⟩) (ZbB G2 hM) hR (by rw [hs2,hs1]; rfl) (by rw [hs2,hs1]; rfl) (by rw [hs2,hs1]; rfl) (by rw [hs2,hs1]; rfl) ?_ (fun e => ?_) ?_ ?_ ?_ (fun x y => ?_) (fun e=>absurd e (X.ZjF (by rw [hpc]; decide)))
  ·unfold At
   refine ⟨⟨?_,fun x => ?_,?_⟩,h2,hlv2,hfz2⟩
   ·show s2.sl (.mine k)=[sn t]
    rw [hsl2,hs1,Zdt,h1.ms]
    rfl
   ·show (mvO s2 (sn t) (.ZaB k) .first [on t] []).ol x (.ZaB k)=_
    by_cases e:x=sn t
    ·rw [e,Zci (fun e=>by cases e)]
     split <;> rfl
    ·rw [ZbP (fun e2=>e e2.1) (fun e2=>e e2.1),hol2,h1.ob,if_neg e]
     split <;> rfl
   ·show s2.sl (.chain k)=[]
    rw [hsl2,hs1,Za1 (fun e=>by cases e) (fun e=>by cases e)]
    exact h1.ch
  ·rw [hs2,hs1] at e
   exact absurd e (X.ZcF (by rw [hpc]; decide))
  ·refine ZcU X (Zau h2) (fun i hi hi2 => ?_) ?_ ?_
   ·rw [Zb8 i (fun x e=>⟨(fun e2=>by cases e2),fun e2=>by cases e2⟩) (fun x e=>.inl ?_),hs2,ZdX i hi2,hs1]
    ·exact ZcM i (fun x e=>⟨(fun e2=>by cases e2),fun e2=>by cases e2⟩) (fun x e=>⟨(fun e2=>by cases e2),fun e2=>by cases e2⟩) (fun _=>⟨(fun e=>by cases e),fun e=>by cases e⟩)
    ·rintro rfl
     rcases e with e | e
     ·exact hi e
     ·exact hi2 e
   ·unfold fr
    rw [holb]
    rfl
   ·rw [ZbW (st:=mvO s2 (sn t) (.ZaB k) .first [on t] []) hlv2 hfz2,holb]
    rw [e1,hol]
    rfl
  ·exact Zal (Zal X.W (by have:=ZdF h3; omega)) (ZcS (by omega) hO.2)
  ·refine ZnV X (Zau h2) hR (by rw [hs2,hs1]; rfl) (by rw [hs2,hs1]; rfl) (fun _ => ?_) (fun x hx => ?_) ?_
   ·show s2.sl _=_
    rw [hsl2,hs1]
    exact Za1 (fun e=>by cases e) (fun e=>by cases e)
   ·show s2.lv x=_
    rw [hs2,hs1]
    exact if_neg hx
   ·have e3:lvN (mvO s2 (sn t) (.ZaB k) .first [on t] []) (sn t)=lvN st (sn t):=by
     unfold lvN
     rw [show (mvO s2 (sn t) (.ZaB k) .first [on t] []).lv (sn t)=true from hlv2,hlv]
    rw [e3]
    have hp:pot c (tick (mvO s2 (sn t) (.ZaB k) .first [on t] []) none none k (some { t with pc:=60 })) { t with pc:=60 }=67:=by
     unfold pot base pen
     simp
    show pot c _ { t with pc:=60 }+25+_≤pot c st t+_
    rw [hp]
    unfold pot
    omega
  ·rw [Za7 (fun o ho=>by rw [hM.at_ o ho]; intro e; cases e) (fun e=>by cases e),hloc2]
 ·rw [if_neg hc] at hs
  refine Res.read X (t':={ t with pc:=50 }) (pc:=54) (pc':=50) hpc rfl rfl hs ?_ rfl rfl rfl hw0 ?_
  ·unfold At
   exact ⟨h1,h2,h3⟩
  ·have:=Zrb hc rfl (by omega)
   show 95+0+1≤pot c st t
   unfold pot
   omega
theorem Zhv {α:Type}[DecidableEq α]{p q:α→Bool}{s:α}:∀ {l:List α},l.Nodup→(∀ x∈l,x≠s→p x=true→q x=true)→l.countP p≤l.countP q+1
 | [],_,_=>by simp
 | x::l,hn,h=>by
   simp only [List.countP_cons]
   by_cases e:x=s
   ·subst e
    have:=Zbh (l:=l) (p:=p) (q:=q) fun y hy hp=>h y (List.mem_cons_of_mem _ hy) (fun e=>(List.nodup_cons.1 hn).1 (e ▸ hy)) hp
    split <;> split <;> omega
   ·have ih:=Zhv (s:=s) (List.nodup_cons.1 hn).2 (fun y hy=>h y (List.mem_cons_of_mem _ hy))
    by_cases hp:p x=true
    ·rw [if_pos hp,if_pos (h x List.mem_cons_self e hp)]
     omega
    ·rw [if_neg hp]
     omega
theorem p56 (X:Cx c mn cp st g k t)(hpc:t.pc=56):∃ t' g' st',Res c mn cp st g k t t' g' st':=by
 have hA:=X.at_
 unfold At at hA
 rw [hpc] at hA
 have hcpu:=X.cpu
 have hw0:=X.w0 (by omega) (by omega)
 have hC:=X.C
 have hS:=X.S
 have hO:=X.O
 have G:=X.I.G
 obtain ⟨h1,h2,h3,h4,⟨iu,f,hK,hiu,h5,rfl⟩,h7,hl⟩:=hA
 have hs:Zba c mn cp g t=if fr st (sn t)=t.F∧ct c st (sn t)=t.K then some ({ t with pc:=58,F:=on t+1,K:=Zat (iu - 1) c.O false true },(g.set (ZbU c (sn t)) (on t+1)).set (ZbU c (sn t)+1) (Zat (iu - 1) c.O false true)) else some ({ t with pc:=57 },g):=by
  rw [Zb3 (by omega) (by omega)]
  unfold ZaD
  rw [hpc]
  refine (Zai h2).trans ((Zbm h3).trans ?_)
  unfold ZgD
  have hk:=Zbd (iu:=iu) (ob:=c.O) (f:=false) (x:=fun iu ob f'=>need (f'=false∧1≤iu) (Zf3 g (ZbU c (sn t)) t.F t.K (on t+1) (Zat (iu - 1) ob false true) { t with pc:=58,F:=on t+1,K:=Zat (iu - 1) ob false true } { t with pc:=57 })) hiu hO.1 hO.2
  rw [← hK] at hk
  refine hk.trans ((Zag ⟨rfl,by omega⟩).trans ?_)
  exact Zcv (X.rfr (Zau h2)) (X.rct (Zau h2))
 have hlv:=Zfl G (h1.loc G (o:=on t) (by simp)) h1.ms
 have hft:=Zcq G h1.at_
 simp only [List.length_singleton] at hft
 have hb:base c st t=91:=by
  unfold base
  rw [hpc]
  rfl
 by_cases hc:fr st (sn t)=t.F∧ct c st (sn t)=t.K
 ·rw [if_pos hc] at hs
  obtain ⟨e1,e2⟩:=Zrv X hlv hK hiu hc.2
  have hne:st.ol (sn t) .first≠[]:=by
   intro e
   have:=hc.1
   unfold fr at this
   rw [e] at this
   change 0=t.F at this
   omega
  have hown:st.own (sn t) = .shelf:=by
   rcases X.I.ZlY hO.1 hlv e2 with h | h | ⟨j,h⟩
   ·exact absurd h.2 hne
   ·exact h.1
   ·have h8:=h.2.1
    rw [hl.hold] at h8
    cases h8
    have:=(G.sm (.mine k) rfl (sn t)).2 h.1
    rw [h1.ms] at this
    cases this
  have hM:=Znj X h1 h7 e1 e2 hc.1 hlv (.inr ⟨by omega,.inr hl.hold⟩)
  have hR:∀ j,j≠k→ZaO c j none none st (mvO st (sn t) (.ZaB k) .first [on t] []):=fun j hj=>ZbC (k:=k) hj (fun _ e=>by cases e; rfl) (fun _ e=>by cases e) (fun x e=>by rcases e with e | e <;> cases e) (fun e=>by cases e) (fun e=>by cases e) (fun _ hfz hlen=>.inr (.inr ⟨hl.hold,hown⟩))
  have holb:(mvO st (sn t) (.ZaB k) .first [on t] []).ol (sn t) .first=on t::st.ol (sn t) .first:=ZcD
  have hfr':fr (mvO st (sn t) (.ZaB k) .first [on t] []) (sn t)=on t+1:=by
   unfold fr
   rw [holb]
   rfl
  have hct':ct c (mvO st (sn t) (.ZaB k) .first [on t] []) (sn t)=Zat (iu - 1) c.O false true:=by
   rw [ZbW (st:=mvO st (sn t) (.ZaB k) .first [on t] []) hlv e2,holb,List.length_cons]
   congr 1
   omega
  refine Res.eff X (mvO st (sn t) (.ZaB k) .first [on t] []) (hx:=none) (px:=none) (t':={ t with pc:=58,F:=on t+1,K:=Zat (iu - 1) c.O false true }) (pc:=56) (pc':=58) hpc rfl rfl hs rfl rfl rfl (.inl ⟨hw0,by decide⟩) (ZbB G hM) hR rfl rfl rfl rfl ?_ (fun _=>⟨rfl,hw0⟩) ?_ ?_ ?_ (Za7 (fun o ho=>by rw [hM.at_ o ho]; intro e; cases e) (fun e=>by cases e))
  ·unfold At
   refine ⟨⟨h1.ms,fun x => ?_,h1.ch⟩,h2,hown,?_,⟨hfr'.symm,hct'.symm⟩,hl.hold,hl.cut,hl.held,?_⟩
   ·show (mvO st (sn t) (.ZaB k) .first [on t] []).ol x (.ZaB k)=_
    by_cases e:x=sn t
    ·rw [e,Zci (fun e=>by cases e)]
     split <;> rfl
    ·rw [ZbP (fun e2=>e e2.1) (fun e2=>e e2.1),h1.ob,if_neg e]
     split <;> rfl
   ·show ((mvO st (sn t) (.ZaB k) .first [on t] []).ol (sn t) .first).length=c.O
    rw [holb,List.length_cons]
    omega
   ·refine Nat.le_trans (Zhv (s:=sn t) (q:=fun s=>(st.ol s .first).length==c.O && !st.frz s) (G.sd .shelf rfl) fun x hx hne he => ?_) (Nat.succ_le_succ hl.em)
    have e5:(mvO st (sn t) (.ZaB k) .first [on t] []).ol x .first=st.ol x .first:=ZbP (fun e2=>hne e2.1) (fun e2=>hne e2.1)
    have he2:(((mvO st (sn t) (.ZaB k) .first [on t] []).ol x .first).length==c.O && !st.frz x)=true:=he
    rw [e5] at he2
    exact he2
  ·refine ZcU X (Zau h2) (fun i hi hi2 => ?_) hfr' hct'
   refine Zb8 i (fun x e=>⟨(fun e2=>by cases e2),fun e2=>by cases e2⟩) (fun x e=>.inl ?_)
   rintro rfl
   rcases e with e | e
   ·exact hi e
   ·exact hi2 e
  ·exact Zal (Zal X.W (by have:=ZdF h3; omega)) (ZcS (by omega) hO.2)
  ·refine ZnV X (Zau h2) hR rfl rfl (fun _=>rfl) (fun _ _=>rfl) ?_
   show 9+c.S+0+25+(2 * c.S+33) * lvN st (sn t)≤pot c st t+_
   unfold pot
   omega
 ·rw [if_neg hc] at hs
  refine Res.read X (t':={ t with pc:=57 }) (pc:=56) (pc':=57) hpc rfl rfl hs ?_ rfl rfl rfl hw0 ?_
  ·unfold At
   exact ⟨h1,h2,h3,hl⟩
  ·have:=Zrb hc rfl (by omega)
   show 96+0+1≤pot c st t
   unfold pot
   omega
end
end Go.Proofs.YtfcpdlbkmkhhcaaGreatDoor.Cv

namespace Go.Proofs.YtfcpdlbkmkhhcaaGreatDoor.Cv
open See Cw
section
variable {c:Ch}{mn cp:Nat}{st st1 st':St}{g g':List Nat}{k:Nat}{t t':Tk}
theorem ZhK {s:Nat}{p q:List Nat}{y:Own}(h1:y≠.mine k)(h2:y≠.shelf):(off st k p s q).sl y=st.sl y:=by
 unfold off
 dsimp only
 rw [if_neg h1,if_neg h2]
theorem Zlc {s:Nat}{p q:List Nat}(i:Ix)(h1:i≠.shelf)(h2:∀ x,i = .nx x→p.getLast?≠some x):val c (off st k p s q) i=val c st i:=by
 cases i with
 | hd x=>exact ZbX (ZhK (fun e=>by cases e) (fun e=>by cases e)) fun _=>rfl
 | pd x=>show pw ((off st k p s q).sl _)=pw (st.sl _); rw [ZhK (fun e=>by cases e) (fun e=>by cases e)]
 | shelf=>exact absurd rfl h1
 | nx x=>exact if_neg (h2 x rfl)
 | _=>rfl
theorem Ze7 {s:Nat}{p q:List Nat}:(off st k p s q).sl .shelf=p++q:=by
 unfold off
 dsimp only
 rw [if_neg (fun e=>by cases e),if_pos rfl]
theorem ZlK {s:Nat}{p q:List Nat}:(off st k p s q).sl (.mine k)=[s]:=if_pos rfl
theorem Zpz {s x:Nat}{p q:List Nat}:AO k st (off st k p s q) x:=by
 by_cases e:x=s
 ·exact .inr (.inr (.inl (if_pos e)))
 ·exact .inl (if_neg e)
theorem ZnW {s:Nat}{p q:List Nat}{t':Tk}(X:Cx c mn cp st g k t)(h:st.sl .shelf=p++s::q)(hh:st.hold=some k)(hp:pot c (tick (off st k p s q) none none k (some t')) t'+1≤pot c st t):Phi c (tick (off st k p s q) none none k (some t'))+1≤Phi c st :=
 Zee X (fun j hj=>Zim X.I.G hj h hh) rfl rfl (fun _=>ZhK (fun e=>by cases e) (fun e=>by cases e)) rfl rfl rfl hp
theorem p47 (X:Cx c mn cp st g k t)(hpc:t.pc=47):∃ t' g' st',Res c mn cp st g k t t' g' st':=by
 have hA:=X.at_
 unfold At at hA
 rw [hpc] at hA
 have hcpu:=X.cpu
 have hw0:=X.w0 (by omega) (by omega)
 have hC:=X.C
 have hS:=X.S
 have hO:=X.O
 have G:=X.I.G
 obtain ⟨⟨l,h1,h2⟩,h3,h4,h5,h6,⟨r,h7,h8⟩,h9⟩:=hA
 have hs:Zba c mn cp g t=some ({ t with pc:=48 },g.set (ZbR c) t.N):=by
  rw [ZbE (by omega) (by omega)]
  unfold Zas
  rw [hpc]
  exact ZbG X.Zff
 have hlt:t.N<18446744073709551616:=by
  rw [h8]
  exact Zrp fun s hs=>by
   have:=Zdy G (x:=.shelf) rfl (s:=s) (by rw [h7]; exact List.mem_cons_of_mem _ hs)
   omega
 have hh:=h6.held
 have hhl:(sn t::r).length=r.length+1:=rfl
 rw [h7,hhl] at hh
 refine Res.eff X (off st k [] (sn t) r) (hx:=none) (px:=none) (t':={ t with pc:=48 }) (pc:=47) (pc':=48) hpc rfl rfl hs rfl rfl rfl (.inl ⟨hw0,by decide⟩) (ZlJ G h7 h1.ms X.kC h6.hold (fun y e=>by rw [h6.cut] at e; cases e; rfl) hS.2) (fun j hj=>Zim G hj h7 h6.hold) rfl rfl rfl rfl ?_ (fun _=>⟨rfl,hw0⟩) ?_ (Zal X.W hlt) (ZnW X h7 h6.hold ?_) (fun _ _=>Iff.rfl) (fun _ s=>Zpz)
 ·unfold At
  refine ⟨⟨l,⟨ZlK,h1.ob,?_⟩,h2⟩,?_,h4,h5,⟨h6.hold,rfl,?_,?_⟩,h9⟩
  ·exact (ZhK (st:=st) (k:=k) (s:=sn t) (p:=[]) (q:=r) (y:=.chain k) (fun e=>by cases e) (fun e=>by cases e)).trans h1.ch
  ·exact (ZhK (st:=st) (k:=k) (s:=sn t) (p:=[]) (q:=r) (y:=.head k) (fun e=>by cases e) (fun e=>by cases e)).trans h3
  ·show st.held+0=r.length+1
   omega
  ·refine Nat.le_trans ?_ h6.em
   have e1:ZfV c (tick (off st k [] (sn t) r) none none k (some { t with pc:=48 }))=r.countP fun s=>(st.ol s .first).length==c.O && !st.frz s:=rfl
   rw [e1]
   unfold ZfV
   rw [h7,List.countP_cons]
   omega
 ·refine X.E.set (i:=.shelf) trivial (fun j _ hj => ?_) ?_
  ·rw [Zbt]
   exact Zlc j hj (fun x _ e=>by cases e)
  ·show sw r=t.N
   exact h8.symm
 ·show 21+0+1≤pot c st t
  have hb:base c st t=22:=by
   unfold base
   rw [hpc]
   rfl
  unfold pot
  omega
theorem Zm7 (X:Cx c mn cp st g k t){pc pc':Int}{e:Nat}(hpc:t.pc=pc)(hpcs:pc=67∧pc'=68∧e=1∨pc=102∧pc'=103∧e=0)(h1:Has st k [] 0 [] [])(h2:Zan c t)(h4:Full c st (sn t))(h5:FK c st t (sn t))(h6:LkS c mn st k none 0 0 e){p q:List Nat}(h7:st.sl .shelf=p++sn t::q)(h8:t.to_=ZeC p)(h9:t.N=sw q)
 (hs:Zba c mn cp g t=if t.to_ = -1 then some ({ t with pc:=pc' },g.set (ZbR c) t.N) else some ({ t with pc:=pc' },g.set (Zgb c t.to_.toNat) t.N)) (hpot:base c st t=base c st { t with pc:=pc' }+1):∃ t' g' st',Res c mn cp st g k t t' g' st':=by
 have hcpu:=X.cpu
 have hw0:=X.w0 (by omega) (by omega)
 have hC:=X.C
 have hS:=X.S
 have hO:=X.O
 have G:=X.I.G
 have hsh:=Zbo G h7
 have hcut:st.cut=none:=h6.cut
 obtain ⟨hlv,hx⟩:=G.shelf _ hsh
 have hfz:=(hx (by rw [hcut]; intro e; cases e)).1
 have hlt:t.N<18446744073709551616:=by
  rw [h9]
  exact Zrp fun s hs=>by
   have:=Zdy G (x:=.shelf) rfl (s:=s) (by rw [h7]; simp [hs])
   omega
 have hh:=h6.held
 rw [h7] at hh
 simp only [List.length_append,List.length_cons] at hh
 have hG:=ZlJ G h7 h1.ms X.kC h6.hold (fun y e=>by rw [hcut] at e; cases e) hS.2
 have hem:ZfV c (tick (off st k p (sn t) q) none none k (some { t with pc:=pc' }))+1=ZfV c st:=by
  have e1:ZfV c (tick (off st k p (sn t) q) none none k (some { t with pc:=pc' }))=(p++q).countP fun s=>(st.ol s .first).length==c.O && !st.frz s:=by
   show ((off st k p (sn t) q).sl .shelf).countP _=_
   rw [Ze7]
   rfl
  rw [e1]
  unfold ZfV
  rw [h7,List.countP_append,List.countP_append,List.countP_cons]
  have h4':(st.ol (sn t) .first).length=c.O:=h4
  have:((st.ol (sn t) .first).length==c.O && !st.frz (sn t))=true:=by
   rw [hfz,h4']
   simp
  rw [if_pos this]
  omega
 have hem2:=h6.em
 have hE:∀ x:Option Tk,Enc c (tick (off st k p (sn t) q) none none k x) (if t.to_ = -1 then g.set (ZbR c) t.N else g.set (Zgb c t.to_.toNat) t.N):=by
  intro x
  split
  ·rename_i hto
   have hp:p=[]:=Zny (by rw [← h8]; exact hto)
   subst hp
   refine X.E.set (i:=.shelf) trivial (fun j _ hj => ?_) ?_
   ·rw [Zbt]
    exact Zlc j hj (fun x _ e=>by cases e)
   ·show sw ((off st k [] (sn t) q).sl .shelf)=t.N
    rw [Ze7,h9]
    rfl
  ·rename_i hto
   obtain ⟨p',a,hp,ha⟩:=Zfz (l:=p) (by rw [← h8]; exact hto)
   have hto2:t.to_.toNat=a:=by omega
   rw [hto2]
   have haS:a<c.S:=Zdy G (x:=.shelf) rfl (by rw [h7,hp]; simp)
   have hgl:p.getLast?=some a:=by rw [hp]; simp
   refine X.E.set (i:=.nx a) haS (fun j _ hj => ?_) ?_
   ·rw [Zbt]
    by_cases hjs:j = .shelf
    ·subst hjs
     show sw ((off st k p (sn t) q).sl .shelf)=sw (st.sl .shelf)
     rw [Ze7,h7]
     cases p with
     | nil =>
       cases p' <;> cases hp
     | cons b p=>rfl
    ·refine Zlc j hjs (fun x e e2 => ?_)
     rw [hgl] at e2
     cases e2
     exact hj e
   ·show (if p.getLast?=some a then sw q else st.nx a)=t.N
    rw [if_pos hgl,h9]
 have hs2:Zba c mn cp g t=some ({ t with pc:=pc' },if t.to_ = -1 then g.set (ZbR c) t.N else g.set (Zgb c t.to_.toNat) t.N):=by
  rw [hs]
  split <;> rfl
 have hW:W64 (if t.to_ = -1 then g.set (ZbR c) t.N else g.set (Zgb c t.to_.toNat) t.N):=by
  split <;> exact Zal X.W hlt
 have hLk:LkS c mn (tick (off st k p (sn t) q) none none k (some { t with pc:=pc' })) k none 0 1 0:=by
  refine ⟨h6.hold,rfl,?_,by rcases hpcs with h | h <;> omega⟩
  show st.held+0=((off st k p (sn t) q).sl .shelf).length+1
  rw [Ze7,List.length_append]
  omega
 have hHas:Has (tick (off st k p (sn t) q) none none k (some { t with pc:=pc' })) k [sn t] (sn t) [] []:=by
  refine ⟨ZlK,fun x=>(h1.ob x).trans ?_,?_⟩
  ·split <;> split <;> rfl
  ·exact (ZhK (st:=st) (k:=k) (s:=sn t) (p:=p) (q:=q) (y:=.chain k) (fun e=>by cases e) (fun e=>by cases e)).trans h1.ch
 refine Res.eff X (off st k p (sn t) q) (hx:=none) (px:=none) (t':={ t with pc:=pc' }) (pc:=pc) (pc':=pc') hpc rfl ?_ hs2 rfl rfl rfl (.inl ⟨hw0,by omega⟩) hG (fun j hj=>Zim G hj h7 h6.hold) rfl rfl rfl rfl ?_ (fun _=>⟨?_,hw0⟩) (hE _) hW (ZnW X h7 h6.hold ?_) (fun _ _=>Iff.rfl) (fun _ s=>Zpz)
 ·rcases hpcs with ⟨rfl,rfl,-⟩ | ⟨rfl,rfl,-⟩ <;> rfl
 ·rcases hpcs with ⟨rfl,rfl,-⟩ | ⟨rfl,rfl,-⟩
  ·unfold At
   exact ⟨hHas,h2,⟨hlv,hfz⟩,h4,h5,hLk⟩
  ·unfold At
   exact ⟨hHas,h2,⟨hlv,hfz⟩,h4,h5,hLk⟩
 ·rcases hpcs with ⟨rfl,rfl,-⟩ | ⟨rfl,rfl,-⟩ <;> rfl
 ·have hb:base c (tick (off st k p (sn t) q) none none k (some { t with pc:=pc' })) { t with pc:=pc' }=base c st { t with pc:=pc' }:=by
   rcases hpcs with ⟨rfl,rfl,-⟩ | ⟨rfl,rfl,-⟩ <;> rfl
  have hp:pen c (tick (off st k p (sn t) q) none none k (some { t with pc:=pc' })) { t with pc:=pc' }=0:=by
   rcases hpcs with ⟨rfl,rfl,-⟩ | ⟨rfl,rfl,-⟩ <;> rfl
  unfold pot
  rw [hb,hp]
  omega
theorem p67 (X:Cx c mn cp st g k t)(hpc:t.pc=67):∃ t' g' st',Res c mn cp st g k t t' g' st':=by
 have hA:=X.at_
 unfold At at hA
 rw [hpc] at hA
 obtain ⟨h1,h2,h3,h4,h5,h6,p,q,h7,h8,h9⟩:=hA
 refine Zm7 X (pc':=68) hpc (.inl ⟨rfl,rfl,rfl⟩) h1 h2 h4 h5 h6 h7 h8 h9 ?_ ?_
 ·rw [Zb3 (by omega) (by omega)]
  unfold ZaD
  rw [hpc]
  show (if t.to_ = -1 then wr g (ZbR c) t.N _ else need (0≤t.to_∧t.to_<c.S) (wr g (Zgb c t.to_.toNat) t.N _))=_
  split
  ·exact ZbG X.Zff
  ·rename_i hto
   obtain ⟨p',a,hp,ha⟩:=Zfz (l:=p) (by rw [← h8]; exact hto)
   have haS:a<c.S:=Zdy X.I.G (x:=.shelf) rfl (by rw [h7,hp]; simp)
   refine (Zag (by omega)).trans (ZbG (X.rnx (s:=t.to_.toNat) (by omega)))
 ·unfold base
  rw [hpc]
  rfl
theorem Zud (X:Cx c mn cp st g k t)(hpc:t.pc=102):∃ t' g' st',Res c mn cp st g k t t' g' st':=by
 have hA:=X.at_
 unfold At at hA
 rw [hpc] at hA
 obtain ⟨h1,h6,h2,⟨p,q,h7,h8,h9⟩,h4,h5⟩:=hA
 refine Zm7 X (pc':=103) hpc (.inr ⟨rfl,rfl,rfl⟩) h1 h2 h4 h5 h6 h7 h8 h9 ?_ ?_
 ·rw [Zbb (by omega)]
  unfold Zaf
  rw [hpc]
  show (if t.to_ = -1 then wr g (ZbR c) t.N _ else need (0≤t.to_∧t.to_<c.S) (wr g (Zgb c t.to_.toNat) t.N _))=_
  split
  ·exact ZbG X.Zff
  ·rename_i hto
   obtain ⟨p',a,hp,ha⟩:=Zfz (l:=p) (by rw [← h8]; exact hto)
   have haS:a<c.S:=Zdy X.I.G (x:=.shelf) rfl (by rw [h7,hp]; simp)
   refine (Zag (by omega)).trans (ZbG (X.rnx (s:=t.to_.toNat) (by omega)))
 ·unfold base
  rw [hpc]
  rfl
theorem p92 (X:Cx c mn cp st g k t)(hpc:t.pc=92):∃ t' g' st',Res c mn cp st g k t t' g' st':=by
 have hA:=X.at_
 unfold At at hA
 rw [hpc] at hA
 have hcpu:=X.cpu
 have hw0:=X.w0 (by omega) (by omega)
 have hC:=X.C
 have hS:=X.S
 have hO:=X.O
 have G:=X.I.G
 obtain ⟨ch,h1,h2,h3,h4,h5,h6,h7,h8⟩:=hA
 have hs:Zba c mn cp g t=some ({ t with pc:=93 },g.set (ZbR c) (sn t+1)):=by
  rw [Zbb (by omega)]
  unfold Zaf
  rw [hpc]
  exact (Zai h2).trans (ZbG X.Zff)
 have hmine:=h1.own G
 have hM:MvS c cp st (.mine k) .shelf [sn t] []:={
  ne:=fun e=>by cases e
  src:=fun _=>h1.ms
  at_:=Zbn hmine
  nd:=by simp
  ad:=⟨(fun e=>by cases e),fun e=>by cases e⟩
  bd:=fun e=>by cases e
  lv:=Zbn h3.1
  k:=fun x e=>by rcases e with e | e | e | e <;> cases e
  one:=fun x e=>by rcases e with e | e <;> cases e
  fu:=fun e=>by cases e
  sh:=fun e=>⟨(by rw [h6.hold]; intro e; cases e),Zbn ⟨h3.2,h4⟩⟩
  hp:=fun x e=>by rcases e with e | e | e <;> cases e
  oh:=fun x e=>by cases e
  cP:=fun x e=>by rcases e with e | e <;> cases e
  cS:=fun e=>⟨h8,G.cS⟩
  cap:=fun x e=>by cases e }
 have hR:∀ j,j≠k→ZaO c j none none st (mvS st (.mine k) .shelf [sn t] []):=fun j hj=>ZbZ (k:=k) hj (fun _ e=>by rcases e with e | e <;> cases e; rfl) (fun _ e=>by rcases e with e | e <;> cases e) (fun x e=>by rcases e with e | e <;> cases e) (fun x e=>by rcases e with e | e <;> cases e) (fun _ e=>by cases e) (fun _=>h6.hold) (fun e=>by cases e) (fun x e=>by cases e)
 have hlb:(mvS st (.mine k) .shelf [sn t] []).sl .shelf=sn t::st.sl .shelf:=Zdt
 have hh:=h6.held
 have hem:=h6.em
 have hcl:ZfV c st≤(st.sl .shelf).length:=List.countP_le_length
 refine Res.eff X (mvS st (.mine k) .shelf [sn t] []) (hx:=none) (px:=none) (t':={ t with pc:=93 }) (pc:=92) (pc':=93) hpc rfl rfl hs rfl rfl rfl (.inl ⟨hw0,by decide⟩) (ZbY G hM) hR rfl rfl rfl rfl ?_ (fun _=>⟨rfl,hw0⟩) ?_ (Zal X.W (by have:=Zau h2; omega)) (Zee X hR rfl rfl (fun _=>Za1 (fun e=>by cases e) (fun e=>by cases e)) rfl rfl rfl ?_) (fun _ _=>Iff.rfl) (fun e=>absurd e (X.ZjF (by rw [hpc]; decide)))
 ·unfold At
  refine ⟨ch,⟨?_,fun x=>(h1.ob x).trans ?_,?_⟩,⟨h6.hold,h6.cut,?_,?_⟩,h7⟩
  ·exact ZcE (st:=st) (a:=.mine k) (b:=.shelf) (l1:=[sn t]) (l2:=[]) (fun e=>by cases e)
  ·split <;> split <;> rfl
  ·exact (Za1 (st:=st) (y:=.chain k) (a:=.mine k) (b:=.shelf) (l1:=[sn t]) (l2:=[]) (fun e=>by cases e) (fun e=>by cases e)).trans h1.ch
  ·show st.held+1=((mvS st (.mine k) .shelf [sn t] []).sl .shelf).length+0
   rw [hlb,List.length_cons]
   omega
  ·have e1:ZfV c (tick (mvS st (.mine k) .shelf [sn t] []) none none k (some { t with pc:=93 }))=(sn t::st.sl .shelf).countP fun s=>(st.ol s .first).length==c.O && !st.frz s:=by
    show ((mvS st (.mine k) .shelf [sn t] []).sl .shelf).countP _=_
    rw [hlb]
    rfl
   rw [e1,List.countP_cons]
   have e2:(st.sl .shelf).countP (fun s=>(st.ol s .first).length==c.O && !st.frz s)=ZfV c st:=rfl
   rw [e2]
   by_cases hf:Full c st (sn t)
   ·have:=h5 hf
    split <;> omega
   ·rw [if_neg]
    ·omega
    ·intro e
     rw [Bool.and_eq_true,beq_iff_eq] at e
     exact hf e.1
 ·refine X.E.set (i:=.shelf) trivial (fun j _ hj => ?_) ?_
  ·rw [Zbt]
   exact ZcM j (fun x e=>⟨(fun e2=>by cases e2),fun e2=>by cases e2⟩) (fun x e=>⟨(fun e2=>by cases e2),fun e2=>by cases e2⟩) (fun e=>absurd e hj)
  ·show sw ((mvS st (.mine k) .shelf [sn t] []).sl .shelf)=_
   rw [hlb]
   rfl
 ·have e1:cont c (mvS st (.mine k) .shelf [sn t] []) t.back t.cpu=cont c st t.back t.cpu:=by
   unfold cont
   rw [Za1 (fun e=>by cases e) (fun e=>by cases e)]
  show 2+cont c (mvS st (.mine k) .shelf [sn t] []) t.back t.cpu+0+1≤pot c st t
  have hb:base c st t=3+cont c st t.back t.cpu:=by
   unfold base
   rw [hpc]
   rfl
  rw [e1]
  unfold pot
  omega
theorem p76 (X:Cx c mn cp st g k t)(hpc:t.pc=76):∃ t' g' st',Res c mn cp st g k t t' g' st':=by
 have hA:=X.at_
 unfold At at hA
 rw [hpc] at hA
 have hcpu:=X.cpu
 have hw0:=X.w0 (by omega) (by omega)
 have hC:=X.C
 have hS:=X.S
 have hO:=X.O
 have G:=X.I.G
 obtain ⟨ch,h1,h2,h3,h4,h5,h6,h7⟩:=hA
 have hs:Zba c mn cp g t=some ({ t with pc:=77 },(g.set (ZbU c (sn t)) 0).set (ZbU c (sn t)+1) 0):=by
  rw [Zbb (by omega)]
  unfold Zaf
  rw [hpc]
  exact (Zai h2).trans ((Zax (X.rfr (Zau h2))).trans ((Zax (X.rct (Zau h2))).trans (Zag ⟨h5.1.symm,h5.2.symm⟩)))
 have hmine:=h1.own G
 obtain ⟨L,hL⟩:∃ L,L=st.ol (sn t) .first:=⟨_,rfl⟩
 have hall:∀ o,o<c.O→o∈L:=fun o ho=>by
  rw [hL]
  exact Zt9 (G.od _ .first rfl) (fun x hx=>(ZgX G (x:=.first) rfl hx).2) h4 ho
 have hM:MvO c st (sn t) .first (.ZaB k) L []:=MvO.of G rfl (fun e=>by cases e) (by rw [List.append_nil,hL]) (fun e=>by cases e) (fun _ e=>by cases e) (fun e=>by rcases e with e | ⟨_,e⟩ <;> cases e) (fun _ e=>by cases e) (fun e=>by rw [hmine] at e; cases e) (fun x e=>h3.1) (fun _ _ e=>by cases e)
 obtain ⟨s1,hs1⟩:∃ s1,s1=mvO st (sn t) .first (.ZaB k) L []:=⟨_,rfl⟩
 have G1:Zbc c mn cp s1:=by rw [hs1]; exact ZbB G hM
 have hmine1:s1.own (sn t) = .mine k:=by rw [hs1]; exact hmine
 have hloc1:∀ o,o<c.O→s1.loc (sn t) o = .ZaB k:=fun o ho=>by
  rw [hs1]
  exact if_pos ⟨rfl,hall o ho⟩
 have R1:∀ j,j≠k→ZaO c j none none st s1:=fun j hj=>by rw [hs1]; exact ZbC (k:=k) hj (fun _ e=>by cases e) (fun _ e=>by cases e; rfl) (fun x e=>by rcases e with e | e <;> cases e) (fun _=>.inl hmine) (fun e=>by cases e) (fun e=>by cases e)
 have R2:∀ j,j≠k→ZaO c j none none s1 (Zbr s1 (sn t) false false):=fun j hj=>Zda hj hmine1
 have hR:∀ j,j≠k→ZaO c j none none st (Zbr s1 (sn t) false false):=fun j hj=>(R1 j hj).trans G G1 (R2 j hj)
 have hlv2:(Zbr s1 (sn t) false false).lv (sn t)=false:=if_pos rfl
 have hola:(Zbr s1 (sn t) false false).ol (sn t) .first=[]:=by
  show s1.ol (sn t) .first=[]
  rw [hs1]
  exact Zci (fun e=>by cases e)
 refine Res.eff X (Zbr s1 (sn t) false false) (hx:=none) (px:=none) (t':={ t with pc:=77 }) (pc:=76) (pc':=77) hpc rfl rfl hs rfl rfl rfl (.inl ⟨hw0,by decide⟩) (Zc9 G1 hmine1 (fun _=>hloc1)) hR (by rw [hs1]; rfl) (by rw [hs1]; rfl) (by rw [hs1]; rfl) (by rw [hs1]; rfl) ?_ (fun _=>⟨rfl,hw0⟩) ?_ ?_ ?_ (fun x y => ?_) (fun e=>absurd e (X.ZjF (by rw [hpc]; decide)))
 ·unfold At
  refine ⟨L,ch,⟨?_,fun x => ?_,?_⟩,h2,hlv2,⟨?_,?_,?_,?_⟩,h7⟩
  ·rw [hs1]
   exact h1.ms
  ·show s1.ol x (.ZaB k)=if x=sn t then L else []
   rw [hs1]
   by_cases e:x=sn t
   ·rw [e,ZcD,if_pos rfl,h1.at_,List.append_nil]
   ·rw [ZbP (fun e2=>e e2.1) (fun e2=>e e2.1),h1.ob,if_neg e,if_neg e]
  ·rw [hs1]
   exact h1.ch
  ·rw [hs1]
   exact h6.hold
  ·rw [hs1]
   exact h6.cut
  ·rw [hs1]
   exact h6.held
  ·refine Nat.le_trans (m:=ZfV c st) ?_ h6.em
   have esl:(tick (Zbr s1 (sn t) false false) none none k (some { t with pc:=77 })).sl .shelf=st.sl .shelf:=by
    rw [hs1]
    rfl
   unfold ZfV
   rw [esl]
   refine Zbh fun x hx he => ?_
   have hne:x≠sn t:=by
    rintro rfl
    rw [G.sm _ rfl,hmine] at hx
    cases hx
   have e1:(tick (Zbr s1 (sn t) false false) none none k (some { t with pc:=77 })).ol x .first=st.ol x .first:=by
    show s1.ol x .first=_
    rw [hs1]
    exact ZbP (fun e2=>hne e2.1) (fun e2=>hne e2.1)
   have e2:(tick (Zbr s1 (sn t) false false) none none k (some { t with pc:=77 })).frz x=st.frz x:=by
    show (Zbr s1 (sn t) false false).frz x=_
    rw [show (Zbr s1 (sn t) false false).frz x=s1.frz x from if_neg hne,hs1]
    rfl
   rw [e1,e2] at he
   exact he
 ·refine ZcU X (Zau h2) (fun i hi hi2 => ?_) ?_ ?_
  ·rw [ZdX i hi2,hs1]
   refine Zb8 i (fun x e=>⟨(fun e2=>by cases e2),fun e2=>by cases e2⟩) (fun x e=>.inl ?_)
   rintro rfl
   rcases e with e | e
   ·exact hi e
   ·exact hi2 e
  ·unfold fr
   rw [hola]
   rfl
  ·unfold ct
   rw [hlv2]
   rfl
 ·exact Zal (Zal X.W (by omega)) (by omega)
 ·refine ZnV X (Zau h2) hR (by rw [hs1]; rfl) (by rw [hs1]; rfl) (fun _=>by rw [hs1]; rfl) (fun x hx => ?_) ?_
  ·rw [show (Zbr s1 (sn t) false false).lv x=s1.lv x from if_neg hx,hs1]
   rfl
  ·have e1:lvN (Zbr s1 (sn t) false false) (sn t)=0:=by
    unfold lvN
    rw [hlv2]
    rfl
   have e2:lvN st (sn t)=1:=by
    unfold lvN
    rw [h3.1]
    rfl
   have e3:cont c (Zbr s1 (sn t) false false) t.back t.cpu=cont c st t.back t.cpu:=by
    rw [hs1]
    rfl
   rw [e1,e2]
   show 2+cont c (Zbr s1 (sn t) false false) t.back t.cpu+0+25+_≤pot c st t+_
   rw [e3]
   have hb:base c st t=if t.back=95 then 7 else 3+cont c st t.back t.cpu:=by
    unfold base
    rw [hpc]
    rfl
   unfold pot
   rw [hb]
   split
   ·rename_i e
    have:cont c st t.back t.cpu=2 * c.S+12:=by
     unfold cont
     rw [if_neg (by omega),if_pos e]
    omega
   ·omega
 ·show s1.loc x y = .out↔_
  rw [hs1]
  exact Za7 (fun o ho=>by rw [hM.at_ o ho]; intro e; cases e) (fun e=>by cases e) x y
end
end Go.Proofs.YtfcpdlbkmkhhcaaGreatDoor.Cv
