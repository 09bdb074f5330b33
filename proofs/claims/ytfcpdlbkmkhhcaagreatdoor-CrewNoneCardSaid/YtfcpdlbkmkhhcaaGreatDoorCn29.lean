/-
  Texts of this claim, joined. No condition.
-/
import Derived.Test.YtfcpdlbkmkhhcaaGreatDoorCn28
namespace Go.Proofs.YtfcpdlbkmkhhcaaGreatDoor.Cv
open See Cw
section
variable {c:Ch}{mn cp:Nat}{st st1 st':St}{g g':List Nat}{k:Nat}{t t':Tk}
theorem Cx.ZcF (X:Cx c mn cp st g k t)(h:Zcj t.pc=false):st.hold≠some k:=fun e=>by
 obtain ⟨t2,e1,e2,_⟩:=X.I.lockd k e
 rw [X.tk] at e1
 cases e1
 rw [h] at e2
 cases e2
theorem MvO.of {s:Nat}{a b:Ct}{l1 l2:List Nat}(G:Zbc c mn cp st)(ha:a.listed=true)(ne:a≠b)(src:st.ol s a=l1++l2)(bn:b≠.none)(hb:∀ k,b = .head k→st.own s = .head k)(lb:b = .first∨(∃ k,b = .head k)→lkd (st.lk s) (See.keyOf c.key s) l1 (ZcP (st.ol s b) (-1)))
 (fu:st.own s = .full→b≠.first) (sh:st.own s = .shelf→st.cut≠some s→a = .first→l2≠[]) (mkg:∀ k,st.own s = .mine k→st.lv s=true) (em:st.hold=none→st.own s = .shelf→b = .first→(l1++st.ol s .first).length=c.O→(st.ol s .first).length=c.O):MvO c st s a b l1 l2 where
 ne:=ne
 src:=fun _=>src
 at_:=fun o ho=>(G.om s a ha o).1 (by rw [src]; exact List.mem_append_left _ ho)
 nd:=by
  have:=G.od s a ha
  rw [src] at this
  exact (List.nodup_append.1 this).1
 an:=fun e=>by rw [e] at ha; cases ha
 bn:=bn
 hb:=hb
 lb:=lb
 fu:=fu
 sh:=sh
 mkg:=mkg
 em:=em
theorem Za7 {s:Nat}{a b:Ct}{l1 l2:List Nat}(ha:∀ o∈l1,st.loc s o≠.out)(hb:b≠.out)(x y:Nat):(mvO st s a b l1 l2).loc x y = .out↔st.loc x y = .out:=by
 unfold mvO
 dsimp only
 split
 ·rename_i e
  constructor
  ·intro e2
   exact absurd e2 hb
  ·intro e2
   rw [e.1] at e2
   exact absurd e2 (ha y e.2)
 ·exact Iff.rfl
theorem ZgR {s o:Nat}{a:Ct}{l2:List Nat}(x y:Nat):(mvO st s a .out [o] l2).loc x y = .out↔st.loc x y = .out∨x=s∧y=o:=by
 unfold mvO
 dsimp only
 by_cases e:x=s∧y∈[o]
 ·rw [if_pos e]
  rw [List.mem_singleton] at e
  exact ⟨fun _=>.inr e,fun _=>rfl⟩
 ·rw [if_neg e]
  rw [List.mem_singleton] at e
  exact ⟨fun h=>.inl h,fun h=>h.elim id fun h=>absurd h e⟩
theorem Zq2 (G:Zbc c mn cp st){s x:Nat}(h:st.own s≠.head x):st.ol s (.head x)=[]:=by
 cases hc:st.ol s (.head x) with
 | nil=>rfl
 | cons a r=>exact absurd (G.oh s a x ((G.om s _ rfl a).1 (by rw [hc]; exact List.mem_cons_self))) h
theorem Zpy {x:Nat}{a b:Own}{l1 l2:List Nat}(h:b = .head k∨b = .mine k∨b = .full∧∀ s∈l1,st.own s = .mine k∧st.ol s .first=[]):AO k st (mvS st a b l1 l2) x:=by
 by_cases e:x∈l1
 ·have:(mvS st a b l1 l2).own x=b:=if_pos e
  rcases h with h | h | ⟨h,h2⟩
  ·exact .inr (.inl (this.trans h))
  ·exact .inr (.inr (.inl (this.trans h)))
  ·exact .inr (.inr (.inr ⟨this.trans h,h2 x e⟩))
 ·exact .inl (if_neg e)
theorem p3 (X:Cx c mn cp st g k t)(hpc:t.pc=3):∃ t' g' st',Res c mn cp st g k t t' g' st':=by
 have hA:=X.at_
 unfold At at hA
 rw [hpc] at hA
 have hcpu:=X.cpu
 have hw0:=X.w0 (by omega) (by omega)
 have hC:=X.C
 have hS:=X.S
 have hO:=X.O
 have G:=X.I.G
 obtain ⟨h1,h2,h3,⟨h4,h4'⟩,h5⟩:=hA
 have hs:Zba c mn cp g t=if hw st k=t.H∧st.ht k=t.T then some ({ t with fin:=1 },(g.set (ZbV k) (headW (sn t:Int) t.last)).set (ZbV k+1) ((t.T+1) % M64)) else some ({ t with pc:=0 },g):=by
  rw [Zeg (by omega)]
  unfold Zbq
  rw [hpc]
  refine (Zai h2).trans ((Zag (by omega)).trans ?_)
  rw [hcpu]
  exact Zcv (X.rhd X.kC) (X.rht X.kC)
 by_cases hc:hw st k=t.H∧st.ht k=t.T
 ·rw [if_pos hc] at hs
  have hTw:st.ht k+1=(t.T+1) % M64:=by rw [← hc.2]; exact (Zj5 X k).1.symm
  obtain ⟨h6,h7,r,h8,h9⟩:=h5.2 hc.2.symm
  have ho:=Zf7 G h7
  have hM:MvO c st (sn t) (.head k) .out [on t] r:=MvO.of G rfl (fun e=>by cases e) h8 (fun e=>by cases e) (fun _ e=>by cases e) (fun e=>by rcases e with e | ⟨_,e⟩ <;> cases e) (fun _ e=>by cases e) (fun _ _ e=>by cases e) (fun x e=>by rw [ho] at e; cases e) (fun _ _ e=>by cases e)
  have hR:∀ j,j≠k→ZaO c j (some k) none st (mvO st (sn t) (.head k) .out [on t] r):=fun j hj=>ZbC (k:=k) hj (fun _ e=>by cases e) (fun _ e=>by cases e) (fun x e=>by rcases e with e | e <;> cases e; rfl) (fun e=>by cases e) (fun e=>by cases e) (fun e=>by cases e)
  refine Res.ZoD X (mvO st (sn t) (.head k) .out [on t] r) (hx:=some k) (px:=none) hs rfl rfl (ZbB G hM) hR rfl rfl rfl rfl ⟨h1.ms,fun x=>(ZbP (fun e=>by cases e.2) (fun e=>by cases e.2)).trans (h1.ob x),h1.ch⟩ (X.ZcF (by rw [hpc]; decide)) ?_ ?_ ?_ ?_
  ·refine ZiO X X.kC (fun i hi => ?_) ?_ hTw
   ·refine Zb8 i (fun x e=>⟨fun e2 => ?_,fun e2=>by cases e2⟩) (fun x e=>.inr ⟨(fun e=>by cases e),fun e=>by cases e⟩)
    cases e2
    exact hi e
   ·rw [Zlw (st:=mvO st (sn t) (.head k) .out [on t] r) h7,Zci (fun e=>by cases e),h9]
  ·exact Zal (Zal X.W (Zh9 (by have:=Zau h2; omega) h4 (by omega))) (Nat.mod_lt _ (by decide))
  ·refine ZsU X hR rfl rfl (fun _=>rfl) (fun s=>⟨Zdn (Zcb (fun e=>by cases e) (fun e=>by cases e) s),Zcx (Zcb (fun e=>by cases e) (fun e=>by cases e) s) rfl rfl⟩) rfl ?_
   show 0+17≤pot c st t
   have hb:base c st t=AA c+48:=by
    unfold base
    rw [hpc]
    rfl
   unfold pot
   unfold AA at hb
   omega
  ·rw [if_pos (X.ZtU (by rw [hpc]; decide))]
   refine ⟨sn t,on t,ZiA h2,Zq5 h3,Zau h2,ZdF h3,?_,ZgR⟩
   rw [(G.om (sn t) (.head k) rfl (on t)).1 (by rw [h8]; exact List.mem_cons_self)]
   intro e
   cases e
 ·rw [if_neg hc] at hs
  have hT:t.T≠st.ht k:=fun e=>hc ⟨(h5.2 e).1.symm,e.symm⟩
  refine Res.read X (t':={ t with pc:=0 }) (pc:=3) (pc':=0) hpc rfl rfl hs ?_ rfl rfl rfl hw0 ?_
  ·unfold At
   exact h1
  ·unfold pot base pen
   simp [hpc,hcpu,AA,Ne.symm hT]
theorem p13 (X:Cx c mn cp st g k t)(hpc:t.pc=13):∃ t' g' st',Res c mn cp st g k t t' g' st':=by
 have hA:=X.at_
 unfold At at hA
 rw [hpc] at hA
 have hcpu:=X.cpu
 have hw0:=X.w0 (by omega) (by omega)
 have hC:=X.C
 have hS:=X.S
 have hO:=X.O
 have G:=X.I.G
 obtain ⟨h1,h2,h3,h4,h5⟩:=hA
 have hoe:=Zq5 h3
 have hol:=ZdF h3
 have hs:Zba c mn cp g t=if hw st k=t.H∧st.ht k=t.T then some ({ t with fin:=1 },(g.set (ZbV k) (headW (sn t:Int) (on t:Int))).set (ZbV k+1) ((t.T+1) % M64)) else some ({ t with pc:=10 },g):=by
  rw [Zeg (by omega)]
  unfold Zbq
  rw [hpc]
  refine (Zai h2).trans ((Zbm h3).trans ?_)
  rw [hcpu]
  exact Zcv (X.rhd X.kC) (X.rht X.kC)
 by_cases hc:hw st k=t.H∧st.ht k=t.T
 ·rw [if_pos hc] at hs
  have hTw:st.ht k+1=(t.T+1) % M64:=by rw [← hc.2]; exact (Zj5 X k).1.symm
  obtain ⟨h6,h7,h9⟩:=h5.2 hc.2.symm
  have ho:=Zf7 G h7
  have hM:MvO c st (sn t) (.ZaB k) (.head k) [on t] []:=MvO.of G rfl (fun e=>by cases e) h1.at_ (fun e=>by cases e) (fun _ e=>by cases e; exact ho) (fun _=>⟨by show _=ZaR (ZcP _ _) _ _; rw [h4,h9]; rfl,trivial⟩) (fun _ e=>by cases e) (fun _ _ e=>by cases e) (fun x e=>by rw [ho] at e; cases e) (fun _ _ e=>by cases e)
  have hR:∀ j,j≠k→ZaO c j (some k) none st (mvO st (sn t) (.ZaB k) (.head k) [on t] []):=fun j hj=>ZbC (k:=k) hj (fun _ e=>by cases e; rfl) (fun _ e=>by cases e) (fun x e=>by rcases e with e | e <;> cases e; rfl) (fun e=>by cases e) (fun e=>by cases e) (fun e=>by cases e)
  refine Res.ZoD X (mvO st (sn t) (.ZaB k) (.head k) [on t] []) (hx:=some k) (px:=none) hs rfl rfl (ZbB G hM) hR rfl rfl rfl rfl ⟨h1.ms,fun x => ?_,h1.ch⟩ (X.ZcF (by rw [hpc]; decide)) ?_ ?_ ?_ ?_
  ·by_cases e:x=sn t
   ·rw [e,Zci (fun e=>by cases e)]
    split <;> rfl
   ·rw [ZbP (fun e2=>by cases e2.2) (fun e2=>e e2.1),h1.ob,if_neg e]
    split <;> rfl
  ·refine ZiO X X.kC (fun i hi => ?_) ?_ hTw
   ·refine Zb8 i (fun x e=>⟨(fun e2=>by cases e2),fun e2 => ?_⟩) (fun x e=>.inr ⟨(fun e=>by cases e),fun e=>by cases e⟩)
    cases e2
    exact hi e
   ·rw [Zlw (st:=mvO st (sn t) (.ZaB k) (.head k) [on t] []) h7,ZcD]
    rfl
  ·exact Zal (Zal X.W (Zh9 (by have:=Zau h2; omega) (by omega) (by omega))) (Nat.mod_lt _ (by decide))
  ·refine ZsU X hR rfl rfl (fun _=>rfl) (fun s=>⟨Zdn (Zcb (fun e=>by cases e) (fun e=>by cases e) s),Zcx (Zcb (fun e=>by cases e) (fun e=>by cases e) s) rfl rfl⟩) rfl ?_
   show 0+17≤pot c st t
   have hb:base c st t=94:=by
    unfold base
    rw [hpc]
    rfl
   unfold pot
   omega
  ·rw [if_neg (X.ZjF (by rw [hpc]; decide))]
   refine Za7 (fun o ho => ?_) (fun e=>by cases e)
   rw [hM.at_ o ho]
   intro e
   cases e
 ·rw [if_neg hc] at hs
  have hT:t.T≠st.ht k:=fun e=>hc ⟨(h5.2 e).1.symm,e.symm⟩
  refine Res.read X (t':={ t with pc:=10 }) (pc:=13) (pc':=10) hpc rfl rfl hs ?_ rfl rfl rfl hw0 ?_
  ·unfold At
   exact ⟨h1,h2,h3⟩
  ·unfold pot base pen
   simp [hpc,hcpu,Ne.symm hT]
theorem p20 (X:Cx c mn cp st g k t)(hpc:t.pc=20):∃ t' g' st',Res c mn cp st g k t t' g' st':=by
 have hA:=X.at_
 unfold At at hA
 rw [hpc] at hA
 have hcpu:=X.cpu
 have hw0:=X.w0 (by omega) (by omega)
 have hC:=X.C
 have hS:=X.S
 have hO:=X.O
 have G:=X.I.G
 obtain ⟨h1,h2,h5⟩:=hA
 have hs:Zba c mn cp g t=if hw st k=t.H∧st.ht k=t.T then some ({ t with pc:=21 },(g.set (ZbV k) 0).set (ZbV k+1) ((t.T+1) % M64)) else some ({ t with pc:=0 },g):=by
  rw [ZbE (by omega) (by omega)]
  unfold Zas
  rw [hpc]
  show Zf3 _ _ _ _ _ _ _ _=_
  rw [hcpu]
  exact Zcv (X.rhd X.kC) (X.rht X.kC)
 by_cases hc:hw st k=t.H∧st.ht k=t.T
 ·rw [if_pos hc] at hs
  have hTw:st.ht k+1=(t.T+1) % M64:=by rw [← hc.2]; exact (Zj5 X k).1.symm
  obtain ⟨h6,h7,h8⟩:=h5.2 hc.2.symm
  have ho:=Zf7 G h7
  have hlv:=G.hpc (sn t) k (.inl ho)
  have hM:MvS c cp st (.head k) (.mine k) [sn t] []:={
   ne:=fun e=>by cases e
   src:=fun _=>h7
   at_:=fun s hs=>by rw [List.mem_singleton] at hs; rw [hs]; exact ho
   nd:=by simp
   ad:=⟨(fun e=>by cases e),fun e=>by cases e⟩
   bd:=fun e=>by cases e
   lv:=fun s hs=>by rw [List.mem_singleton] at hs; rw [hs]; exact hlv.1
   k:=fun x e=>by rcases e with e | e | e | e <;> cases e; exact X.kC
   one:=fun x e=>by rw [h1.ms]; simp
   fu:=fun e=>by cases e
   sh:=fun e=>by cases e
   hp:=fun x e=>by rcases e with e | e | e <;> cases e
   oh:=fun x e s hs=>by cases e; rw [List.mem_singleton] at hs; rw [hs]; exact h8
   cP:=fun x e=>by rcases e with e | e <;> cases e
   cS:=fun e=>by cases e
   cap:=fun x e=>by cases e }
  have hR:∀ j,j≠k→ZaO c j (some k) none st (mvS st (.head k) (.mine k) [sn t] []):=fun j hj=>ZbZ (k:=k) hj (fun _ e=>by rcases e with e | e <;> cases e) (fun _ e=>by rcases e with e | e <;> cases e; rfl) (fun x e=>by rcases e with e | e <;> cases e; rfl) (fun x e=>by rcases e with e | e <;> cases e) (fun _ e=>by cases e) (fun e=>by cases e) (fun e=>by cases e) (fun x _=>h7)
  refine Res.eff X (mvS st (.head k) (.mine k) [sn t] []) (hx:=some k) (px:=none) (t':={ t with pc:=21 }) (pc:=20) (pc':=21) hpc rfl rfl hs rfl rfl rfl (.inl ⟨hw0,by decide⟩) (ZbY G hM) hR rfl rfl rfl rfl ?_ (fun e=>absurd e (X.ZcF (by rw [hpc]; decide))) ?_ ?_ ?_ (fun _ _=>Iff.rfl) (fun _ s=>Zpy (.inr (.inl rfl)))
  ·unfold At
   refine ⟨⟨?_,fun x => ?_,?_⟩,h2,hlv,?_⟩
   rotate_right
   ·exact ZcE (st:=st) (a:=.head k) (b:=.mine k) (l1:=[sn t]) (fun e=>by cases e)
   rotate_right
   ·exact (Za1 (st:=st) (y:=.chain k) (a:=.head k) (b:=.mine k) (l1:=[sn t]) (l2:=[]) (fun e=>by cases e) (fun e=>by cases e)).trans h1.ch
   ·exact (Zdt (st:=st) (a:=.head k) (b:=.mine k) (l1:=[sn t]) (l2:=[])).trans (by rw [h1.ms]; rfl)
   ·refine (h1.ob x).trans ?_
    split <;> split <;> rfl
  ·refine ZiO X X.kC (fun i hi => ?_) ?_ hTw
   ·refine ZcM i (fun x e=>⟨fun e2 => ?_,fun e2=>by cases e2⟩) (fun x e=>⟨(fun e2=>by cases e2),fun e2=>by cases e2⟩) (fun _=>⟨(fun e=>by cases e),fun e=>by cases e⟩)
    cases e2
    exact hi e
   ·exact Zhz (ZcE (fun e=>by cases e))
  ·exact Zal (Zal X.W (by omega)) (Nat.mod_lt _ (by decide))
  ·refine ZsU X hR rfl rfl (fun _=>Za1 (fun e=>by cases e) (fun e=>by cases e)) (fun _=>⟨rfl,rfl⟩) rfl ?_
   show pot c _ { t with pc:=21 }+17≤pot c st t
   unfold pot base pen
   simp [hpc,hcpu,AA]
   all_goals (try (repeat' split)) <;> omega
 ·rw [if_neg hc] at hs
  have hT:t.T≠st.ht k:=fun e=>hc ⟨(h5.2 e).1.symm,e.symm⟩
  refine Res.read X (t':={ t with pc:=0 }) (pc:=20) (pc':=0) hpc rfl rfl hs ?_ rfl rfl rfl hw0 ?_
  ·unfold At
   exact h1
  ·unfold pot base pen
   simp [hpc,hcpu,AA,Ne.symm hT]
theorem p42 (X:Cx c mn cp st g k t)(hpc:t.pc=42):∃ t' g' st',Res c mn cp st g k t t' g' st':=by
 have hA:=X.at_
 unfold At at hA
 rw [hpc] at hA
 have hcpu:=X.cpu
 have hw0:=X.w0 (by omega) (by omega)
 have hC:=X.C
 have hS:=X.S
 have hO:=X.O
 have G:=X.I.G
 obtain ⟨⟨l,h1,h2,h3⟩,h4,h5,h6,h7,h8⟩:=hA
 have hlt:ZcP l (-1)<c.O:=ZeA G (x:=.ZaB k) (s:=sn t) rfl hO.1 (fun o ho=>by rw [h1.at_]; exact List.mem_cons_of_mem _ ho)
 have hge:=Zez (l:=l) (e := -1) (by omega)
 have hs:Zba c mn cp g t=if hw st k=0∧st.ht k=t.T then some ({ t with fin:=1 },(g.set (ZbV k) (headW (sn t:Int) t.last)).set (ZbV k+1) ((t.T+1) % M64)) else some ({ t with pc:=41 },g):=by
  rw [ZbE (by omega) (by omega)]
  unfold Zas
  rw [hpc]
  refine (Zai h5).trans ((Zag (by omega)).trans ?_)
  rw [hcpu]
  exact Zcv (X.rhd X.kC) (X.rht X.kC)
 have hmine:=h1.own G
 by_cases hc:hw st k=0∧st.ht k=t.T
 ·rw [if_pos hc] at hs
  have hTw:st.ht k+1=(t.T+1) % M64:=by rw [← hc.2]; exact (Zj5 X k).1.symm
  have hnh:st.ol (sn t) (.head k)=[]:=Zq2 G (by rw [hmine]; intro e; cases e)
  have hM1:MvO c st (sn t) (.ZaB k) .out [on t] l:=MvO.of G rfl (fun e=>by cases e) h1.at_ (fun e=>by cases e) (fun _ e=>by cases e) (fun e=>by rcases e with e | ⟨_,e⟩ <;> cases e) (fun _ e=>by cases e) (fun _ _ e=>by cases e) (fun x e=>h7.1) (fun _ _ e=>by cases e)
  obtain ⟨s1,hs1⟩:∃ s1,s1=mvO st (sn t) (.ZaB k) .out [on t] l:=⟨_,rfl⟩
  have G1:Zbc c mn cp s1:=by rw [hs1]; exact ZbB G hM1
  have hM2:MvS c cp s1 (.mine k) (.head k) [sn t] []:={
   ne:=fun e=>by cases e
   src:=fun _=>by rw [hs1]; exact h1.ms
   at_:=fun s hs=>by rw [List.mem_singleton] at hs; rw [hs,hs1]; exact hmine
   nd:=by simp
   ad:=⟨(fun e=>by cases e),fun e=>by cases e⟩
   bd:=fun e=>by cases e
   lv:=fun s hs=>by rw [List.mem_singleton] at hs; rw [hs,hs1]; exact h7.1
   k:=fun x e=>by rcases e with e | e | e | e <;> cases e; exact X.kC
   one:=fun x e=>by
    rw [hs1]
    show _+(st.sl (.head k)).length≤1
    rw [show st.sl (.head k)=[] from h4]
    simp
   fu:=fun e=>by cases e
   sh:=fun e=>by cases e
   hp:=fun x e s hs=>by rw [List.mem_singleton] at hs; rw [hs,hs1]; exact h7.2
   oh:=fun x e=>by cases e
   cP:=fun x e=>by rcases e with e | e <;> cases e
   cS:=fun e=>by cases e
   cap:=fun x e=>by cases e }
  obtain ⟨s2,hs2⟩:∃ s2,s2=mvS s1 (.mine k) (.head k) [sn t] []:=⟨_,rfl⟩
  have G2:Zbc c mn cp s2:=by rw [hs2]; exact ZbY G1 hM2
  have ho2:s2.own (sn t) = .head k:=by rw [hs2]; exact if_pos (by simp)
  have hol2:s2.ol=s1.ol:=by rw [hs2]; rfl
  have e1:s2.ol (sn t) (.ZaB k)=l:=by rw [hol2,hs1]; exact Zci (fun e=>by cases e)
  have e2:s2.ol (sn t) (.head k)=[]:=by rw [hol2,hs1,ZbP (fun e=>by cases e.2) (fun e=>by cases e.2)]; exact hnh
  have hlk2:s2.lk=st.lk:=by
   rw [hs2,hs1]
   rfl
  have hM3:MvO c s2 (sn t) (.ZaB k) (.head k) l []:=MvO.of G2 rfl (fun e=>by cases e) (by rw [e1,List.append_nil]) (fun e=>by cases e) (fun _ e=>by cases e; exact ho2) (fun _=>by rw [e2,hlk2]; exact h2.2) (fun e=>by rw [ho2] at e; cases e) (fun _ _ e=>by cases e) (fun x e=>by rw [ho2] at e; cases e) (fun _ _ e=>by cases e)
  have R1:∀ j,j≠k→ZaO c j (some k) none st s1:=fun j hj=>by rw [hs1]; exact ZbC (k:=k) hj (fun _ e=>by cases e; rfl) (fun _ e=>by cases e) (fun x e=>by rcases e with e | e <;> cases e) (fun e=>by cases e) (fun e=>by cases e) (fun e=>by cases e)
  have R2:∀ j,j≠k→ZaO c j (some k) none s1 s2:=fun j hj=>by rw [hs2]; exact ZbZ (k:=k) hj (fun _ e=>by rcases e with e | e <;> cases e; rfl) (fun _ e=>by rcases e with e | e <;> cases e) (fun x e=>by rcases e with e | e <;> cases e; rfl) (fun x e=>by rcases e with e | e <;> cases e) (fun _ e=>by cases e; rfl) (fun e=>by cases e) (fun e=>by cases e) (fun x e=>by cases e)
  have R3:∀ j,j≠k→ZaO c j (some k) none s2 (mvO s2 (sn t) (.ZaB k) (.head k) l []):=fun j hj=>ZbC (k:=k) hj (fun _ e=>by cases e; rfl) (fun _ e=>by cases e) (fun x e=>by rcases e with e | e <;> cases e; rfl) (fun e=>by cases e) (fun e=>by cases e) (fun e=>by cases e)
  have hR:∀ j,j≠k→ZaO c j (some k) none st (mvO s2 (sn t) (.ZaB k) (.head k) l []):=fun j hj=>((R1 j hj).trans G G1 (R2 j hj)).trans G G2 (R3 j hj)
  refine Res.ZoD X (mvO s2 (sn t) (.ZaB k) (.head k) l []) (hx:=some k) (px:=none) hs rfl rfl (ZbB G2 hM3) hR (by rw [hs2,hs1]; rfl) (by rw [hs2,hs1]; rfl) (by rw [hs2,hs1]; rfl) (by rw [hs2,hs1]; rfl) ⟨?_,fun x => ?_,?_⟩ ?_ ?_ ?_ ?_ ?_ (fun _ s => ?_)
  ·show s2.sl (.mine k)=[]
   rw [hs2]
   exact ZcE (fun e=>by cases e)
  ·by_cases e:x=sn t
   ·rw [e,Zci (fun e=>by cases e)]
    split <;> rfl
   ·rw [ZbP (fun e2=>by cases e2.2) (fun e2=>e e2.1),hol2,hs1,ZbP (fun e2=>by cases e2.2) (fun e2=>e e2.1),h1.ob,if_neg e]
    split <;> rfl
  ·show s2.sl (.chain k)=[]
   rw [hs2,Za1 (fun e=>by cases e) (fun e=>by cases e),hs1]
   exact h1.ch
  ·show s2.hold≠some k
   rw [hs2,hs1]
   exact X.ZcF (by rw [hpc]; decide)
  ·refine ZiO X X.kC (fun i hi => ?_) ?_ hTw
   ·have n1:∀ x,i = .hd x→(Ct.head k≠.head x):=fun x e e2=>by
     cases e2
     exact hi e
    rw [Zb8 i (fun x e=>⟨(fun e2=>by cases e2),n1 x e⟩) (fun x e=>.inr ⟨(fun e=>by cases e),fun e=>by cases e⟩),hs2,
     ZcM i (fun x e=>⟨(fun e2=>by cases e2),fun e2=>n1 x e (by cases e2; rfl)⟩) (fun x e=>⟨(fun e2=>by cases e2),fun e2=>by cases e2⟩) (fun _=>⟨(fun e=>by cases e),fun e=>by cases e⟩),hs1,
     Zb8 i (fun x e=>⟨(fun e2=>by cases e2),fun e2=>by cases e2⟩) (fun x e=>.inr ⟨(fun e=>by cases e),fun e=>by cases e⟩)]
   ·have hsl:(mvO s2 (sn t) (.ZaB k) (.head k) l []).sl (.head k)=[sn t]:=by
     show s2.sl (.head k)=_
     rw [hs2,Zdt,hs1]
     show [sn t]++st.sl (.head k)=_
     rw [show st.sl (.head k)=[] from h4]
     rfl
    rw [Zlw hsl,ZcD,e2,List.append_nil,h3]
  ·exact Zal (Zal X.W (Zh9 (by have:=Zau h5; omega) (by omega) (by omega))) (Nat.mod_lt _ (by decide))
  ·refine ZsU X hR (by rw [hs2,hs1]; rfl) (by rw [hs2,hs1]; rfl) (fun j => ?_) (fun s => ?_) (by rw [hs2,hs1]; rfl) ?_
   ·show s2.sl _=_
    rw [hs2,Za1 (fun e=>by cases e) (fun e=>by cases e),hs1]
    rfl
   ·have e:(mvO s2 (sn t) (.ZaB k) (.head k) l []).ol s .first=st.ol s .first:=by
     rw [Zcb (fun e=>by cases e) (fun e=>by cases e) s,hol2,hs1]
     exact Zcb (fun e=>by cases e) (fun e=>by cases e) s
    exact ⟨Zdn e,Zcx e (by rw [hs2,hs1]; rfl) (by rw [hs2,hs1]; rfl)⟩
   ·show 0+17≤pot c st t
    have hb:base c st t=17:=by
     unfold base
     rw [hpc]
     rfl
    unfold pot
    omega
  ·rw [if_pos (X.ZtU (by rw [hpc]; decide))]
   have hlo:st.loc (sn t) (on t) = .ZaB k:=h1.loc G (by simp)
   refine ⟨sn t,on t,ZiA h5,Zq5 h6,Zau h5,ZdF h6,(by rw [hlo]; intro e; cases e),fun x y => ?_⟩
   rw [Za7 (fun o ho=>by rw [hM3.at_ o ho]; intro e; cases e) (fun e=>by cases e)]
   have:s2.loc=s1.loc:=by rw [hs2]; rfl
   rw [this,hs1]
   exact ZgR x y
  ·by_cases e:s∈[sn t]
   ·refine .inr (.inl ?_)
    show s2.own s=_
    rw [hs2]
    exact if_pos e
   ·refine .inl ?_
    show s2.own s=_
    rw [hs2,show (mvS s1 (.mine k) (.head k) [sn t] []).own s=s1.own s from if_neg e,hs1]
    rfl
 ·rw [if_neg hc] at hs
  have hT:t.T≠st.ht k:=fun e=>hc ⟨Zhz h4,e.symm⟩
  refine Res.read X (t':={ t with pc:=41 }) (pc:=42) (pc':=41) hpc rfl rfl hs ?_ rfl rfl rfl hw0 ?_
  ·unfold At
   exact ⟨⟨l,h1,h2,h3⟩,h4,h5,h6,h7⟩
  ·unfold pot base pen
   simp [hpc,hcpu,Ne.symm hT]
theorem p72 (X:Cx c mn cp st g k t)(hpc:t.pc=72):∃ t' g' st',Res c mn cp st g k t t' g' st':=by
 have hA:=X.at_
 unfold At at hA
 rw [hpc] at hA
 have hcpu:=X.cpu
 have hw0:=X.w0 (by omega) (by omega)
 have hC:=X.C
 have hS:=X.S
 have hO:=X.O
 have G:=X.I.G
 obtain ⟨h1,h2,h3,⟨h4,h4'⟩,h5⟩:=hA
 have hfk:t.for_.toNat<c.C:=by
  have:=h2.1
  have:=h2.2
  omega
 obtain ⟨f,hf⟩:∃ f,t.for_.toNat=f:=⟨_,rfl⟩
 rw [hf] at hfk h5
 have hs:Zba c mn cp g t=if hw st f=t.H∧st.ht f=t.T then some ({ t with many:=0,back:=73,pc:=80 },(g.set (ZbV f) 0).set (ZbV f+1) ((t.T+1) % M64)) else some ({ t with pc:=70 },g):=by
  rw [Zbb (by omega)]
  unfold Zaf
  rw [hpc]
  refine (Zag (show 0≤t.for_∧t.for_<c.C from h2)).trans ?_
  rw [hf]
  exact Zcv (X.rhd hfk) (X.rht hfk)
 by_cases hc:hw st f=t.H∧st.ht f=t.T
 ·rw [if_pos hc] at hs
  have hTw:st.ht f+1=(t.T+1) % M64:=by rw [← hc.2]; exact (Zj5 X f).1.symm
  obtain ⟨h6,h7,h8⟩:=h5.2 hc.2.symm
  have ho:=Zf7 G h7
  have hlv:=G.hpc (sn t) f (.inl ho)
  obtain ⟨L,hL⟩:∃ L,L=st.ol (sn t) (.head f):=⟨_,rfl⟩
  have hM1:MvO c st (sn t) (.head f) (.ZaB k) L []:=MvO.of G rfl (fun e=>by cases e) (by rw [List.append_nil,hL]) (fun e=>by cases e) (fun _ e=>by cases e) (fun e=>by rcases e with e | ⟨_,e⟩ <;> cases e) (fun _ e=>by cases e) (fun _ _ e=>by cases e) (fun x e=>by rw [ho] at e; cases e) (fun _ _ e=>by cases e)
  obtain ⟨s1,hs1⟩:∃ s1,s1=mvO st (sn t) (.head f) (.ZaB k) L []:=⟨_,rfl⟩
  have G1:Zbc c mn cp s1:=by rw [hs1]; exact ZbB G hM1
  have hM2:MvS c cp s1 (.head f) (.mine k) [sn t] []:={
   ne:=fun e=>by cases e
   src:=fun _=>by rw [hs1]; exact h7
   at_:=fun s hs=>by rw [List.mem_singleton] at hs; rw [hs,hs1]; exact ho
   nd:=by simp
   ad:=⟨(fun e=>by cases e),fun e=>by cases e⟩
   bd:=fun e=>by cases e
   lv:=fun s hs=>by rw [List.mem_singleton] at hs; rw [hs,hs1]; exact hlv.1
   k:=fun x e=>by rcases e with e | e | e | e <;> cases e; exact X.kC
   one:=fun x e=>by
    rw [hs1]
    show _+(st.sl (.mine k)).length≤1
    rw [h1.ms]
    simp
   fu:=fun e=>by cases e
   sh:=fun e=>by cases e
   hp:=fun x e=>by rcases e with e | e | e <;> cases e
   oh:=fun x e s hs=>by
    cases e
    rw [List.mem_singleton] at hs
    rw [hs,hs1]
    exact Zci (fun e=>by cases e)
   cP:=fun x e=>by rcases e with e | e <;> cases e
   cS:=fun e=>by cases e
   cap:=fun x e=>by cases e }
  have R1:∀ j,j≠k→ZaO c j (some f) none st s1:=fun j hj=>by rw [hs1]; exact ZbC (k:=k) hj (fun _ e=>by cases e) (fun _ e=>by cases e; rfl) (fun x e=>by rcases e with e | e <;> cases e; rfl) (fun e=>by cases e) (fun e=>by cases e) (fun e=>by cases e)
  have R2:∀ j,j≠k→ZaO c j (some f) none s1 (mvS s1 (.head f) (.mine k) [sn t] []):=fun j hj=>ZbZ (k:=k) hj (fun _ e=>by rcases e with e | e <;> cases e) (fun _ e=>by rcases e with e | e <;> cases e; rfl) (fun x e=>by rcases e with e | e <;> cases e; rfl) (fun x e=>by rcases e with e | e <;> cases e) (fun _ e=>by cases e) (fun e=>by cases e) (fun e=>by cases e) (fun x _=>by rw [hs1]; exact h7)
  have hR:∀ j,j≠k→ZaO c j (some f) none st (mvS s1 (.head f) (.mine k) [sn t] []):=fun j hj=>(R1 j hj).trans G G1 (R2 j hj)
  refine Res.eff X (mvS s1 (.head f) (.mine k) [sn t] []) (hx:=some f) (px:=none) (t':={ t with many:=0,back:=73,pc:=80 }) (pc:=72) (pc':=80) hpc rfl rfl hs rfl rfl rfl (.inl ⟨hw0,by decide⟩) (ZbY G1 hM2) hR (by rw [hs1]; rfl) (by rw [hs1]; rfl) (by rw [hs1]; rfl) (by rw [hs1]; rfl) ?_ (fun e => ?_) ?_ ?_ ?_ (fun x y => ?_) (fun e=>absurd e (X.ZjF (by rw [hpc]; decide)))
  ·unfold At
   refine ⟨L,[],⟨?_,fun x => ?_,?_⟩,h3,?_,rfl,.inr (.inl ⟨rfl,rfl,h2⟩),by rw [hL]; exact h8,?_⟩
   ·refine (Zdt (st:=s1) (a:=.head f) (b:=.mine k) (l1:=[sn t]) (l2:=[])).trans ?_
    rw [hs1]
    show [sn t]++st.sl (.mine k)=_
    rw [h1.ms]
    rfl
   ·show s1.ol x (.ZaB k)=if x=sn t then L else []
    rw [hs1]
    by_cases e:x=sn t
    ·rw [e,ZcD,if_pos rfl,h1.ob]
     split <;> exact List.append_nil L
    ·rw [ZbP (fun e2=>e e2.1) (fun e2=>e e2.1),h1.ob,if_neg e]
     split <;> rfl
   ·refine (Za1 (st:=s1) (y:=.chain k) (a:=.head f) (b:=.mine k) (l1:=[sn t]) (l2:=[]) (fun e=>by cases e) (fun e=>by cases e)).trans ?_
    rw [hs1]
    exact h1.ch
   ·rw [hs1]
    exact hlv
   ·have:lkd (st.lk (sn t)) (ky c (sn t)) L (-1):=by rw [hL]; exact G.l2 (sn t) f
    rw [hs1]
    exact this
  ·rw [hs1] at e
   exact absurd e (X.ZcF (by rw [hpc]; decide))
  ·refine ZiO X hfk (fun i hi => ?_) ?_ hTw
   ·have n1:∀ x,i = .hd x→(Ct.head f≠.head x):=fun x e e2=>by
     cases e2
     exact hi e
    rw [ZcM i (fun x e=>⟨fun e2=>n1 x e (by cases e2; rfl),fun e2=>by cases e2⟩) (fun x e=>⟨(fun e2=>by cases e2),fun e2=>by cases e2⟩) (fun _=>⟨(fun e=>by cases e),fun e=>by cases e⟩),hs1,
     Zb8 i (fun x e=>⟨n1 x e,fun e2=>by cases e2⟩) (fun x e=>.inr ⟨(fun e=>by cases e),fun e=>by cases e⟩)]
   ·exact Zhz (ZcE (fun e=>by cases e))
  ·exact Zal (Zal X.W (by omega)) (Nat.mod_lt _ (by decide))
  ·refine ZsU X hR (by rw [hs1]; rfl) (by rw [hs1]; rfl) (fun j => ?_) (fun s => ?_) (by rw [hs1]; rfl) ?_
   ·rw [Za1 (fun e=>by cases e) (fun e=>by cases e),hs1]
    rfl
   ·have e:(mvS s1 (.head f) (.mine k) [sn t] []).ol s .first=st.ol s .first:=by
     show s1.ol s .first=_
     rw [hs1]
     exact Zcb (fun e=>by cases e) (fun e=>by cases e) s
    exact ⟨Zdn e,Zcx e (by rw [hs1]; rfl) (by rw [hs1]; rfl)⟩
   ·show pot c _ { t with many:=0,back:=73,pc:=80 }+17≤pot c st t
    unfold pot base pen
    simp [hpc,cont]
    all_goals (try (repeat' split)) <;> omega
  ·show s1.loc x y = .out↔_
   rw [hs1]
   exact Za7 (fun o ho=>by rw [hM1.at_ o ho]; intro e; cases e) (fun e=>by cases e) x y
 ·rw [if_neg hc] at hs
  have hT:t.T≠st.ht f:=fun e=>hc ⟨(h5.2 e).1.symm,e.symm⟩
  refine Res.read X (t':={ t with pc:=70 }) (pc:=72) (pc':=70) hpc rfl rfl hs ?_ rfl rfl rfl hw0 ?_
  ·unfold At
   exact ⟨h1,h2⟩
  ·unfold pot base pen
   simp [hpc,hf,Ne.symm hT]
   all_goals omega
end
end Go.Proofs.YtfcpdlbkmkhhcaaGreatDoor.Cv
