/-
  Texts of this claim, joined. No condition.
-/
import Derived.Test.YtfcpdlbkmkhhcaaGreatDoorCn28
namespace Go.Proofs.YtfcpdlbkmkhhcaaGreatDoor.Cv
open See Cw
section
variable {c:Ch}{mn cp:Nat}{st st1 st':St}{g g':List Nat}{k:Nat}{t t':Tk}
theorem p32 (X:Cx c mn cp st g k t)(hpc:t.pc=32):∃ t' g' st',Res c mn cp st g k t t' g' st':=by
 have hA:=X.at_
 unfold At at hA
 rw [hpc] at hA
 have hcpu:=X.cpu
 have hw0:=X.w0 (by omega) (by omega)
 have hC:=X.C
 have hS:=X.S
 have hO:=X.O
 obtain ⟨h1,h2,h3,h4⟩:=hA
 have hr:=X.rnx (Zau h3)
 have hb:=X.I.G.nxb (sn t)
 by_cases hT:t.T=st.pt k
 ·obtain ⟨h5,r,h6⟩:=h4.2 hT
  obtain ⟨hl,hbb⟩:=Zfa X k
  rw [h6] at hl hbb
  have hc:=(X.I.G.cP k).1
  rw [h6] at hc
  have hp:=Ze9 (l:=r) (fun s hs=>hbb s (List.mem_cons_of_mem _ hs)) (by simp at hl; omega)
  have hlt:ZcP r (-1)<c.S:=by
   cases r with
   | nil =>
     show (-1:Int)<c.S
     omega
   | cons a r =>
     have:=Zdy X.I.G (x:=.part k) rfl (s:=a) (by rw [h6]; simp)
     show (a:Int)<c.S
     omega
  refine Res.read X (t':={ t with F:=st.nx (sn t),pc:=33 }) (pc:=32) (pc':=33) hpc rfl rfl ?_ ?_ rfl rfl rfl hw0 ?_
  ·rw [ZbE (by omega) (by omega)]
   unfold Zas
   rw [hpc]
   refine (Zai h3).trans ((Zax hr).trans ?_)
   rw [hc.1,hp]
   exact if_pos hlt
  ·unfold At
   exact ⟨h1,h2,h3,hb,h4.1,fun _=>⟨h5,r,h6,hc.1⟩⟩
  ·unfold pot base pen
   simp [hpc,hcpu,AA]
   all_goals (try (repeat' split)) <;> omega
 ·cases hp:partOf (st.nx (sn t)) with
  | none =>
    refine Res.read X (t':={ t with pc:=30 }) (pc:=32) (pc':=30) hpc rfl rfl ?_ ?_ rfl rfl rfl hw0 ?_
    ·rw [ZbE (by omega) (by omega)]
     unfold Zas
     rw [hpc]
     refine (Zai h3).trans ((Zax hr).trans ?_)
     rw [hp]
    ·unfold At
     exact ⟨h1,h2⟩
    ·unfold pot base pen
     simp [hpc,hcpu,AA,Ne.symm hT]
     all_goals (try (repeat' split)) <;> omega
  | some ab =>
    obtain ⟨a,b⟩:=ab
    by_cases ha:a<c.S
    ·refine Res.read X (t':={ t with F:=st.nx (sn t),pc:=33 }) (pc:=32) (pc':=33) hpc rfl rfl ?_ ?_ rfl rfl rfl hw0 ?_
     ·rw [ZbE (by omega) (by omega)]
      unfold Zas
      rw [hpc]
      refine (Zai h3).trans ((Zax hr).trans ?_)
      rw [hp]
      exact if_pos ha
     ·unfold At
      exact ⟨h1,h2,h3,hb,h4.1,fun e=>absurd e hT⟩
     ·unfold pot base pen
      simp [hpc,hcpu,AA]
      all_goals (try (repeat' split)) <;> omega
    ·refine Res.read X (t':={ t with pc:=30 }) (pc:=32) (pc':=30) hpc rfl rfl ?_ ?_ rfl rfl rfl hw0 ?_
     ·rw [ZbE (by omega) (by omega)]
      unfold Zas
      rw [hpc]
      refine (Zai h3).trans ((Zax hr).trans ?_)
      rw [hp]
      exact if_neg ha
     ·unfold At
      exact ⟨h1,h2⟩
     ·unfold pot base pen
      simp [hpc,hcpu,AA,Ne.symm hT]
      all_goals (try (repeat' split)) <;> omega
theorem p35 (X:Cx c mn cp st g k t)(hpc:t.pc=35):∃ t' g' st',Res c mn cp st g k t t' g' st':=by
 have hA:=X.at_
 unfold At at hA
 rw [hpc] at hA
 have hcpu:=X.cpu
 have hw0:=X.w0 (by omega) (by omega)
 have hC:=X.C
 have hS:=X.S
 have hO:=X.O
 obtain ⟨h1,h2,h3⟩:=hA
 have hr:=X.Zff
 cases hP:st.sl .shelf with
 | nil =>
   refine Res.read X (t':={ t with N:=0,pc:=36 }) (pc:=35) (pc':=36) hpc rfl rfl ?_ ?_ rfl rfl rfl hw0 ?_
   ·rw [ZbE (by omega) (by omega)]
    unfold Zas
    rw [hpc]
    refine (Zax hr).trans ?_
    rw [hP]
    exact Zag (Nat.zero_le _)
   ·unfold At
    exact ⟨h1,h2,h3⟩
   ·unfold pot base pen
    simp [hpc,AA]
    all_goals (try (repeat' split)) <;> omega
 | cons s r =>
   have hs:=Zd8 X.I.G (p:=[]) hP
   refine Res.read X (t':={ t with N:=s+1,slab:=(s:Int),pc:=37 }) (pc:=35) (pc':=37) hpc rfl rfl ?_ ?_ rfl rfl rfl hw0 ?_
   ·rw [ZbE (by omega) (by omega)]
    unfold Zas
    rw [hpc]
    refine (Zax hr).trans ?_
    rw [hP]
    show need (s+1≤c.S) (if s+1=0 then _ else some ({ t with N:=s+1,slab:=((s+1:Nat):Int) - 1,pc:=37 },g))=_
    rw [Zag (by omega),if_neg (by omega),show (((s+1:Nat):Int) - 1)=(s:Int) by omega]
   ·unfold At
    exact ⟨h1,h2,h3,⟨by show (0:Int)≤s; omega,by show (s:Int)<c.S; omega⟩,r,hP⟩
   ·unfold pot base pen
    simp [hpc,AA]
    all_goals (try (repeat' split)) <;> omega
theorem p37 (X:Cx c mn cp st g k t)(hpc:t.pc=37):∃ t' g' st',Res c mn cp st g k t t' g' st':=by
 have hA:=X.at_
 unfold At at hA
 rw [hpc] at hA
 have hcpu:=X.cpu
 have hw0:=X.w0 (by omega) (by omega)
 have hC:=X.C
 have hS:=X.S
 have hO:=X.O
 obtain ⟨h1,h2,h3,h4,r,h5⟩:=hA
 have hsh:=Zbo (p:=[]) X.I.G h5
 have h6:=(X.I.G.shelf _ hsh).2 (by rw [h3.cut]; intro e; cases e)
 have hF:=ZoQ X.I.G (sn t)
 have hF1:=Zsy h6.2
 refine Res.read X (t':={ t with F:=fr st (sn t),pc:=38 }) (pc:=37) (pc':=38) hpc rfl rfl ?_ ?_ rfl rfl rfl hw0 ?_
 ·rw [ZbE (by omega) (by omega)]
  unfold Zas
  rw [hpc]
  refine (Zai h4).trans ((Zax (X.rfr (Zau h4))).trans ?_)
  rw [Zag ⟨hF1,hF⟩]
 ·unfold At
  exact ⟨h1,h2,h3,h4,⟨r,h5⟩,hF1,hF⟩
 ·unfold pot base pen
  simp [hpc,hcpu]
  all_goals (try (repeat' split)) <;> omega
theorem p38 (X:Cx c mn cp st g k t)(hpc:t.pc=38):∃ t' g' st',Res c mn cp st g k t t' g' st':=by
 have hA:=X.at_
 unfold At at hA
 rw [hpc] at hA
 have hcpu:=X.cpu
 have hw0:=X.w0 (by omega) (by omega)
 have hC:=X.C
 have hS:=X.S
 have hO:=X.O
 obtain ⟨h1,h2,h3,h4,⟨r,h5⟩,h6,h7⟩:=hA
 have hsh:=Zbo (p:=[]) X.I.G h5
 obtain ⟨h8,h9⟩:=X.I.G.shelf _ hsh
 have h9:=h9 (by rw [h3.cut]; intro e; cases e)
 have hct:=ZbW (c:=c) h8 h9.1
 refine Res.read X (t':={ t with K:=ct c st (sn t),pc:=39 }) (pc:=38) (pc':=39) hpc rfl rfl ?_ ?_ rfl rfl rfl hw0 ?_
 ·rw [ZbE (by omega) (by omega)]
  unfold Zas
  rw [hpc]
  refine (Zai h4).trans ((Zax (X.rct (Zau h4))).trans ?_)
  rw [hct]
  refine (Zbd (by omega) hO.1 hO.2).trans ?_
  rw [Zag rfl]
 ·unfold At
  exact ⟨h1,h2,h3,h4,⟨r,h5⟩,⟨h6,h7⟩,_,_,hct,by omega,rfl⟩
 ·unfold pot base pen
  simp [hpc,hcpu]
  all_goals (try (repeat' split)) <;> omega
theorem p40 (X:Cx c mn cp st g k t)(hpc:t.pc=40):∃ t' g' st',Res c mn cp st g k t t' g' st':=by
 have hA:=X.at_
 unfold At at hA
 rw [hpc] at hA
 have hcpu:=X.cpu
 have hw0:=X.w0 (by omega) (by omega)
 have hC:=X.C
 have hS:=X.S
 have hO:=X.O
 obtain ⟨⟨l,h1,h2⟩,h3,h4,h5,h6⟩:=hA
 have hlt:ZcP l (-1)<c.O:=ZeA X.I.G (x:=.ZaB k) (s:=sn t) rfl hO.1 (fun o ho=>by rw [h1.at_]; exact List.mem_cons_of_mem _ ho)
 have hge:=Zez (l:=l) (e := -1) (by omega)
 refine Res.read X (t':={ t with last:=ZcP l (-1),pc:=41 }) (pc:=40) (pc':=41) hpc rfl rfl ?_ ?_ rfl rfl rfl hw0 ?_
 ·rw [ZbE (by omega) (by omega)]
  unfold Zas
  rw [hpc]
  refine (Zai h4).trans ((Zbm h5).trans ((Zax (X.rlk (Zau h4) (ZdF h5))).trans ?_))
  rw [h2.1,ZeL hge (by omega)]
  exact Zag hlt
 ·unfold At
  exact ⟨⟨l,h1,h2,rfl⟩,h3,h4,h5,h6⟩
 ·unfold pot base pen
  simp [hpc]
  all_goals (try (repeat' split)) <;> omega
theorem p41 (X:Cx c mn cp st g k t)(hpc:t.pc=41):∃ t' g' st',Res c mn cp st g k t t' g' st':=by
 have hA:=X.at_
 unfold At at hA
 rw [hpc] at hA
 have hcpu:=X.cpu
 have hw0:=X.w0 (by omega) (by omega)
 have hC:=X.C
 have hS:=X.S
 have hO:=X.O
 obtain ⟨⟨l,h1,h2,h7⟩,h3,h4,h5,h6⟩:=hA
 refine Res.read X (t':={ t with T:=st.ht k,pc:=42 }) (pc:=41) (pc':=42) hpc rfl rfl ?_ ?_ rfl rfl rfl hw0 ?_
 ·rw [ZbE (by omega) (by omega)]
  unfold Zas
  rw [hpc]
  exact Zax (by rw [hcpu]; exact X.rht X.kC)
 ·unfold At
  exact ⟨⟨l,h1,h2,h7⟩,h3,h4,h5,h6,Nat.le_refl _⟩
 ·unfold pot base pen
  simp [hpc,hcpu]
  all_goals (try (repeat' split)) <;> omega
theorem p46 (X:Cx c mn cp st g k t)(hpc:t.pc=46):∃ t' g' st',Res c mn cp st g k t t' g' st':=by
 have hA:=X.at_
 unfold At at hA
 rw [hpc] at hA
 have hcpu:=X.cpu
 have hw0:=X.w0 (by omega) (by omega)
 have hC:=X.C
 have hS:=X.S
 have hO:=X.O
 obtain ⟨h1,h3,h4,h5,h6,⟨r,h7⟩,h8⟩:=hA
 have hc:=X.I.G.cS
 rw [h7] at hc
 have hle:=Zof X.I.G (q:=r) (fun s hs=>by rw [h7]; exact List.mem_cons_of_mem _ hs)
 refine Res.read X (t':={ t with N:=sw r,pc:=47 }) (pc:=46) (pc':=47) hpc rfl rfl ?_ ?_ rfl rfl rfl hw0 ?_
 ·rw [ZbE (by omega) (by omega)]
  unfold Zas
  rw [hpc]
  refine (Zai h4).trans ((Zax (X.rnx (Zau h4))).trans ?_)
  rw [hc.1]
  exact Zag hle
 ·unfold At
  exact ⟨h1,h3,h4,h5,h6,⟨r,h7,rfl⟩,h8⟩
 ·unfold pot base pen
  simp [hpc]
  all_goals (try (repeat' split)) <;> omega
theorem p50 (X:Cx c mn cp st g k t)(hpc:t.pc=50):∃ t' g' st',Res c mn cp st g k t t' g' st':=by
 have hA:=X.at_
 unfold At at hA
 rw [hpc] at hA
 have hcpu:=X.cpu
 have hw0:=X.w0 (by omega) (by omega)
 have hC:=X.C
 have hS:=X.S
 have hO:=X.O
 obtain ⟨h1,h2,h3⟩:=hA
 have hF:=ZoQ X.I.G (sn t)
 refine Res.read X (t':={ t with F:=fr st (sn t),pc:=51 }) (pc:=50) (pc':=51) hpc rfl rfl ?_ ?_ rfl rfl rfl hw0 ?_
 ·rw [Zb3 (by omega) (by omega)]
  unfold ZaD
  rw [hpc]
  refine (Zai h2).trans ((Zax (X.rfr (Zau h2))).trans ?_)
  rw [Zag hF]
 ·unfold At
  exact ⟨h1,h2,h3,hF⟩
 ·unfold pot base pen
  simp [hpc,hcpu]
  all_goals (try (repeat' split)) <;> omega
theorem p51 (X:Cx c mn cp st g k t)(hpc:t.pc=51):∃ t' g' st',Res c mn cp st g k t t' g' st':=by
 have hA:=X.at_
 unfold At at hA
 rw [hpc] at hA
 have hcpu:=X.cpu
 have hw0:=X.w0 (by omega) (by omega)
 have hC:=X.C
 have hS:=X.S
 have hO:=X.O
 obtain ⟨h1,h2,h3,h4⟩:=hA
 have hlv:=Zfl X.I.G (h1.loc X.I.G (o:=on t) (by simp)) h1.ms
 have hct:=ZbW (c:=c) hlv rfl
 have hft:=Zcq X.I.G h1.at_
 simp only [List.length_singleton] at hft
 refine Res.read X (t':={ t with K:=ct c st (sn t),pc:=52 }) (pc:=51) (pc':=52) hpc rfl rfl ?_ ?_ rfl rfl rfl hw0 ?_
 ·rw [Zb3 (by omega) (by omega)]
  unfold ZaD
  rw [hpc]
  refine (Zai h2).trans ((Zax (X.rct (Zau h2))).trans ?_)
  rw [hct]
  refine (Zbd (by omega) hO.1 hO.2).trans ?_
  rw [Zag (by omega)]
 ·unfold At
  exact ⟨h1,h2,h3,h4,_,_,hct,by omega,by omega⟩
 ·unfold pot base pen
  simp [hpc,hcpu]
  all_goals (try (repeat' split)) <;> omega
end
end Go.Proofs.YtfcpdlbkmkhhcaaGreatDoor.Cv

namespace Go.Proofs.YtfcpdlbkmkhhcaaGreatDoor.Cv
open See Cw
section
variable {c:Ch}{mn cp:Nat}{st st1 st':St}{g g':List Nat}{k:Nat}{t t':Tk}
theorem p58 (X:Cx c mn cp st g k t)(hpc:t.pc=58):∃ t' g' st',Res c mn cp st g k t t' g' st':=by
 have hA:=X.at_
 unfold At at hA
 rw [hpc] at hA
 have hcpu:=X.cpu
 have hw0:=X.w0 (by omega) (by omega)
 have hC:=X.C
 have hS:=X.S
 have hO:=X.O
 obtain ⟨h1,h2,h3,h4,h5,h6⟩:=hA
 have hh:=h6.held
 by_cases hm:mn<st.held
 ·refine Res.read X (t':={ t with pc:=64 }) (pc:=58) (pc':=64) hpc rfl rfl ?_ ?_ rfl rfl rfl hw0 ?_
  ·rw [Zb3 (by omega) (by omega)]
   unfold ZaD
   rw [hpc]
   exact (Zax X.ZfX).trans (if_pos hm)
  ·unfold At
   exact ⟨h1,h2,h3,h4,h5,h6⟩
  ·unfold pot base pen
   simp [hpc]
   all_goals (try (repeat' split)) <;> omega
 ·refine Res.read X (t':={ t with pc:=59 }) (pc:=58) (pc':=59) hpc rfl rfl ?_ ?_ rfl rfl rfl hw0 ?_
  ·rw [Zb3 (by omega) (by omega)]
   unfold ZaD
   rw [hpc]
   exact (Zax X.ZfX).trans (if_neg hm)
  ·unfold At
   exact ⟨h1,h6.hold,h6.cut,h6.held,by have:ZfV c st≤(st.sl .shelf).length:=List.countP_le_length; omega⟩
  ·unfold pot base pen
   simp [hpc]
   all_goals (try (repeat' split)) <;> omega
theorem p60 (X:Cx c mn cp st g k t)(hpc:t.pc=60):∃ t' g' st',Res c mn cp st g k t t' g' st':=by
 have hA:=X.at_
 unfold At at hA
 rw [hpc] at hA
 have hcpu:=X.cpu
 have hw0:=X.w0 (by omega) (by omega)
 have hC:=X.C
 have hS:=X.S
 have hO:=X.O
 obtain ⟨h1,h2,h3⟩:=hA
 refine Res.read X (t':={ t with T:=st.pt k,pc:=61 }) (pc:=60) (pc':=61) hpc rfl rfl ?_ ?_ rfl rfl rfl hw0 ?_
 ·rw [Zb3 (by omega) (by omega)]
  unfold ZaD
  rw [hpc]
  exact Zax (by rw [hcpu]; exact X.rpt X.kC)
 ·unfold At
  exact ⟨h1,h2,h3,Nat.le_refl _⟩
 ·unfold pot base pen
  simp [hpc,hcpu]
  all_goals (try (repeat' split)) <;> omega
theorem p61 (X:Cx c mn cp st g k t)(hpc:t.pc=61):∃ t' g' st',Res c mn cp st g k t t' g' st':=by
 have hA:=X.at_
 unfold At at hA
 rw [hpc] at hA
 have hcpu:=X.cpu
 have hw0:=X.w0 (by omega) (by omega)
 have hC:=X.C
 have hS:=X.S
 have hO:=X.O
 obtain ⟨h1,h2,h3,h4⟩:=hA
 have hr:=X.rpd X.kC
 rw [← hcpu] at hr
 obtain ⟨hl,hb⟩:=Zfa X k
 have hlt:ZcP (st.sl (.part k)) (-1)<c.S:=by
  cases hP:st.sl (.part k) with
  | nil =>
    show (-1:Int)<c.S
    omega
  | cons a r =>
    have:=Zdy X.I.G (x:=.part k) rfl (s:=a) (by rw [hP]; simp)
    show (a:Int)<c.S
    omega
 by_cases hcp:((st.sl (.part k)).length:Int)<cp
 ·refine Res.read X (t':={ t with N:=pw (st.sl (.part k)),pc:=62 }) (pc:=61) (pc':=62) hpc rfl rfl ?_ ?_ rfl rfl rfl hw0 ?_
  ·rw [Zb3 (by omega) (by omega)]
   unfold ZaD
   rw [hpc]
   refine (Zax hr).trans ?_
   rw [hcpu]
   refine (Zd3 hb hl).trans ?_
   rw [Zag hlt,if_pos hcp]
  ·unfold At
   exact ⟨h1,h2,h3,⟨_,_,Ze9 hb hl,hlt,hcp⟩,h4,fun _=>rfl⟩
  ·unfold pot base pen
   simp [hpc,hcpu]
   all_goals (try (repeat' split)) <;> omega
 ·refine Res.read X (t':={ t with N:=pw (st.sl (.part k)),obj := -1,many:=0,back:=0,pc:=80 }) (pc:=61) (pc':=80) hpc rfl rfl ?_ ?_ rfl rfl rfl hw0 ?_
  ·rw [Zb3 (by omega) (by omega)]
   unfold ZaD
   rw [hpc]
   refine (Zax hr).trans ?_
   rw [hcpu]
   refine (Zd3 hb hl).trans ?_
   rw [Zag hlt,if_neg hcp]
  ·unfold At
   exact ⟨[],[],h1,h2,h3,rfl,.inl ⟨rfl,rfl⟩,rfl,trivial⟩
  ·unfold pot base pen
   simp [hpc,hcpu,cont]
   all_goals (try (repeat' split)) <;> omega
theorem p64 (X:Cx c mn cp st g k t)(hpc:t.pc=64):∃ t' g' st',Res c mn cp st g k t t' g' st':=by
 have hA:=X.at_
 unfold At at hA
 rw [hpc] at hA
 have hcpu:=X.cpu
 have hw0:=X.w0 (by omega) (by omega)
 have hC:=X.C
 have hS:=X.S
 have hO:=X.O
 obtain ⟨h1,h2,h3,h4,h5,h6⟩:=hA
 have hm:=(X.I.G.sm .shelf rfl (sn t)).2 h3
 have hes:=ZiA h2
 have hpl:=X.I.G.sd .shelf rfl
 cases hP:st.sl .shelf with
 | nil =>
   rw [hP] at hm
   cases hm
 | cons a q =>
   rw [hP] at hm
   have ha:=Zd8 X.I.G (p:=[]) hP
   by_cases he:a=sn t
   ·refine Res.read X (t':={ t with to_ := -1,pc:=66 }) (pc:=64) (pc':=66) hpc rfl rfl ?_ ?_ rfl rfl rfl hw0 ?_
    ·rw [Zb3 (by omega) (by omega)]
     unfold ZaD
     rw [hpc]
     refine (Zai h2).trans ((Zax X.Zff).trans ?_)
     rw [hP]
     show need (1≤a+1∧a+1≤c.S) (if a+1=sn t+1 then _ else _)=_
     rw [Zag (by omega),if_pos (by omega)]
    ·unfold At
     exact ⟨h1,h2,h3,h4,h5,h6,[],q,by rw [hP,he]; rfl,rfl⟩
    ·unfold pot base pen
     simp [hpc]
     all_goals (try (repeat' split)) <;> omega
   ·refine Res.read X (t':={ t with to_:=(a:Int),pc:=65 }) (pc:=64) (pc':=65) hpc rfl rfl ?_ ?_ rfl rfl rfl hw0 ?_
    ·rw [Zb3 (by omega) (by omega)]
     unfold ZaD
     rw [hpc]
     refine (Zai h2).trans ((Zax X.Zff).trans ?_)
     rw [hP]
     show need (1≤a+1∧a+1≤c.S) (if a+1=sn t+1 then _ else some ({ t with to_:=((a+1:Nat):Int) - 1,pc:=65 },g))=_
     rw [Zag (by omega),if_neg (by omega),show (((a+1:Nat):Int) - 1)=(a:Int) by omega]
    ·unfold At
     exact ⟨h1,h2,h3,h4,h5,h6,by show (0:Int)≤a; omega,[],q,by rw [hP]; rfl,by rcases List.mem_cons.1 hm with e | e; exact absurd e.symm he; exact e⟩
    ·unfold pot base pen
     simp [hpc,hcpu]
     all_goals (try (repeat' split)) <;> omega
theorem p65 (X:Cx c mn cp st g k t)(hpc:t.pc=65):∃ t' g' st',Res c mn cp st g k t t' g' st':=by
 have hA:=X.at_
 unfold At at hA
 rw [hpc] at hA
 have hcpu:=X.cpu
 have hw0:=X.w0 (by omega) (by omega)
 have hC:=X.C
 have hS:=X.S
 have hO:=X.O
 obtain ⟨h1,h2,h3,h4,h5,h6,h7,p,q,h8,h9⟩:=hA
 have hc:=Zli (X.I.G.cS |> (h8 ▸ ·))
 have hS2:=Zd8 X.I.G h8
 have hnd:=X.I.G.sd .shelf rfl
 have hlen:=Zdb X.I.G
 have hto:0≤t.to_∧t.to_<c.S:=by omega
 cases q with
 | nil=>cases h9
 | cons a q =>
   have h8':st.sl .shelf=(p++[t.to_.toNat])++a::q:=by
    rw [h8]
    simp
   have ha:=Zd8 X.I.G h8'
   have hi1:(st.sl .shelf).idxOf t.to_.toNat=p.length:=by
    rw [h8] at hnd ⊢
    exact ZgG hnd
   by_cases he:a=sn t
   ·refine Res.read X (t':={ t with pc:=66 }) (pc:=65) (pc':=66) hpc rfl rfl ?_ ?_ rfl rfl rfl hw0 ?_
    ·rw [Zb3 (by omega) (by omega)]
     unfold ZaD
     rw [hpc]
     refine (Zai h2).trans ((Zag hto).trans ((Zax (X.rnx hS2)).trans ?_))
     rw [hc]
     show need (1≤a+1∧a+1≤c.S) (if a+1=sn t+1 then _ else _)=_
     rw [Zag (by omega),if_pos (by omega)]
    ·unfold At
     exact ⟨h1,h2,h3,h4,h5,h6,_,q,by rw [h8',he],by rw [ZhD]; show t.to_=_; omega⟩
    ·unfold pot base pen
     simp [hpc]
     all_goals (try (repeat' split)) <;> omega
   ·have hi2:(st.sl .shelf).idxOf a=p.length+1:=by
     rw [h8'] at hnd ⊢
     rw [ZgG hnd]
     simp
    have hll:p.length+1<c.S:=by
     rw [h8] at hlen
     simp at hlen
     omega
    refine Res.read X (t':={ t with to_:=(a:Int),pc:=65 }) (pc:=65) (pc':=65) hpc rfl rfl ?_ ?_ rfl rfl rfl hw0 ?_
    ·rw [Zb3 (by omega) (by omega)]
     unfold ZaD
     rw [hpc]
     refine (Zai h2).trans ((Zag hto).trans ((Zax (X.rnx hS2)).trans ?_))
     rw [hc]
     show need (1≤a+1∧a+1≤c.S) (if a+1=sn t+1 then _ else some ({ t with to_:=((a+1:Nat):Int) - 1,pc:=65 },g))=_
     rw [Zag (by omega),if_neg (by omega),show (((a+1:Nat):Int) - 1)=(a:Int) by omega]
    ·unfold At
     exact ⟨h1,h2,h3,h4,h5,h6,by show (0:Int)≤a; omega,_,q,h8',by rcases List.mem_cons.1 h9 with e | e; exact absurd e.symm he; exact e⟩
    ·unfold pot base pen
     simp [hpc,hcpu,plc,h6.hold,hi1,hi2]
     all_goals (try (repeat' split)) <;> omega
theorem p66 (X:Cx c mn cp st g k t)(hpc:t.pc=66):∃ t' g' st',Res c mn cp st g k t t' g' st':=by
 have hA:=X.at_
 unfold At at hA
 rw [hpc] at hA
 have hcpu:=X.cpu
 have hw0:=X.w0 (by omega) (by omega)
 have hC:=X.C
 have hS:=X.S
 have hO:=X.O
 obtain ⟨h1,h2,h3,h4,h5,h6,p,q,h7,h8⟩:=hA
 have hc:=Zli (X.I.G.cS |> (h7 ▸ ·))
 have hle:=Zof X.I.G (q:=q) (fun s hs=>by rw [h7]; simp [hs])
 refine Res.read X (t':={ t with N:=sw q,pc:=67 }) (pc:=66) (pc':=67) hpc rfl rfl ?_ ?_ rfl rfl rfl hw0 ?_
 ·rw [Zb3 (by omega) (by omega)]
  unfold ZaD
  rw [hpc]
  refine (Zai h2).trans ((Zax (X.rnx (Zau h2))).trans ?_)
  rw [hc]
  exact Zag hle
 ·unfold At
  exact ⟨h1,h2,h3,h4,h5,h6,p,q,h7,h8,rfl⟩
 ·unfold pot base pen
  simp [hpc]
  all_goals (try (repeat' split)) <;> omega
theorem p70 (X:Cx c mn cp st g k t)(hpc:t.pc=70):∃ t' g' st',Res c mn cp st g k t t' g' st':=by
 have hA:=X.at_
 unfold At at hA
 rw [hpc] at hA
 have hcpu:=X.cpu
 have hw0:=X.w0 (by omega) (by omega)
 have hC:=X.C
 have hS:=X.S
 have hO:=X.O
 obtain ⟨h1,h2⟩:=hA
 have hf:t.for_.toNat<c.C:=by
  have:=h2.1
  have:=h2.2
  omega
 refine Res.read X (t':={ t with T:=st.ht t.for_.toNat,pc:=71 }) (pc:=70) (pc':=71) hpc rfl rfl ?_ ?_ rfl rfl rfl hw0 ?_
 ·rw [Zbb (by omega)]
  unfold Zaf
  rw [hpc]
  exact (Zag (show 0≤t.for_∧t.for_<c.C from h2)).trans (Zax (X.rht hf))
 ·unfold At
  exact ⟨h1,h2,Nat.le_refl _⟩
 ·unfold pot base pen
  simp [hpc]
  all_goals (try (repeat' split)) <;> omega
theorem p71 (X:Cx c mn cp st g k t)(hpc:t.pc=71):∃ t' g' st',Res c mn cp st g k t t' g' st':=by
 have hA:=X.at_
 unfold At at hA
 rw [hpc] at hA
 have hcpu:=X.cpu
 have hw0:=X.w0 (by omega) (by omega)
 have hC:=X.C
 have hS:=X.S
 have hO:=X.O
 obtain ⟨h1,h2,h3⟩:=hA
 have hf:t.for_.toNat<c.C:=by
  have:=h2.1
  have:=h2.2
  omega
 have hr:=X.rhd hf
 rcases Zia X.I.G t.for_.toNat with hn | ⟨s,hs⟩
 ·refine Res.read X (t':={ t with H:=hw st t.for_.toNat,slab := -1,obj := -1,pc:=73 }) (pc:=71) (pc':=73) hpc rfl rfl ?_ ?_ rfl rfl rfl hw0 ?_
  ·rw [Zbb (by omega)]
   unfold Zaf
   rw [hpc]
   refine (Zag (show 0≤t.for_∧t.for_<c.C from h2)).trans ((Zax hr).trans ?_)
   rw [Zhz hn]
   rfl
  ·unfold At
   exact ⟨h1,h2⟩
  ·unfold pot base pen
   simp [hpc]
   all_goals (try (repeat' split)) <;> omega
 ·have hsS:=Zdy X.I.G (x:=.head t.for_.toNat) rfl (s:=s) (by rw [hs]; exact List.mem_cons_self)
  have hh:=ZqQ X.I.G hS.2 hO.2 hO.1 hs
  have hlt:=ZeA X.I.G (x:=.head t.for_.toNat) (s:=s) rfl hO.1 (l:=st.ol s (.head t.for_.toNat)) (fun _ h=>h)
  have hge:=Zez (l:=st.ol s (.head t.for_.toNat)) (e := -1) (by omega)
  refine Res.read X (t':={ t with H:=hw st t.for_.toNat,slab:=(s:Int),obj:=ZcP (st.ol s (.head t.for_.toNat)) (-1),pc:=72 }) (pc:=71) (pc':=72) hpc rfl rfl ?_ ?_ rfl rfl rfl hw0 ?_
  ·rw [Zbb (by omega)]
   unfold Zaf
   rw [hpc]
   refine (Zag (show 0≤t.for_∧t.for_<c.C from h2)).trans ((Zax hr).trans ((Ze3 hh).trans ?_))
   rw [if_neg (by omega),Zag (by omega)]
  ·unfold At
   exact ⟨h1,h2,⟨by show (0:Int)≤s; omega,by show (s:Int)<c.S; omega⟩,⟨hge,hlt⟩,h3,fun _=>⟨rfl,hs,rfl⟩⟩
  ·unfold pot base pen
   simp [hpc]
   all_goals (try (repeat' split)) <;> omega
theorem p73 (X:Cx c mn cp st g k t)(hpc:t.pc=73):∃ t' g' st',Res c mn cp st g k t t' g' st':=by
 have hA:=X.at_
 unfold At at hA
 rw [hpc] at hA
 have hcpu:=X.cpu
 have hw0:=X.w0 (by omega) (by omega)
 have hC:=X.C
 have hS:=X.S
 have hO:=X.O
 obtain ⟨h1,h2⟩:=hA
 have hf:t.for_.toNat<c.C:=by
  have:=h2.1
  have:=h2.2
  omega
 refine Res.read X (t':={ t with T:=st.pt t.for_.toNat,pc:=74 }) (pc:=73) (pc':=74) hpc rfl rfl ?_ ?_ rfl rfl rfl hw0 ?_
 ·rw [Zbb (by omega)]
  unfold Zaf
  rw [hpc]
  exact (Zag (show 0≤t.for_∧t.for_<c.C from h2)).trans (Zax (X.rpt hf))
 ·unfold At
  exact ⟨h1,h2,Nat.le_refl _⟩
 ·unfold pot base pen
  simp [hpc]
  all_goals (try (repeat' split)) <;> omega
end
end Go.Proofs.YtfcpdlbkmkhhcaaGreatDoor.Cv

namespace Go.Proofs.YtfcpdlbkmkhhcaaGreatDoor.Cv
open See Cw
section
variable {c:Ch}{mn cp:Nat}{st st1 st':St}{g g':List Nat}{k:Nat}{t t':Tk}
theorem p81 (X:Cx c mn cp st g k t)(hpc:t.pc=81):∃ t' g' st',Res c mn cp st g k t t' g' st':=by
 have hA:=X.at_
 unfold At at hA
 rw [hpc] at hA
 have hcpu:=X.cpu
 have hw0:=X.w0 (by omega) (by omega)
 have hC:=X.C
 have hS:=X.S
 have hO:=X.O
 obtain ⟨l,ch,h1,h2,h3,h5,h6,h7,h8,p,a,q,h9,h10,h11⟩:=hA
 have hmem:∀ o∈l,o<c.O:=fun o ho=>(ZgX X.I.G (x:=.ZaB k) (s:=sn t) rfl (by rw [h1.at_]; exact ho)).2
 have hll:l.length≤c.O:=Zqi (h1.at_ ▸ X.I.G.od (sn t) (.ZaB k) rfl) hmem
 have ha:a<c.O:=hmem a (by rw [h9]; simp)
 have hk:=h7
 rw [h9,Zc5] at hk
 have hpl:p.length<c.O:=by
  rw [h9] at hll
  simp at hll
  omega
 have hlo:0≤t.last∧t.last<c.O:=by omega
 have hln:t.last.toNat=a:=by omega
 have hr:=X.rlk (Zau h2) ha
 cases q with
 | nil =>
   refine Res.read X (t':={ t with many:=t.many+1,pc:=84 }) (pc:=81) (pc':=84) hpc rfl rfl ?_ ?_ rfl rfl rfl hw0 ?_
   ·rw [Zbb (by omega)]
    unfold Zaf
    rw [hpc]
    refine (Zai h2).trans ((Zbm hlo).trans ((Zag (by omega)).trans ?_))
    rw [hln]
    refine (Zax hr).trans ?_
    rw [Zn8 (ZqV hk.2) (by omega) (by omega)]
    exact if_pos rfl
   ·unfold At
    exact ⟨l,ch,h1,h2,h3,h5,h6,⟨-1,h7⟩,h8,by show t.many+1=_; rw [h9,h11]; simp,.inr ⟨p,a,h9,h10⟩⟩
   ·unfold pot base pen
    simp [hpc,hcpu]
    all_goals (try (repeat' split)) <;> omega
 | cons b q =>
   have hb:b<c.O:=hmem b (by rw [h9]; simp)
   refine Res.read X (t':={ t with many:=t.many+1,last:=(b:Int),pc:=81 }) (pc:=81) (pc':=81) hpc rfl rfl ?_ ?_ rfl rfl rfl hw0 ?_
   ·rw [Zbb (by omega)]
    unfold Zaf
    rw [hpc]
    refine (Zai h2).trans ((Zbm hlo).trans ((Zag (by omega)).trans ?_))
    rw [hln]
    refine (Zax hr).trans ?_
    rw [Zn8 (ZqW hk.2) (by omega) (by omega)]
    show (if (b:Int) = -1 then _ else need (0≤(b:Int)∧(b:Int)<c.O) _)=_
    rw [if_neg (by omega),Zag (by omega)]
   ·unfold At
    exact ⟨l,ch,h1,h2,h3,h5,h6,h7,h8,p++[a],b,q,by rw [h9]; simp,rfl,by show t.many+1=_; rw [h11]; simp⟩
   ·unfold pot base pen
    simp [hpc,hcpu]
    all_goals (try (repeat' split)) <;> omega
theorem p84 (X:Cx c mn cp st g k t)(hpc:t.pc=84):∃ t' g' st',Res c mn cp st g k t t' g' st':=by
 have hA:=X.at_
 unfold At at hA
 rw [hpc] at hA
 have hcpu:=X.cpu
 have hw0:=X.w0 (by omega) (by omega)
 have hC:=X.C
 have hS:=X.S
 have hO:=X.O
 obtain ⟨l,ch,h1,h2,h3,h5,h6,h7,h8,h9⟩:=hA
 have hF:=ZoQ X.I.G (sn t)
 refine Res.read X (t':={ t with F:=fr st (sn t),pc:=85 }) (pc:=84) (pc':=85) hpc rfl rfl ?_ ?_ rfl rfl rfl hw0 ?_
 ·rw [Zbb (by omega)]
  unfold Zaf
  rw [hpc]
  refine (Zai h2).trans ((Zax (X.rfr (Zau h2))).trans ?_)
  rw [Zag hF]
 ·unfold At
  exact ⟨l,ch,h1,h2,h3,h5,h6,h7,h8,h9.1,h9.2,hF⟩
 ·unfold pot base pen
  simp [hpc,hcpu]
  all_goals (try (repeat' split)) <;> omega
theorem p85 (X:Cx c mn cp st g k t)(hpc:t.pc=85):∃ t' g' st',Res c mn cp st g k t t' g' st':=by
 have hA:=X.at_
 unfold At at hA
 rw [hpc] at hA
 have hcpu:=X.cpu
 have hw0:=X.w0 (by omega) (by omega)
 have hC:=X.C
 have hS:=X.S
 have hO:=X.O
 obtain ⟨l,ch,h1,h2,h3,h5,h6,h7,h8,h9,h10,h11⟩:=hA
 have hct:=ZbW (c:=c) h3.1 h3.2
 have hft:=Zcq X.I.G h1.at_
 have hr:=X.rct (Zau h2)
 by_cases hob:t.obj<0
 ·have hl:l=[]:=Zh6 (h6 ▸ hob)
  refine Res.read X (t':={ t with K:=ct c st (sn t),pc:=87 }) (pc:=85) (pc':=87) hpc rfl rfl ?_ ?_ rfl rfl rfl hw0 ?_
  ·rw [Zbb (by omega)]
   unfold Zaf
   rw [hpc]
   refine (Zai h2).trans ((Zax hr).trans ?_)
   rw [hct]
   refine (Zbd (by omega) hO.1 hO.2).trans ?_
   rw [Zag ⟨rfl,by omega,by omega⟩,if_pos hob]
  ·unfold At
   exact ⟨l,ch,h1,h2,h3,h5,h6,by rw [hl]; trivial,h8,h9,.inl hl,h11,_,_,hct,by omega,rfl,by omega⟩
  ·unfold pot base pen
   simp [hpc,hcpu]
   all_goals (try (repeat' split)) <;> omega
 ·have hl:l≠[]:=by
   intro e
   rw [e] at h6
   have:t.obj = -1:=h6
   omega
  refine Res.read X (t':={ t with K:=ct c st (sn t),pc:=86 }) (pc:=85) (pc':=86) hpc rfl rfl ?_ ?_ rfl rfl rfl hw0 ?_
  ·rw [Zbb (by omega)]
   unfold Zaf
   rw [hpc]
   refine (Zai h2).trans ((Zax hr).trans ?_)
   rw [hct]
   refine (Zbd (by omega) hO.1 hO.2).trans ?_
   rw [Zag ⟨rfl,by omega,by omega⟩,if_neg hob]
  ·unfold At
   exact ⟨l,ch,h1,h2,h3,h5,h6,h7,h8,h9,h10.resolve_left hl,h11,_,_,hct,by omega,rfl,by omega⟩
  ·unfold pot base pen
   simp [hpc,hcpu]
   all_goals (try (repeat' split)) <;> omega
theorem p88 (X:Cx c mn cp st g k t)(hpc:t.pc=88):∃ t' g' st',Res c mn cp st g k t t' g' st':=by
 have hA:=X.at_
 unfold At at hA
 rw [hpc] at hA
 have hcpu:=X.cpu
 have hw0:=X.w0 (by omega) (by omega)
 have hC:=X.C
 have hS:=X.S
 have hO:=X.O
 obtain ⟨ch,h1,h2,h3,h4,h5,h6,h7⟩:=hA
 have hh:=h6.held
 by_cases hm:st.held<mn
 ·refine Res.read X (t':={ t with pc:=90 }) (pc:=88) (pc':=90) hpc rfl rfl ?_ ?_ rfl rfl rfl hw0 ?_
  ·rw [Zbb (by omega)]
   unfold Zaf
   rw [hpc]
   exact (Zax X.ZfX).trans (if_pos hm)
  ·unfold At
   exact ⟨ch,h1,h2,h3,by intro e; unfold Full at h4; rw [e] at h4; simp at h4; omega,fun _=>by omega,h6,h7⟩
  ·unfold pot base pen
   simp [hpc,hcpu]
   all_goals (try (repeat' split)) <;> omega
 ·refine Res.read X (t':={ t with pc:=76 }) (pc:=88) (pc':=76) hpc rfl rfl ?_ ?_ rfl rfl rfl hw0 ?_
  ·rw [Zbb (by omega)]
   unfold Zaf
   rw [hpc]
   exact (Zax X.ZfX).trans (if_neg hm)
  ·unfold At
   exact ⟨ch,h1,h2,h3,h4,h5,h6,h7⟩
  ·have hcn:t.back=95→cont c st t.back k=2 * c.S+12:=by
    intro e
    simp [cont,e]
   unfold pot base pen
   simp [hpc,hcpu]
   split
   ·rename_i e
    rw [hcn e]
    omega
   ·omega
theorem p90 (X:Cx c mn cp st g k t)(hpc:t.pc=90):∃ t' g' st',Res c mn cp st g k t t' g' st':=by
 have hA:=X.at_
 unfold At at hA
 rw [hpc] at hA
 have hcpu:=X.cpu
 have hw0:=X.w0 (by omega) (by omega)
 have hC:=X.C
 have hS:=X.S
 have hO:=X.O
 obtain ⟨ch,h1,h2,h3,h4,h5,h6,h7⟩:=hA
 have hle:=Zof X.I.G (q:=st.sl .shelf) (fun s hs=>hs)
 refine Res.read X (t':={ t with N:=sw (st.sl .shelf),pc:=91 }) (pc:=90) (pc':=91) hpc rfl rfl ?_ ?_ rfl rfl rfl hw0 ?_
 ·rw [Zbb (by omega)]
  unfold Zaf
  rw [hpc]
  refine (Zax X.Zff).trans ?_
  exact Zag hle
 ·unfold At
  exact ⟨ch,h1,h2,h3,h4,h5,h6,h7,rfl⟩
 ·unfold pot base pen
  simp [hpc,hcpu]
  all_goals (try (repeat' split)) <;> omega
theorem p96 (X:Cx c mn cp st g k t)(hpc:t.pc=96):∃ t' g' st',Res c mn cp st g k t t' g' st':=by
 have hA:=X.at_
 unfold At at hA
 rw [hpc] at hA
 have hcpu:=X.cpu
 have hw0:=X.w0 (by omega) (by omega)
 have hC:=X.C
 have hS:=X.S
 have hO:=X.O
 obtain ⟨h1,h2⟩:=hA
 have hr:=X.Zff
 have hlen:=Zdb X.I.G
 cases hP:st.sl .shelf with
 | nil =>
   refine Res.read X (t':={ t with N:=0,to_ := -1,pc:=99 }) (pc:=96) (pc':=99) hpc rfl rfl ?_ ?_ rfl rfl rfl hw0 ?_
   ·rw [Zbb (by omega)]
    unfold Zaf
    rw [hpc]
    refine (Zax hr).trans ?_
    rw [hP]
    exact Zag (Nat.zero_le _)
   ·unfold At
    exact ⟨h1,h2⟩
   ·unfold pot base pen
    simp [hpc]
    all_goals (try (repeat' split)) <;> omega
 | cons s r =>
   have hs:=Zd8 X.I.G (p:=[]) hP
   refine Res.read X (t':={ t with N:=s+1,to_ := -1,slab:=(s:Int),pc:=97 }) (pc:=96) (pc':=97) hpc rfl rfl ?_ ?_ rfl rfl rfl hw0 ?_
   ·rw [Zbb (by omega)]
    unfold Zaf
    rw [hpc]
    refine (Zax hr).trans ?_
    rw [hP]
    show need (s+1≤c.S) (if s+1=0 then _ else some ({ t with N:=s+1,to_ := -1,slab:=((s+1:Nat):Int) - 1,pc:=97 },g))=_
    rw [Zag (by omega),if_neg (by omega),show (((s+1:Nat):Int) - 1)=(s:Int) by omega]
   ·unfold At
    exact ⟨h1,h2,⟨by show (0:Int)≤s; omega,by show (s:Int)<c.S; omega⟩,[],r,by rw [hP]; rfl,rfl⟩
   ·unfold pot base pen
    simp [hpc,hcpu,shl,h2.hold]
    all_goals (try (repeat' split)) <;> omega
theorem p97 (X:Cx c mn cp st g k t)(hpc:t.pc=97):∃ t' g' st',Res c mn cp st g k t t' g' st':=by
 have hA:=X.at_
 unfold At at hA
 rw [hpc] at hA
 have hcpu:=X.cpu
 have hw0:=X.w0 (by omega) (by omega)
 have hC:=X.C
 have hS:=X.S
 have hO:=X.O
 obtain ⟨h1,h2,h3,p,q,h4,h5⟩:=hA
 have hsh:=Zbo X.I.G h4
 obtain ⟨h8,h9⟩:=X.I.G.shelf _ hsh
 have h9:=h9 (by rw [h2.cut]; intro e; cases e)
 have hct:=ZbW (c:=c) h8 h9.1
 have hfl:=Zln X.I.G (sn t)
 have hnd:=X.I.G.sd .shelf rfl
 have hi1:(st.sl .shelf).idxOf t.slab.toNat=p.length:=by
  rw [h4] at hnd ⊢
  exact ZgG hnd
 have hll:(st.sl .shelf).length=p.length+1+q.length:=by
  rw [h4]
  simp
  omega
 by_cases hiu:c.O - (st.ol (sn t) .first).length=0
 ·refine Res.read X (t':={ t with K:=ct c st (sn t),pc:=100 }) (pc:=97) (pc':=100) hpc rfl rfl ?_ ?_ rfl rfl rfl hw0 ?_
  ·rw [Zbb (by omega)]
   unfold Zaf
   rw [hpc]
   refine (Zai h3).trans ((Zax (X.rct (Zau h3))).trans ?_)
   rw [hct]
   refine (Zbd (by omega) hO.1 hO.2).trans ?_
   rw [if_pos hiu]
  ·unfold At
   exact ⟨h1,h2,h3,⟨p,q,h4,h5⟩,(show Full c st (sn t) from by unfold Full; omega),rfl⟩
  ·unfold pot base pen
   simp [hpc,hcpu,shl,plc,h2.hold,hi1]
   all_goals (try (repeat' split)) <;> omega
 ·refine Res.read X (t':={ t with K:=ct c st (sn t),pc:=98 }) (pc:=97) (pc':=98) hpc rfl rfl ?_ ?_ rfl rfl rfl hw0 ?_
  ·rw [Zbb (by omega)]
   unfold Zaf
   rw [hpc]
   refine (Zai h3).trans ((Zax (X.rct (Zau h3))).trans ?_)
   rw [hct]
   refine (Zbd (by omega) hO.1 hO.2).trans ?_
   rw [if_neg hiu]
  ·unfold At
   exact ⟨h1,h2,h3,p,q,h4,h5⟩
  ·unfold pot base pen
   simp [hpc,hcpu,shl,plc,h2.hold,hi1]
   all_goals (try (repeat' split)) <;> omega
theorem p98 (X:Cx c mn cp st g k t)(hpc:t.pc=98):∃ t' g' st',Res c mn cp st g k t t' g' st':=by
 have hA:=X.at_
 unfold At at hA
 rw [hpc] at hA
 have hcpu:=X.cpu
 have hw0:=X.w0 (by omega) (by omega)
 have hC:=X.C
 have hS:=X.S
 have hO:=X.O
 obtain ⟨h1,h2,h3,p,q,h4,h5⟩:=hA
 have hc:=Zli (X.I.G.cS |> (h4 ▸ ·))
 have hle:=Zof X.I.G (q:=q) (fun s hs=>by rw [h4]; simp [hs])
 have hnd:=X.I.G.sd .shelf rfl
 have hi1:(st.sl .shelf).idxOf t.slab.toNat=p.length:=by
  rw [h4] at hnd ⊢
  exact ZgG hnd
 have hll:(st.sl .shelf).length=p.length+1+q.length:=by
  rw [h4]
  simp
  omega
 have hr:=X.rnx (Zau h3)
 cases q with
 | nil =>
   refine Res.read X (t':={ t with N:=0,to_:=t.slab,pc:=99 }) (pc:=98) (pc':=99) hpc rfl rfl ?_ ?_ rfl rfl rfl hw0 ?_
   ·rw [Zbb (by omega)]
    unfold Zaf
    rw [hpc]
    refine (Zai h3).trans ((Zax hr).trans ?_)
    rw [hc]
    exact Zag (Nat.zero_le _)
   ·unfold At
    exact ⟨h1,h2⟩
   ·unfold pot base pen
    simp [hpc,hcpu,shl,plc,h2.hold,hi1]
    all_goals (try (repeat' split)) <;> omega
 | cons s r =>
   have h4':st.sl .shelf=(p++[sn t])++s::r:=by
    rw [h4]
    simp
   have hs:=Zd8 X.I.G h4'
   have hi2:(st.sl .shelf).idxOf s=p.length+1:=by
    rw [h4'] at hnd ⊢
    rw [ZgG hnd]
    simp
   simp only [List.length_cons] at hll
   refine Res.read X (t':={ t with N:=s+1,to_:=t.slab,slab:=(s:Int),pc:=97 }) (pc:=98) (pc':=97) hpc rfl rfl ?_ ?_ rfl rfl rfl hw0 ?_
   ·rw [Zbb (by omega)]
    unfold Zaf
    rw [hpc]
    refine (Zai h3).trans ((Zax hr).trans ?_)
    rw [hc]
    show need (s+1≤c.S) (if s+1=0 then _ else some ({ t with N:=s+1,to_:=t.slab,slab:=((s+1:Nat):Int) - 1,pc:=97 },g))=_
    rw [Zag (by omega),if_neg (by omega),show (((s+1:Nat):Int) - 1)=(s:Int) by omega]
   ·unfold At
    exact ⟨h1,h2,⟨by show (0:Int)≤s; omega,by show (s:Int)<c.S; omega⟩,_,r,h4',by rw [ZhD]; exact ZiA h3⟩
   ·unfold pot base pen
    simp [hpc,hcpu,shl,plc,h2.hold,hi1,hi2]
    all_goals (try (repeat' split)) <;> omega
theorem Zub (X:Cx c mn cp st g k t)(hpc:t.pc=100):∃ t' g' st',Res c mn cp st g k t t' g' st':=by
 have hA:=X.at_
 unfold At at hA
 rw [hpc] at hA
 have hcpu:=X.cpu
 have hw0:=X.w0 (by omega) (by omega)
 have hC:=X.C
 have hS:=X.S
 have hO:=X.O
 obtain ⟨h1,h2,h3,h4,h5,h6⟩:=hA
 refine Res.read X (t':={ t with F:=fr st (sn t),pc:=101 }) (pc:=100) (pc':=101) hpc rfl rfl ?_ ?_ rfl rfl rfl hw0 ?_
 ·rw [Zbb (by omega)]
  unfold Zaf
  rw [hpc]
  exact (Zai h3).trans (Zax (X.rfr (Zau h3)))
 ·unfold At
  exact ⟨h1,h2,h3,h4,h5,rfl,h6⟩
 ·unfold pot base pen
  simp [hpc]
  all_goals (try (repeat' split)) <;> omega
theorem Zuc (X:Cx c mn cp st g k t)(hpc:t.pc=101):∃ t' g' st',Res c mn cp st g k t t' g' st':=by
 have hA:=X.at_
 unfold At at hA
 rw [hpc] at hA
 have hcpu:=X.cpu
 have hw0:=X.w0 (by omega) (by omega)
 have hC:=X.C
 have hS:=X.S
 have hO:=X.O
 obtain ⟨h1,h2,h3,⟨p,q,h4,h7⟩,h5,h6⟩:=hA
 have hc:=Zli (X.I.G.cS |> (h4 ▸ ·))
 have hle:=Zof X.I.G (q:=q) (fun s hs=>by rw [h4]; simp [hs])
 refine Res.read X (t':={ t with N:=sw q,pc:=102 }) (pc:=101) (pc':=102) hpc rfl rfl ?_ ?_ rfl rfl rfl hw0 ?_
 ·rw [Zbb (by omega)]
  unfold Zaf
  rw [hpc]
  refine (Zai h3).trans ((Zax (X.rnx (Zau h3))).trans ?_)
  rw [hc]
  exact Zag hle
 ·unfold At
  exact ⟨h1,h2,h3,⟨p,q,h4,h7,rfl⟩,h5,h6⟩
 ·unfold pot base pen
  simp [hpc]
  all_goals (try (repeat' split)) <;> omega
end
end Go.Proofs.YtfcpdlbkmkhhcaaGreatDoor.Cv
