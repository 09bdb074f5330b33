/-
  Texts of this claim, joined. No condition.
-/
import Derived.Test.YtfcpdlbkmkhhcaaGreatDoorCn28
namespace Go.Proofs.YtfcpdlbkmkhhcaaGreatDoor.Cv
open See Cw
section
variable {c:Ch}{mn cp:Nat}{st st1 st':St}{g g':List Nat}{k:Nat}{t t':Tk}
theorem p12 (X:Cx c mn cp st g k t)(hpc:t.pc=12):∃ t' g' st',Res c mn cp st g k t t' g' st':=by
 have hA:=X.at_
 unfold At at hA
 rw [hpc] at hA
 have hcpu:=X.cpu
 have hw0:=X.w0 (by omega) (by omega)
 have hC:=X.C
 have hS:=X.S
 have hO:=X.O
 obtain ⟨h1,h2,h3,h4,h5⟩:=hA
 have hloc:=h1.loc X.I.G (o:=on t) (by simp)
 refine Res.eff X (Zef st (sn t) (on t) (ZaR t.last (ky c (sn t)) (on t))) (hx:=none) (px:=none) (t':={ t with pc:=13 }) (g':=g.set (ZhF c (sn t) (on t)) (ZaR t.last (ky c (sn t)) (on t))) (pc:=12) (pc':=13) hpc rfl rfl ?_ rfl rfl rfl (.inl ⟨hw0,by decide⟩) (ZbQ X.I.G hloc) (fun j hj=>ZaN hj hloc) rfl rfl rfl rfl ?_ (fun e=>by obtain ⟨t2,e1,e2,_⟩:=X.I.lockd k e; rw [X.tk] at e1; cases e1; rw [hpc] at e2; cases e2) (ZpB X (Zau h2) (ZdF h3)) (Zal X.W (ZcR (by omega))) (Zee X (fun j hj=>ZaN hj hloc) rfl rfl (fun _=>rfl) rfl rfl rfl ?_) (fun _ _=>Iff.rfl)
 ·rw [Zeg (by omega)]
  unfold Zbq
  rw [hpc]
  exact (Zai h2).trans ((Zbm h3).trans ((Zag (by omega)).trans (ZbG (X.rlk (Zau h2) (ZdF h3)))))
 ·unfold At
  exact ⟨h1,h2,h3,if_pos ⟨rfl,rfl⟩,h5⟩
 ·show pot c st { t with pc:=13 }+1≤pot c st t
  unfold pot base pen
  simp [hpc,hcpu]
  all_goals (try (repeat' split)) <;> omega
theorem p52 (X:Cx c mn cp st g k t)(hpc:t.pc=52):∃ t' g' st',Res c mn cp st g k t t' g' st':=by
 have hA:=X.at_
 unfold At at hA
 rw [hpc] at hA
 have hcpu:=X.cpu
 have hw0:=X.w0 (by omega) (by omega)
 have hC:=X.C
 have hS:=X.S
 have hO:=X.O
 obtain ⟨h1,h2,h3,h4,iu,f,hK,hiu,h5⟩:=hA
 have hloc:=h1.loc X.I.G (o:=on t) (by simp)
 cases f with
 | true =>
   refine Res.eff X (Zef st (sn t) (on t) (ZaR ((t.F:Int) - 1) (ky c (sn t)) (on t))) (hx:=none) (px:=none) (t':={ t with pc:=53 }) (g':=g.set (ZhF c (sn t) (on t)) (ZaR ((t.F:Int) - 1) (ky c (sn t)) (on t))) (pc:=52) (pc':=53) hpc rfl rfl ?_ rfl rfl rfl (.inl ⟨hw0,by decide⟩) (ZbQ X.I.G hloc) (fun j hj=>ZaN hj hloc) rfl rfl rfl rfl ?_ (fun e=>by obtain ⟨t2,e1,e2,_⟩:=X.I.lockd k e; rw [X.tk] at e1; cases e1; rw [hpc] at e2; cases e2) (ZpB X (Zau h2) (ZdF h3)) (Zal X.W (ZcR (by omega))) (Zee X (fun j hj=>ZaN hj hloc) rfl rfl (fun _=>rfl) rfl rfl rfl ?_) (fun _ _=>Iff.rfl)
   ·rw [Zb3 (by omega) (by omega)]
    unfold ZaD
    rw [hpc]
    refine (Zai h2).trans ((Zbm h3).trans ((Zag h4).trans ?_))
    rw [hK]
    refine (Zbd hiu hO.1 hO.2).trans ((Zag h5).trans ((ZbG (X.rlk (Zau h2) (ZdF h3))).trans ?_))
    rw [if_pos rfl]
   ·unfold At
    exact ⟨h1,h2,h3,h4,⟨iu,true,hK,hiu,h5,.inl rfl⟩,if_pos ⟨rfl,rfl⟩⟩
   ·show pot c st { t with pc:=53 }+1≤pot c st t
    unfold pot base pen
    simp [hpc,hcpu]
    all_goals (try (repeat' split)) <;> omega
 | false =>
   by_cases hF:t.F=0
   ·skip
    refine Res.eff X (Zef st (sn t) (on t) (ZaR ((t.F:Int) - 1) (ky c (sn t)) (on t))) (hx:=none) (px:=none) (t':={ t with pc:=54 }) (g':=g.set (ZhF c (sn t) (on t)) (ZaR ((t.F:Int) - 1) (ky c (sn t)) (on t))) (pc:=52) (pc':=54) hpc rfl rfl ?_ rfl rfl rfl (.inl ⟨hw0,by decide⟩) (ZbQ X.I.G hloc) (fun j hj=>ZaN hj hloc) rfl rfl rfl rfl ?_ (fun e=>by obtain ⟨t2,e1,e2,_⟩:=X.I.lockd k e; rw [X.tk] at e1; cases e1; rw [hpc] at e2; cases e2) (ZpB X (Zau h2) (ZdF h3)) (Zal X.W (ZcR (by omega))) (Zee X (fun j hj=>ZaN hj hloc) rfl rfl (fun _=>rfl) rfl rfl rfl ?_) (fun _ _=>Iff.rfl)
    ·rw [Zb3 (by omega) (by omega)]
     unfold ZaD
     rw [hpc]
     refine (Zai h2).trans ((Zbm h3).trans ((Zag h4).trans ?_))
     rw [hK]
     refine (Zbd hiu hO.1 hO.2).trans ((Zag h5).trans ((ZbG (X.rlk (Zau h2) (ZdF h3))).trans ?_))
     rw [if_neg (by decide),if_pos hF]
    ·unfold At
     exact ⟨h1,h2,h3,hF,⟨iu,false,hK,hiu,h5,rfl⟩,if_pos ⟨rfl,rfl⟩⟩
    ·show pot c st { t with pc:=54 }+1≤pot c st t
     unfold pot base pen
     simp [hpc,hcpu]
     all_goals (try (repeat' split)) <;> omega
   ·by_cases hi:1<iu
    ·skip
     refine Res.eff X (Zef st (sn t) (on t) (ZaR ((t.F:Int) - 1) (ky c (sn t)) (on t))) (hx:=none) (px:=none) (t':={ t with pc:=53 }) (g':=g.set (ZhF c (sn t) (on t)) (ZaR ((t.F:Int) - 1) (ky c (sn t)) (on t))) (pc:=52) (pc':=53) hpc rfl rfl ?_ rfl rfl rfl (.inl ⟨hw0,by decide⟩) (ZbQ X.I.G hloc) (fun j hj=>ZaN hj hloc) rfl rfl rfl rfl ?_ (fun e=>by obtain ⟨t2,e1,e2,_⟩:=X.I.lockd k e; rw [X.tk] at e1; cases e1; rw [hpc] at e2; cases e2) (ZpB X (Zau h2) (ZdF h3)) (Zal X.W (ZcR (by omega))) (Zee X (fun j hj=>ZaN hj hloc) rfl rfl (fun _=>rfl) rfl rfl rfl ?_) (fun _ _=>Iff.rfl)
     ·rw [Zb3 (by omega) (by omega)]
      unfold ZaD
      rw [hpc]
      refine (Zai h2).trans ((Zbm h3).trans ((Zag h4).trans ?_))
      rw [hK]
      refine (Zbd hiu hO.1 hO.2).trans ((Zag h5).trans ((ZbG (X.rlk (Zau h2) (ZdF h3))).trans ?_))
      rw [if_neg (by decide),if_neg hF,if_pos hi]
     ·unfold At
      exact ⟨h1,h2,h3,h4,⟨iu,false,hK,hiu,h5,.inr ⟨hF,hi⟩⟩,if_pos ⟨rfl,rfl⟩⟩
     ·show pot c st { t with pc:=53 }+1≤pot c st t
      unfold pot base pen
      simp [hpc,hcpu]
      all_goals (try (repeat' split)) <;> omega
    ·skip
     refine Res.eff X (Zef st (sn t) (on t) (ZaR ((t.F:Int) - 1) (ky c (sn t)) (on t))) (hx:=none) (px:=none) (t':={ t with pc:=55 }) (g':=g.set (ZhF c (sn t) (on t)) (ZaR ((t.F:Int) - 1) (ky c (sn t)) (on t))) (pc:=52) (pc':=55) hpc rfl rfl ?_ rfl rfl rfl (.inl ⟨hw0,by decide⟩) (ZbQ X.I.G hloc) (fun j hj=>ZaN hj hloc) rfl rfl rfl rfl ?_ (fun e=>by obtain ⟨t2,e1,e2,_⟩:=X.I.lockd k e; rw [X.tk] at e1; cases e1; rw [hpc] at e2; cases e2) (ZpB X (Zau h2) (ZdF h3)) (Zal X.W (ZcR (by omega))) (Zee X (fun j hj=>ZaN hj hloc) rfl rfl (fun _=>rfl) rfl rfl rfl ?_) (fun _ _=>Iff.rfl)
     ·rw [Zb3 (by omega) (by omega)]
      unfold ZaD
      rw [hpc]
      refine (Zai h2).trans ((Zbm h3).trans ((Zag h4).trans ?_))
      rw [hK]
      refine (Zbd hiu hO.1 hO.2).trans ((Zag h5).trans ((ZbG (X.rlk (Zau h2) (ZdF h3))).trans ?_))
      rw [if_neg (by decide),if_neg hF,if_neg hi]
     ·unfold At
      exact ⟨h1,h2,h3,⟨by show 1≤t.F; omega,h4⟩,⟨iu,false,hK,hiu,by omega,rfl⟩,if_pos ⟨rfl,rfl⟩⟩
     ·show pot c st { t with pc:=55 }+1≤pot c st t
      unfold pot base pen
      simp [hpc,hcpu]
      all_goals (try (repeat' split)) <;> omega
theorem p86 (X:Cx c mn cp st g k t)(hpc:t.pc=86):∃ t' g' st',Res c mn cp st g k t t' g' st':=by
 have hA:=X.at_
 unfold At at hA
 rw [hpc] at hA
 have hcpu:=X.cpu
 have hw0:=X.w0 (by omega) (by omega)
 have hC:=X.C
 have hS:=X.S
 have hO:=X.O
 obtain ⟨l,ch,h1,h2,h3,h5,h6,⟨e,h7⟩,h8,h9,⟨p,a,h10,h11⟩,h12,h13⟩:=hA
 have hmem:∀ o∈l,o<c.O:=fun o ho=>(ZgX X.I.G (x:=.ZaB k) (s:=sn t) rfl (by rw [h1.at_]; exact ho)).2
 have ha:a<c.O:=hmem a (by rw [h10]; simp)
 have hloc:=h1.loc X.I.G (o:=a) (by rw [h10]; simp)
 have hlo:0≤t.last∧t.last<c.O:=by omega
 have hln:t.last.toNat=a:=by omega
 have hnd:(p++[a]).Nodup:=by
  rw [← h10,← h1.at_]
  exact X.I.G.od (sn t) (.ZaB k) rfl
 have hap:a∉p:=fun e=>(List.nodup_append.1 hnd).2.2 a e a (by simp) rfl
 have hlk:lkd ((Zef st (sn t) a (ZaR ((t.F:Int) - 1) (ky c (sn t)) a)).lk (sn t)) (ky c (sn t)) l ((t.F:Int) - 1):=by
  rw [h10,Zc5] at h7 ⊢
  refine ⟨Ze4 (fun o ho => ?_) h7.1,if_pos ⟨rfl,rfl⟩,trivial⟩
  exact if_neg (show ¬(sn t=sn t∧o=a) from fun e=>hap (e.2 ▸ ho))
 refine Res.eff X (Zef st (sn t) a (ZaR ((t.F:Int) - 1) (ky c (sn t)) a)) (hx:=none) (px:=none) (t':={ t with pc:=87 }) (g':=g.set (ZhF c (sn t) a) (ZaR ((t.F:Int) - 1) (ky c (sn t)) a)) (pc:=86) (pc':=87) hpc rfl rfl ?_ rfl rfl rfl (.inl ⟨hw0,by decide⟩) (ZbQ X.I.G hloc) (fun j hj=>ZaN hj hloc) rfl rfl rfl rfl ?_ (fun _=>⟨rfl,hw0⟩) (ZpB X (Zau h2) ha) (Zal X.W (ZcR (by omega))) (Zee X (fun j hj=>ZaN hj hloc) rfl rfl (fun _=>rfl) rfl rfl rfl ?_) (fun _ _=>Iff.rfl)
 ·rw [Zbb (by omega)]
  unfold Zaf
  rw [hpc]
  refine (Zai h2).trans ((Zbm hlo).trans ((Zag h12).trans ?_))
  rw [hln]
  exact ZbG (X.rlk (Zau h2) ha)
 ·unfold At
  exact ⟨l,ch,h1,h2,h3,h5,h6,hlk,h8,h9,.inr ⟨p,a,h10,h11⟩,h12,h13⟩
 ·show pot c st { t with pc:=87 }+1≤pot c st t
  unfold pot base pen
  simp [hpc,hcpu]
  all_goals (try (repeat' split)) <;> omega
theorem p43 (X:Cx c mn cp st g k t)(hpc:t.pc=43)(hw0:t.want=0):∃ t' g' st',Res c mn cp st g k t t' g' st':=by
 have hA:=X.at_
 unfold At at hA
 rw [hpc] at hA
 have hcpu:=X.cpu
 have hC:=X.C
 have hS:=X.S
 have hO:=X.O
 obtain ⟨-,hA⟩:=hA
 obtain ⟨h1,h2,h3,h4,h5,h6⟩:=hA hw0
 have ho:t.many.toNat<c.O:=by omega
 have hloc:=h1.loc X.I.G (o:=t.many.toNat) (List.mem_range.2 ho)
 have hE:lkE c t.many.toNat=if t.many+1<c.O then t.many+1 else -1:=by
  unfold lkE
  have e:((t.many.toNat+1:Nat):Int)=t.many+1:=by omega
  rw [e]
 have hEl : -1≤lkE c t.many.toNat∧lkE c t.many.toNat<c.O:=by
  unfold lkE
  split <;> omega
 have hlk:∀ i,i<t.many.toNat+1→(Zef st (sn t) t.many.toNat (ZaR (lkE c t.many.toNat) (ky c (sn t)) t.many.toNat)).lk (sn t) i=ZaR (lkE c i) (ky c (sn t)) i:=by
  intro i hi
  by_cases e:i=t.many.toNat
  ·subst e
   exact if_pos ⟨rfl,rfl⟩
  ·exact (if_neg (fun e2=>e e2.2)).trans (h6 i (by omega))
 by_cases hm:t.many+1<c.O
 ·skip
  refine Res.eff X (Zef st (sn t) t.many.toNat (ZaR (lkE c t.many.toNat) (ky c (sn t)) t.many.toNat)) (hx:=none) (px:=none) (t':={ t with many:=t.many+1,pc:=43 }) (g':=g.set (ZhF c (sn t) t.many.toNat) (ZaR (lkE c t.many.toNat) (ky c (sn t)) t.many.toNat)) (pc:=43) (pc':=43) hpc rfl rfl ?_ rfl rfl rfl (.inl ⟨hw0,by decide⟩) (ZbQ X.I.G hloc) (fun j hj=>ZaN hj hloc) rfl rfl rfl rfl ?_ (fun e=>by obtain ⟨t2,e1,e2,_⟩:=X.I.lockd k e; rw [X.tk] at e1; cases e1; rw [hpc] at e2; cases e2) (ZpB X (Zau h3) ho) (Zal X.W (ZcR (by omega))) (Zee X (fun j hj=>ZaN hj hloc) rfl rfl (fun _=>rfl) rfl rfl rfl ?_) (fun _ _=>Iff.rfl)
  ·rw [ZbE (by omega) (by omega)]
   unfold Zas
   rw [hpc]
   refine (Zai h3).trans ((Zbm (by omega)).trans ((ZbG (X.rlk (Zau h3) ho)).trans ?_))
   rw [hE,if_pos hm,if_pos hm]
  ·unfold At
   exact ⟨fun e=>absurd (hw0.symm.trans e) (by decide),fun _=>⟨h1,h2,h3,h4,⟨by show 0≤t.many+1; omega,hm⟩,fun i hi=>hlk i (by have:i<(t.many+1).toNat:=hi; omega)⟩⟩
  ·show pot c st { t with many:=t.many+1,pc:=43 }+1≤pot c st t
   unfold pot base pen
   simp [hpc,hw0]
   all_goals (try (repeat' split)) <;> omega
 ·skip
  refine Res.eff X (Zef st (sn t) t.many.toNat (ZaR (lkE c t.many.toNat) (ky c (sn t)) t.many.toNat)) (hx:=none) (px:=none) (t':={ t with many:=t.many+1,pc:=44 }) (g':=g.set (ZhF c (sn t) t.many.toNat) (ZaR (lkE c t.many.toNat) (ky c (sn t)) t.many.toNat)) (pc:=43) (pc':=44) hpc rfl rfl ?_ rfl rfl rfl (.inl ⟨hw0,by decide⟩) (ZbQ X.I.G hloc) (fun j hj=>ZaN hj hloc) rfl rfl rfl rfl ?_ (fun e=>by obtain ⟨t2,e1,e2,_⟩:=X.I.lockd k e; rw [X.tk] at e1; cases e1; rw [hpc] at e2; cases e2) (ZpB X (Zau h3) ho) (Zal X.W (ZcR (by omega))) (Zee X (fun j hj=>ZaN hj hloc) rfl rfl (fun _=>rfl) rfl rfl rfl ?_) (fun _ _=>Iff.rfl)
  ·rw [ZbE (by omega) (by omega)]
   unfold Zas
   rw [hpc]
   refine (Zai h3).trans ((Zbm (by omega)).trans ((ZbG (X.rlk (Zau h3) ho)).trans ?_))
   rw [hE,if_neg hm,if_neg hm]
  ·unfold At
   exact ⟨h1,h2,h3,h4,fun i hi=>hlk i (by omega)⟩
  ·show pot c st { t with many:=t.many+1,pc:=44 }+1≤pot c st t
   unfold pot base pen
   simp [hpc,hw0]
   all_goals (try (repeat' split)) <;> omega
end
end Go.Proofs.YtfcpdlbkmkhhcaaGreatDoor.Cv

namespace Go.Proofs.YtfcpdlbkmkhhcaaGreatDoor.Cv
open See Cw
section
variable {c:Ch}{mn cp:Nat}{st st1 st':St}{g g':List Nat}{k:Nat}{t t':Tk}
theorem p0 (X:Cx c mn cp st g k t)(hpc:t.pc=0):∃ t' g' st',Res c mn cp st g k t t' g' st':=by
 have hA:=X.at_
 unfold At at hA
 rw [hpc] at hA
 have hcpu:=X.cpu
 have hw0:=X.w0 (by omega) (by omega)
 have hC:=X.C
 have hS:=X.S
 have hO:=X.O
 refine Res.read X (t':={ t with T:=st.ht k,pc:=1 }) (pc:=0) (pc':=1) hpc rfl rfl ?_ ?_ rfl rfl rfl hw0 ?_
 ·rw [Zeg (by omega)]
  unfold Zbq
  rw [hpc]
  exact Zax (by rw [hcpu]; exact X.rht X.kC)
 ·unfold At
  exact ⟨hA,Nat.le_refl _⟩
 ·unfold pot base pen
  simp [hpc,hcpu,AA]
  all_goals (try (repeat' split)) <;> omega
theorem p10 (X:Cx c mn cp st g k t)(hpc:t.pc=10):∃ t' g' st',Res c mn cp st g k t t' g' st':=by
 have hA:=X.at_
 unfold At at hA
 rw [hpc] at hA
 have hcpu:=X.cpu
 have hw0:=X.w0 (by omega) (by omega)
 have hC:=X.C
 have hS:=X.S
 have hO:=X.O
 obtain ⟨h1,h2,h3⟩:=hA
 refine Res.read X (t':={ t with T:=st.ht k,pc:=11 }) (pc:=10) (pc':=11) hpc rfl rfl ?_ ?_ rfl rfl rfl hw0 ?_
 ·rw [Zeg (by omega)]
  unfold Zbq
  rw [hpc]
  exact Zax (by rw [hcpu]; exact X.rht X.kC)
 ·unfold At
  exact ⟨h1,h2,h3,Nat.le_refl _⟩
 ·unfold pot base pen
  simp [hpc,hcpu]
  all_goals (try (repeat' split)) <;> omega
theorem p1 (X:Cx c mn cp st g k t)(hpc:t.pc=1):∃ t' g' st',Res c mn cp st g k t t' g' st':=by
 have hA:=X.at_
 unfold At at hA
 rw [hpc] at hA
 have hcpu:=X.cpu
 have hw0:=X.w0 (by omega) (by omega)
 have hC:=X.C
 have hS:=X.S
 have hO:=X.O
 obtain ⟨h1,h2⟩:=hA
 have hr:=X.rhd X.kC
 rw [← hcpu] at hr
 rcases Zia X.I.G k with hn | ⟨s,hs⟩
 ·refine Res.read X (t':={ t with H:=hw st k,slab := -1,obj := -1,pc:=30 }) (pc:=1) (pc':=30) hpc rfl rfl ?_ ?_ rfl rfl rfl hw0 ?_
  ·rw [Zeg (by omega)]
   unfold Zbq
   rw [hpc]
   refine (Zax hr).trans ?_
   rw [hcpu,Zhz hn]
   rfl
  ·unfold At
   exact ⟨h1,hn⟩
  ·unfold pot base pen
   simp [hpc,hcpu,AA]
   all_goals (try (repeat' split)) <;> omega
 ·have hsS:=Zdy X.I.G (x:=.head k) rfl (s:=s) (by rw [hs]; exact List.mem_cons_self)
  have hh:=ZqQ X.I.G hS.2 hO.2 hO.1 hs
  cases hol:st.ol s (.head k) with
  | nil =>
    rw [hol] at hh
    refine Res.read X (t':={ t with H:=hw st k,slab:=(s:Int),obj := -1,pc:=20 }) (pc:=1) (pc':=20) hpc rfl rfl ?_ ?_ rfl rfl rfl hw0 ?_
    ·rw [Zeg (by omega)]
     unfold Zbq
     rw [hpc]
     refine (Zax hr).trans ?_
     rw [hcpu]
     refine (Ze3 hh).trans ?_
     rw [if_neg (by omega),Zag (by omega)]
     rfl
    ·unfold At
     exact ⟨h1,⟨by show (0:Int)≤s; omega,by show (s:Int)<c.S; omega⟩,h2,fun _=>⟨rfl,hs,hol⟩⟩
    ·unfold pot base pen
     simp [hpc,hcpu,AA]
     all_goals (try (repeat' split)) <;> omega
  | cons o r =>
    rw [hol] at hh
    have ho:=(ZgX X.I.G (x:=.head k) (s:=s) (o:=o) rfl (by rw [hol]; exact List.mem_cons_self)).2
    refine Res.read X (t':={ t with H:=hw st k,slab:=(s:Int),obj:=(o:Int),pc:=2 }) (pc:=1) (pc':=2) hpc rfl rfl ?_ ?_ rfl rfl rfl hw0 ?_
    ·rw [Zeg (by omega)]
     unfold Zbq
     rw [hpc]
     refine (Zax hr).trans ?_
     rw [hcpu]
     refine (Ze3 hh).trans ?_
     show (if (s:Int) = -1 then _ else need (0≤(s:Int)∧(s:Int)<c.S) (if (o:Int) = -1 then _ else need (0≤(o:Int)∧(o:Int)<c.O) _))=_
     rw [if_neg (by omega),Zag (by omega),if_neg (by omega),Zag (by omega)]
     rfl
    ·unfold At
     exact ⟨h1,⟨by show (0:Int)≤s; omega,by show (s:Int)<c.S; omega⟩,⟨by show (0:Int)≤o; omega,by show (o:Int)<c.O; omega⟩,h2,fun _=>⟨rfl,hs,r,hol⟩⟩
    ·unfold pot base pen
     simp [hpc,hcpu,AA]
     all_goals (try (repeat' split)) <;> omega
theorem p2 (X:Cx c mn cp st g k t)(hpc:t.pc=2):∃ t' g' st',Res c mn cp st g k t t' g' st':=by
 have hA:=X.at_
 unfold At at hA
 rw [hpc] at hA
 have hcpu:=X.cpu
 have hw0:=X.w0 (by omega) (by omega)
 have hC:=X.C
 have hS:=X.S
 have hO:=X.O
 obtain ⟨h1,h2,h3,h4⟩:=hA
 have hr:=X.rlk (Zau h2) (ZdF h3)
 by_cases hT:t.T=st.ht k
 ·obtain ⟨h5,h6,r,h7⟩:=h4.2 hT
  have hl:=X.I.G.l2 (sn t) k
  rw [h7] at hl
  have hlt:=ZeA X.I.G (x:=.head k) (s:=sn t) rfl hO.1 (l:=r) (fun o ho=>by rw [h7]; exact List.mem_cons_of_mem _ ho)
  have hge:=Zez (l:=r) (e := -1) (by omega)
  refine Res.read X (t':={ t with last:=ZcP r (-1),pc:=3 }) (pc:=2) (pc':=3) hpc rfl rfl ?_ ?_ rfl rfl rfl hw0 ?_
  ·rw [Zeg (by omega)]
   unfold Zbq
   rw [hpc]
   refine (Zai h2).trans ((Zbm h3).trans ((Zax hr).trans ?_))
   rw [hl.1,ZeL hge (by omega)]
   exact if_pos hlt
  ·unfold At
   exact ⟨h1,h2,h3,⟨hge,hlt⟩,h4.1,fun _=>⟨h5,h6,r,h7,rfl⟩⟩
  ·unfold pot base pen
   simp [hpc,hcpu,AA]
   all_goals (try (repeat' split)) <;> omega
 ·cases hsh:Zdc (st.lk (sn t) (on t)) (See.keyOf c.key (sn t)) (on t) with
  | none =>
    refine Res.read X (t':={ t with pc:=0 }) (pc:=2) (pc':=0) hpc rfl rfl ?_ ?_ rfl rfl rfl hw0 ?_
    ·rw [Zeg (by omega)]
     unfold Zbq
     rw [hpc]
     refine (Zai h2).trans ((Zbm h3).trans ((Zax hr).trans ?_))
     rw [hsh]
    ·unfold At
     exact h1
    ·unfold pot base pen
     simp [hpc,hcpu,AA,Ne.symm hT]
     all_goals (try (repeat' split)) <;> omega
  | some y =>
    have hy:=Zfg hsh
    by_cases hyO:y<c.O
    ·refine Res.read X (t':={ t with last:=y,pc:=3 }) (pc:=2) (pc':=3) hpc rfl rfl ?_ ?_ rfl rfl rfl hw0 ?_
     ·rw [Zeg (by omega)]
      unfold Zbq
      rw [hpc]
      refine (Zai h2).trans ((Zbm h3).trans ((Zax hr).trans ?_))
      rw [hsh]
      exact if_pos hyO
     ·unfold At
      exact ⟨h1,h2,h3,⟨hy.1,hyO⟩,h4.1,fun e=>absurd e hT⟩
     ·unfold pot base pen
      simp [hpc,hcpu,AA]
      all_goals (try (repeat' split)) <;> omega
    ·refine Res.read X (t':={ t with pc:=0 }) (pc:=2) (pc':=0) hpc rfl rfl ?_ ?_ rfl rfl rfl hw0 ?_
     ·rw [Zeg (by omega)]
      unfold Zbq
      rw [hpc]
      refine (Zai h2).trans ((Zbm h3).trans ((Zax hr).trans ?_))
      rw [hsh]
      exact if_neg hyO
     ·unfold At
      exact h1
     ·unfold pot base pen
      simp [hpc,hcpu,AA,Ne.symm hT]
      all_goals (try (repeat' split)) <;> omega
theorem p11 (X:Cx c mn cp st g k t)(hpc:t.pc=11):∃ t' g' st',Res c mn cp st g k t t' g' st':=by
 have hA:=X.at_
 unfold At at hA
 rw [hpc] at hA
 have hcpu:=X.cpu
 have hw0:=X.w0 (by omega) (by omega)
 have hC:=X.C
 have hS:=X.S
 have hO:=X.O
 obtain ⟨h1,h2,h3,h4⟩:=hA
 have hr:=X.rhd X.kC
 rw [← hcpu] at hr
 have hsl:=h2.1
 have hS0:=hS.1
 rcases Zia X.I.G k with hn | ⟨s,hs⟩
 ·refine Res.read X (t':={ t with H:=hw st k,pc:=50 }) (pc:=11) (pc':=50) hpc rfl rfl ?_ ?_ rfl rfl rfl hw0 ?_
  ·rw [Zeg (by omega)]
   unfold Zbq
   rw [hpc]
   refine (Zax hr).trans ?_
   rw [hcpu,Zhz hn]
   show need ((-1:Int)<c.S∧(-1:Int)<c.O) (if (-1:Int)=t.slab then _ else _)=_
   rw [Zag (by omega),if_neg (by omega)]
  ·unfold At
   exact ⟨h1,h2,h3⟩
  ·unfold pot base pen
   simp [hpc,hcpu]
   all_goals (try (repeat' split)) <;> omega
 ·have hsS:=Zdy X.I.G (x:=.head k) rfl (s:=s) (by rw [hs]; exact List.mem_cons_self)
  have hh:=ZqQ X.I.G hS.2 hO.2 hO.1 hs
  have hlt:=ZeA X.I.G (x:=.head k) (s:=s) rfl hO.1 (l:=st.ol s (.head k)) (fun _ h=>h)
  have hge:=Zez (l:=st.ol s (.head k)) (e := -1) (by omega)
  by_cases he:(s:Int)=t.slab
  ·have he2:s=sn t:=by
    unfold sn
    omega
   refine Res.read X (t':={ t with H:=hw st k,last:=ZcP (st.ol s (.head k)) (-1),pc:=12 }) (pc:=11) (pc':=12) hpc rfl rfl ?_ ?_ rfl rfl rfl hw0 ?_
   ·rw [Zeg (by omega)]
    unfold Zbq
    rw [hpc]
    refine (Zax hr).trans ?_
    rw [hcpu]
    refine (Ze3 hh).trans ?_
    rw [Zag (by omega),if_pos he]
   ·unfold At
    exact ⟨h1,h2,h3,⟨hge,hlt⟩,h4,fun _=>⟨rfl,by rw [hs,he2],by rw [he2]⟩⟩
   ·unfold pot base pen
    simp [hpc,hcpu]
    all_goals (try (repeat' split)) <;> omega
  ·refine Res.read X (t':={ t with H:=hw st k,pc:=50 }) (pc:=11) (pc':=50) hpc rfl rfl ?_ ?_ rfl rfl rfl hw0 ?_
   ·rw [Zeg (by omega)]
    unfold Zbq
    rw [hpc]
    refine (Zax hr).trans ?_
    rw [hcpu]
    refine (Ze3 hh).trans ?_
    rw [Zag (by omega),if_neg he]
   ·unfold At
    exact ⟨h1,h2,h3⟩
   ·unfold pot base pen
    simp [hpc,hcpu]
    all_goals (try (repeat' split)) <;> omega
theorem p21 (X:Cx c mn cp st g k t)(hpc:t.pc=21):∃ t' g' st',Res c mn cp st g k t t' g' st':=by
 have hA:=X.at_
 unfold At at hA
 rw [hpc] at hA
 have hcpu:=X.cpu
 have hw0:=X.w0 (by omega) (by omega)
 have hC:=X.C
 have hS:=X.S
 have hO:=X.O
 obtain ⟨h1,h2,h3,h4⟩:=hA
 have hF:=ZoQ X.I.G (sn t)
 refine Res.read X (t':={ t with F:=fr st (sn t),pc:=22 }) (pc:=21) (pc':=22) hpc rfl rfl ?_ ?_ rfl rfl rfl hw0 ?_
 ·rw [ZbE (by omega) (by omega)]
  unfold Zas
  rw [hpc]
  refine (Zai h2).trans ((Zax (X.rfr (Zau h2))).trans ?_)
  rw [Zag hF]
 ·unfold At
  exact ⟨h1,h2,h3,h4,hF⟩
 ·unfold pot base pen
  simp [hpc,hcpu,AA]
  all_goals (try (repeat' split)) <;> omega
theorem p22 (X:Cx c mn cp st g k t)(hpc:t.pc=22):∃ t' g' st',Res c mn cp st g k t t' g' st':=by
 have hA:=X.at_
 unfold At at hA
 rw [hpc] at hA
 have hcpu:=X.cpu
 have hw0:=X.w0 (by omega) (by omega)
 have hC:=X.C
 have hS:=X.S
 have hO:=X.O
 obtain ⟨h1,h2,h3,h4,h5⟩:=hA
 have hct:=ZbW (c:=c) h3.1 h3.2
 have hr:=X.rct (Zau h2)
 by_cases hF:t.F=0
 ·refine Res.read X (t':={ t with K:=ct c st (sn t),pc:=24 }) (pc:=22) (pc':=24) hpc rfl rfl ?_ ?_ rfl rfl rfl hw0 ?_
  ·rw [ZbE (by omega) (by omega)]
   unfold Zas
   rw [hpc]
   refine (Zai h2).trans ((Zax hr).trans ?_)
   rw [hct]
   refine (Zbd (by omega) hO.1 hO.2).trans ?_
   rw [Zag rfl,if_pos hF]
  ·unfold At
   exact ⟨h1,h2,h3,h4,hF,_,_,hct,by omega,rfl⟩
  ·unfold pot base pen
   simp [hpc,hcpu,AA]
   all_goals (try (repeat' split)) <;> omega
 ·refine Res.read X (t':={ t with K:=ct c st (sn t),pc:=23 }) (pc:=22) (pc':=23) hpc rfl rfl ?_ ?_ rfl rfl rfl hw0 ?_
  ·rw [ZbE (by omega) (by omega)]
   unfold Zas
   rw [hpc]
   refine (Zai h2).trans ((Zax hr).trans ?_)
   rw [hct]
   refine (Zbd (by omega) hO.1 hO.2).trans ?_
   rw [Zag rfl,if_neg hF]
  ·unfold At
   exact ⟨h1,h2,h3,h4,⟨by show 1≤t.F; omega,h5⟩,_,_,hct,by omega,rfl⟩
  ·unfold pot base pen
   simp [hpc,hcpu,AA]
   all_goals (try (repeat' split)) <;> omega
theorem p30 (X:Cx c mn cp st g k t)(hpc:t.pc=30):∃ t' g' st',Res c mn cp st g k t t' g' st':=by
 have hA:=X.at_
 unfold At at hA
 rw [hpc] at hA
 have hcpu:=X.cpu
 have hw0:=X.w0 (by omega) (by omega)
 have hC:=X.C
 have hS:=X.S
 have hO:=X.O
 obtain ⟨h1,h2⟩:=hA
 refine Res.read X (t':={ t with T:=st.pt k,pc:=31 }) (pc:=30) (pc':=31) hpc rfl rfl ?_ ?_ rfl rfl rfl hw0 ?_
 ·rw [ZbE (by omega) (by omega)]
  unfold Zas
  rw [hpc]
  exact Zax (by rw [hcpu]; exact X.rpt X.kC)
 ·unfold At
  exact ⟨h1,h2,Nat.le_refl _⟩
 ·unfold pot base pen
  simp [hpc,hcpu,AA]
  all_goals (try (repeat' split)) <;> omega
theorem p31 (X:Cx c mn cp st g k t)(hpc:t.pc=31):∃ t' g' st',Res c mn cp st g k t t' g' st':=by
 have hA:=X.at_
 unfold At at hA
 rw [hpc] at hA
 have hcpu:=X.cpu
 have hw0:=X.w0 (by omega) (by omega)
 have hC:=X.C
 have hS:=X.S
 have hO:=X.O
 obtain ⟨h1,h2,h3⟩:=hA
 have hr:=X.rpd X.kC
 rw [← hcpu] at hr
 obtain ⟨hl,hb⟩:=Zfa X k
 cases hP:st.sl (.part k) with
 | nil =>
   refine Res.read X (t':={ t with N:=0,pc:=34 }) (pc:=31) (pc':=34) hpc rfl rfl ?_ ?_ rfl rfl rfl hw0 ?_
   ·rw [ZbE (by omega) (by omega)]
    unfold Zas
    rw [hpc]
    refine (Zax hr).trans ?_
    rw [hcpu,hP]
    rfl
   ·unfold At
    exact ⟨h1,h2⟩
   ·unfold pot base pen
    simp [hpc,hcpu,AA]
    all_goals (try (repeat' split)) <;> omega
 | cons s r =>
   have hs:=Zdy X.I.G (x:=.part k) rfl (s:=s) (by rw [hP]; exact List.mem_cons_self)
   refine Res.read X (t':={ t with N:=pw (st.sl (.part k)),slab:=(s:Int),pc:=32 }) (pc:=31) (pc':=32) hpc rfl rfl ?_ ?_ rfl rfl rfl hw0 ?_
   ·rw [ZbE (by omega) (by omega)]
    unfold Zas
    rw [hpc]
    refine (Zax hr).trans ?_
    rw [hcpu]
    refine (Zd3 hb hl).trans ?_
    rw [hP]
    show (if (s:Int) = -1 then _ else need (0≤(s:Int)∧(s:Int)<c.S) _)=_
    rw [if_neg (by omega),Zag (by omega)]
    rfl
   ·unfold At
    exact ⟨h1,h2,⟨by show (0:Int)≤s; omega,by show (s:Int)<c.S; omega⟩,h3,fun _=>⟨rfl,r,hP⟩⟩
   ·unfold pot base pen
    simp [hpc,hcpu,AA]
    all_goals (try (repeat' split)) <;> omega
end
end Go.Proofs.YtfcpdlbkmkhhcaaGreatDoor.Cv
