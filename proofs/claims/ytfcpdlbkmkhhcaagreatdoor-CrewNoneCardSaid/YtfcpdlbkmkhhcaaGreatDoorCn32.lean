/-
  Texts of this claim, joined. No condition.
-/
import Derived.Test.YtfcpdlbkmkhhcaaGreatDoorCn28
namespace Go.Proofs.YtfcpdlbkmkhhcaaGreatDoor.Cv
open See Cw
section
variable {c:Ch}{mn cp:Nat}{st st1 st':St}{g g':List Nat}{k:Nat}{t t':Tk}
theorem Res.spin (X:Cx c mn cp st g k t)(hs:Zba c mn cp g t=some (t,g))(hh:st.hold≠none)(hl:Zcj t.pc=false):∃ t' g' st',Res c mn cp st g k t t' g' st':=by
 have hf:=X.loc.fin
 refine ⟨t,g,st,hs,X.E,X.W,X.I,?_,.inl hf,rfl,Nat.le_succ _,fun _ _=>.inl rfl,.inr ⟨rfl,rfl,rfl,hh,hl⟩,?_⟩
 ·funext j
  by_cases e:j=k
  ·rw [e,upd_same,X.tk]
   exact (if_pos hf).symm
  ·rw [upd_ne e]
 ·rw [if_neg (fun e=>by rw [hf] at e; cases e.2)]
  exact fun _ _=>Iff.rfl
theorem p34 (X:Cx c mn cp st g k t)(hpc:t.pc=34):∃ t' g' st',Res c mn cp st g k t t' g' st':=by
 have hA:=X.at_
 unfold At at hA
 rw [hpc] at hA
 have hcpu:=X.cpu
 have hw0:=X.w0 (by omega) (by omega)
 have hC:=X.C
 have hS:=X.S
 have hO:=X.O
 obtain ⟨h1,h2⟩:=hA
 have hr:=X.rlock
 cases hh:st.hold with
 | some j =>
   refine Res.spin X ?_ (by rw [hh]; intro e; cases e) (by rw [hpc]; decide)
   ·rw [ZbE (by omega) (by omega)]
    unfold Zas
    rw [hpc]
    refine (Zax hr).trans ?_
    rw [show lw st=1 from by unfold lw; rw [hh]; rfl]
    exact if_neg (by decide)
 | none =>
   obtain ⟨g1,g2,g3⟩:=X.I.G.rest hh
   have R:∀ j,j≠k→ZaO c j none none st (Zbx st (some k)):=fun j hj=>Zbg hj (.inl hh) (.inr rfl)
   have hl:LkS c mn (Zbx st (some k)) k none 0 0 0:=⟨rfl,g1,g2,g3⟩
   refine Res.eff X (Zbx st (some k)) (hx:=none) (px:=none) (t':={ t with pc:=35 }) (g':=g.set (Zbl c) 1) (pc:=34) (pc':=35) hpc rfl rfl ?_ rfl rfl rfl (.inl ⟨hw0,by decide⟩) (ZaS X.I.G (fun j e=>by cases e; exact X.kC) (fun e=>by cases e)) R rfl rfl rfl rfl ?_ (fun _=>⟨rfl,hw0⟩) (Zko X) (Zal X.W (by decide)) (Zee X R rfl rfl (fun _=>rfl) rfl rfl rfl ?_) (fun _ _=>Iff.rfl)
   ·rw [ZbE (by omega) (by omega)]
    unfold Zas
    rw [hpc]
    refine (Zax hr).trans ?_
    rw [show lw st=0 from by unfold lw; rw [hh]; rfl]
    exact (if_pos rfl).trans (ZbG hr)
   ·unfold At
    exact ⟨h1,h2,hl⟩
   ·show pot c st { t with pc:=35 }+1≤pot c st t
    unfold pot base pen
    simp [hpc,AA]
    all_goals (try (repeat' split)) <;> omega
theorem p55 (X:Cx c mn cp st g k t)(hpc:t.pc=55):∃ t' g' st',Res c mn cp st g k t t' g' st':=by
 have hA:=X.at_
 unfold At at hA
 rw [hpc] at hA
 have hcpu:=X.cpu
 have hw0:=X.w0 (by omega) (by omega)
 have hC:=X.C
 have hS:=X.S
 have hO:=X.O
 obtain ⟨h1,h2,h3,h4,h5,h6⟩:=hA
 have hr:=X.rlock
 cases hh:st.hold with
 | some j =>
   refine Res.spin X ?_ (by rw [hh]; intro e; cases e) (by rw [hpc]; decide)
   ·rw [Zb3 (by omega) (by omega)]
    unfold ZaD
    rw [hpc]
    refine (Zax hr).trans ?_
    rw [show lw st=1 from by unfold lw; rw [hh]; rfl]
    exact if_neg (by decide)
 | none =>
   obtain ⟨g1,g2,g3⟩:=X.I.G.rest hh
   have R:∀ j,j≠k→ZaO c j none none st (Zbx st (some k)):=fun j hj=>Zbg hj (.inl hh) (.inr rfl)
   have hl:LkS c mn (Zbx st (some k)) k none 0 0 0:=⟨rfl,g1,g2,g3⟩
   refine Res.eff X (Zbx st (some k)) (hx:=none) (px:=none) (t':={ t with pc:=56 }) (g':=g.set (Zbl c) 1) (pc:=55) (pc':=56) hpc rfl rfl ?_ rfl rfl rfl (.inl ⟨hw0,by decide⟩) (ZaS X.I.G (fun j e=>by cases e; exact X.kC) (fun e=>by cases e)) R rfl rfl rfl rfl ?_ (fun _=>⟨rfl,hw0⟩) (Zko X) (Zal X.W (by decide)) (Zee X R rfl rfl (fun _=>rfl) rfl rfl rfl ?_) (fun _ _=>Iff.rfl)
   ·rw [Zb3 (by omega) (by omega)]
    unfold ZaD
    rw [hpc]
    refine (Zax hr).trans ?_
    rw [show lw st=0 from by unfold lw; rw [hh]; rfl]
    exact (if_pos rfl).trans (ZbG hr)
   ·unfold At
    exact ⟨h1,h2,h3,h4,h5,h6,hl⟩
   ·show pot c st { t with pc:=56 }+1≤pot c st t
    unfold pot base pen
    simp [hpc,hcpu]
    all_goals (try (repeat' split)) <;> omega
theorem p95 (X:Cx c mn cp st g k t)(hpc:t.pc=95):∃ t' g' st',Res c mn cp st g k t t' g' st':=by
 have hA:=X.at_
 unfold At at hA
 rw [hpc] at hA
 have hcpu:=X.cpu
 have hw0:=X.w0 (by omega) (by omega)
 have hC:=X.C
 have hS:=X.S
 have hO:=X.O
 have hr:=X.rlock
 cases hh:st.hold with
 | some j =>
   refine Res.spin X ?_ (by rw [hh]; intro e; cases e) (by rw [hpc]; decide)
   ·rw [Zbb (by omega)]
    unfold Zaf
    rw [hpc]
    refine (Zax hr).trans ?_
    rw [show lw st=1 from by unfold lw; rw [hh]; rfl]
    exact if_neg (by decide)
 | none =>
   obtain ⟨g1,g2,g3⟩:=X.I.G.rest hh
   have R:∀ j,j≠k→ZaO c j none none st (Zbx st (some k)):=fun j hj=>Zbg hj (.inl hh) (.inr rfl)
   have hl:LkS c mn (Zbx st (some k)) k none 0 0 0:=⟨rfl,g1,g2,g3⟩
   refine Res.eff X (Zbx st (some k)) (hx:=none) (px:=none) (t':={ t with pc:=96 }) (g':=g.set (Zbl c) 1) (pc:=95) (pc':=96) hpc rfl rfl ?_ rfl rfl rfl (.inl ⟨hw0,by decide⟩) (ZaS X.I.G (fun j e=>by cases e; exact X.kC) (fun e=>by cases e)) R rfl rfl rfl rfl ?_ (fun _=>⟨rfl,hw0⟩) (Zko X) (Zal X.W (by decide)) (Zee X R rfl rfl (fun _=>rfl) rfl rfl rfl ?_) (fun _ _=>Iff.rfl)
   ·rw [Zbb (by omega)]
    unfold Zaf
    rw [hpc]
    refine (Zax hr).trans ?_
    rw [show lw st=0 from by unfold lw; rw [hh]; rfl]
    exact (if_pos rfl).trans (ZbG hr)
   ·unfold At
    exact ⟨hA,hl⟩
   ·show pot c st { t with pc:=96 }+1≤pot c st t
    unfold pot base pen
    simp [hpc]
    all_goals (try (repeat' split)) <;> omega
theorem p80 (X:Cx c mn cp st g k t)(hpc:t.pc=80):∃ t' g' st',Res c mn cp st g k t t' g' st':=by
 have hA:=X.at_
 unfold At at hA
 rw [hpc] at hA
 have hcpu:=X.cpu
 have hw0:=X.w0 (by omega) (by omega)
 have hC:=X.C
 have hS:=X.S
 have hO:=X.O
 obtain ⟨l,ch,h1,h2,h3,h4,h5,h6,h7⟩:=hA
 have hr:=X.rlock
 cases hh:st.hold with
 | some j =>
   refine Res.spin X ?_ (by rw [hh]; intro e; cases e) (by rw [hpc]; decide)
   ·rw [Zbb (by omega)]
    unfold Zaf
    rw [hpc]
    refine (Zax hr).trans ?_
    rw [show lw st=1 from by unfold lw; rw [hh]; rfl]
    exact if_neg (by decide)
 | none =>
   obtain ⟨g1,g2,g3⟩:=X.I.G.rest hh
   have R:∀ j,j≠k→ZaO c j none none st (Zbx st (some k)):=fun j hj=>Zbg hj (.inl hh) (.inr rfl)
   have hl:LkS c mn (Zbx st (some k)) k none 0 0 0:=⟨rfl,g1,g2,g3⟩
   by_cases hob:t.obj<0
   ·have hln:l=[]:=Zh6 (h6 ▸ hob)
    refine Res.eff X (Zbx st (some k)) (hx:=none) (px:=none) (t':={ t with pc:=84 }) (g':=g.set (Zbl c) 1) (pc:=80) (pc':=84) hpc rfl rfl ?_ rfl rfl rfl (.inl ⟨hw0,by decide⟩) (ZaS X.I.G (fun j e=>by cases e; exact X.kC) (fun e=>by cases e)) R rfl rfl rfl rfl ?_ (fun _=>⟨rfl,hw0⟩) (Zko X) (Zal X.W (by decide)) (Zee X R rfl rfl (fun _=>rfl) rfl rfl rfl ?_) (fun _ _=>Iff.rfl)
    ·rw [Zbb (by omega)]
     unfold Zaf
     rw [hpc]
     refine (Zax hr).trans ?_
     rw [show lw st=0 from by unfold lw; rw [hh]; rfl]
     exact (if_pos rfl).trans ((if_pos hob).trans (ZbG hr))
    ·unfold At
     exact ⟨l,ch,h1,h2,h3,h5,h6,⟨-1,h7⟩,hl,by show t.many=_; rw [h4,hln]; rfl,.inl hln⟩
    ·show pot c st { t with pc:=84 }+1≤pot c st t
     unfold pot base pen
     simp [hpc,hcpu]
     all_goals (try (repeat' split)) <;> omega
   ·obtain ⟨a,r,hlr,ha⟩:=Zni (l:=l) (by omega)
    have hOl:(1:Int)≤c.O:=by omega
    refine Res.eff X (Zbx st (some k)) (hx:=none) (px:=none) (t':={ t with last:=t.obj,pc:=81 }) (g':=g.set (Zbl c) 1) (pc:=80) (pc':=81) hpc rfl rfl ?_ rfl rfl rfl (.inl ⟨hw0,by decide⟩) (ZaS X.I.G (fun j e=>by cases e; exact X.kC) (fun e=>by cases e)) R rfl rfl rfl rfl ?_ (fun _=>⟨rfl,hw0⟩) (Zko X) (Zal X.W (by decide)) (Zee X R rfl rfl (fun _=>rfl) rfl rfl rfl ?_) (fun _ _=>Iff.rfl)
    ·rw [Zbb (by omega)]
     unfold Zaf
     rw [hpc]
     refine (Zax hr).trans ?_
     rw [show lw st=0 from by unfold lw; rw [hh]; rfl]
     exact (if_pos rfl).trans ((if_neg hob).trans (ZbG hr))
    ·unfold At
     exact ⟨l,ch,h1,h2,h3,h5,h6,h7,hl,[],a,r,hlr,by show t.obj=_; rw [h6,ha],h4⟩
    ·show pot c st { t with last:=t.obj,pc:=81 }+1≤pot c st t
     unfold pot base pen
     simp [hpc,hcpu,h4]
     all_goals (try (repeat' split)) <;> omega
theorem p36 (X:Cx c mn cp st g k t)(hpc:t.pc=36):∃ t' g' st',Res c mn cp st g k t t' g' st':=by
 have hA:=X.at_
 unfold At at hA
 rw [hpc] at hA
 have hcpu:=X.cpu
 have hw0:=X.w0 (by omega) (by omega)
 have hC:=X.C
 have hS:=X.S
 have hO:=X.O
 obtain ⟨h1,h2,hl⟩:=hA
 have R:∀ j,j≠k→ZaO c j none none st (Zbx st none):=fun j hj=>Zbg hj (.inr hl.hold) (.inl rfl)
 refine Res.eff X (Zbx st none) (hx:=none) (px:=none) (t':={ t with want:=1,pc:=43 }) (g':=g.set (Zbl c) 0) (pc:=36) (pc':=43) hpc rfl rfl ?_ rfl rfl rfl (.inr (.inl ⟨rfl,rfl⟩)) (ZaS X.I.G (fun j e=>by cases e) (fun _=>⟨hl.cut,hl.held,hl.em⟩)) R rfl rfl rfl rfl ?_ (fun e=>by cases e) (Zko X) (Zal X.W (by decide)) (Zee X R rfl rfl (fun _=>rfl) rfl rfl rfl ?_) (fun _ _=>Iff.rfl)
 ·rw [ZbE (by omega) (by omega)]
  unfold Zas
  rw [hpc]
  exact ZbG X.rlock
 ·unfold At
  exact ⟨fun _=>⟨h1,h2⟩,fun e=>absurd (show (1:Int)=0 from e) (by decide)⟩
 ·show pot c st { t with want:=1,pc:=43 }+1≤pot c st t
  unfold pot base pen
  simp [hpc,AA]
  all_goals (try (repeat' split)) <;> omega
theorem p49 (X:Cx c mn cp st g k t)(hpc:t.pc=49):∃ t' g' st',Res c mn cp st g k t t' g' st':=by
 have hA:=X.at_
 unfold At at hA
 rw [hpc] at hA
 have hcpu:=X.cpu
 have hw0:=X.w0 (by omega) (by omega)
 have hC:=X.C
 have hS:=X.S
 have hO:=X.O
 obtain ⟨h1,h2,h3,h4,hl,h5⟩:=hA
 have R:∀ j,j≠k→ZaO c j none none st (Zbx st none):=fun j hj=>Zbg hj (.inr hl.hold) (.inl rfl)
 refine Res.eff X (Zbx st none) (hx:=none) (px:=none) (t':={ t with pc:=40 }) (g':=g.set (Zbl c) 0) (pc:=49) (pc':=40) hpc rfl rfl ?_ rfl rfl rfl (.inl ⟨hw0,by decide⟩) (ZaS X.I.G (fun j e=>by cases e) (fun _=>⟨hl.cut,hl.held,hl.em⟩)) R rfl rfl rfl rfl ?_ (fun e=>by cases e) (Zko X) (Zal X.W (by decide)) (Zee X R rfl rfl (fun _=>rfl) rfl rfl rfl ?_) (fun _ _=>Iff.rfl)
 ·rw [ZbE (by omega) (by omega)]
  unfold Zas
  rw [hpc]
  exact ZbG X.rlock
 ·unfold At
  exact ⟨h1,h2,h3,h4,h5⟩
 ·show pot c st { t with pc:=40 }+1≤pot c st t
  unfold pot base pen
  simp [hpc]
  all_goals (try (repeat' split)) <;> omega
theorem p57 (X:Cx c mn cp st g k t)(hpc:t.pc=57):∃ t' g' st',Res c mn cp st g k t t' g' st':=by
 have hA:=X.at_
 unfold At at hA
 rw [hpc] at hA
 have hcpu:=X.cpu
 have hw0:=X.w0 (by omega) (by omega)
 have hC:=X.C
 have hS:=X.S
 have hO:=X.O
 obtain ⟨h1,h2,h3,hl⟩:=hA
 have R:∀ j,j≠k→ZaO c j none none st (Zbx st none):=fun j hj=>Zbg hj (.inr hl.hold) (.inl rfl)
 refine Res.eff X (Zbx st none) (hx:=none) (px:=none) (t':={ t with pc:=50 }) (g':=g.set (Zbl c) 0) (pc:=57) (pc':=50) hpc rfl rfl ?_ rfl rfl rfl (.inl ⟨hw0,by decide⟩) (ZaS X.I.G (fun j e=>by cases e) (fun _=>⟨hl.cut,hl.held,hl.em⟩)) R rfl rfl rfl rfl ?_ (fun e=>by cases e) (Zko X) (Zal X.W (by decide)) (Zee X R rfl rfl (fun _=>rfl) rfl rfl rfl ?_) (fun _ _=>Iff.rfl)
 ·rw [Zb3 (by omega) (by omega)]
  unfold ZaD
  rw [hpc]
  exact ZbG X.rlock
 ·unfold At
  exact ⟨h1,h2,h3⟩
 ·show pot c st { t with pc:=50 }+1≤pot c st t
  unfold pot base pen
  simp [hpc]
  all_goals (try (repeat' split)) <;> omega
theorem p77 (X:Cx c mn cp st g k t)(hpc:t.pc=77):∃ t' g' st',Res c mn cp st g k t t' g' st':=by
 have hA:=X.at_
 unfold At at hA
 rw [hpc] at hA
 have hcpu:=X.cpu
 have hw0:=X.w0 (by omega) (by omega)
 have hC:=X.C
 have hS:=X.S
 have hO:=X.O
 obtain ⟨l,ch,h1,h2,h3,hl,h4⟩:=hA
 have R:∀ j,j≠k→ZaO c j none none st (Zbx st none):=fun j hj=>Zbg hj (.inr hl.hold) (.inl rfl)
 refine Res.eff X (Zbx st none) (hx:=none) (px:=none) (t':={ t with want:=2,pc:=78 }) (g':=g.set (Zbl c) 0) (pc:=77) (pc':=78) hpc rfl rfl ?_ rfl rfl rfl (.inr (.inr ⟨rfl,rfl⟩)) (ZaS X.I.G (fun j e=>by cases e) (fun _=>⟨hl.cut,hl.held,hl.em⟩)) R rfl rfl rfl rfl ?_ (fun e=>by cases e) (Zko X) (Zal X.W (by decide)) (Zee X R rfl rfl (fun _=>rfl) rfl rfl rfl ?_) (fun _ _=>Iff.rfl)
 ·rw [Zbb (by omega)]
  unfold Zaf
  rw [hpc]
  exact ZbG X.rlock
 ·unfold At
  exact ⟨l,ch,h1,h2,h3,h4⟩
 ·show pot c st { t with want:=2,pc:=78 }+1≤pot c st t
  unfold pot base pen
  simp [hpc,hcpu]
  all_goals (try (repeat' split)) <;> omega
theorem p59 (X:Cx c mn cp st g k t)(hpc:t.pc=59):∃ t' g' st',Res c mn cp st g k t t' g' st':=by
 have hA:=X.at_
 unfold At at hA
 rw [hpc] at hA
 have hcpu:=X.cpu
 have hw0:=X.w0 (by omega) (by omega)
 have hC:=X.C
 have hS:=X.S
 have hO:=X.O
 obtain ⟨h1,hl⟩:=hA
 have R:∀ j,j≠k→ZaO c j none none st (Zbx st none):=fun j hj=>Zbg hj (.inr hl.hold) (.inl rfl)
 refine Res.ZoD X (Zbx st none) (hx:=none) (px:=none) (t':={ t with fin:=1 }) (g':=g.set (Zbl c) 0) ?_ rfl rfl (ZaS X.I.G (fun j e=>by cases e) (fun _=>⟨hl.cut,hl.held,hl.em⟩)) R rfl rfl rfl rfl h1 (fun e=>by cases e) (Zko X) (Zal X.W (by decide)) (Zee X R rfl rfl (fun _=>rfl) rfl rfl rfl ?_) (by rw [if_neg (X.ZjF (by rw [hpc]; decide))]; exact fun _ _=>Iff.rfl)
 ·rw [Zb3 (by omega) (by omega)]
  unfold ZaD
  rw [hpc]
  exact ZbG X.rlock
 ·show 0+1≤pot c st t
  unfold pot base pen
  simp [hpc]
  all_goals (try (repeat' split)) <;> omega
theorem p99 (X:Cx c mn cp st g k t)(hpc:t.pc=99):∃ t' g' st',Res c mn cp st g k t t' g' st':=by
 have hA:=X.at_
 unfold At at hA
 rw [hpc] at hA
 have hcpu:=X.cpu
 have hw0:=X.w0 (by omega) (by omega)
 have hC:=X.C
 have hS:=X.S
 have hO:=X.O
 obtain ⟨h1,hl⟩:=hA
 have R:∀ j,j≠k→ZaO c j none none st (Zbx st none):=fun j hj=>Zbg hj (.inr hl.hold) (.inl rfl)
 refine Res.ZoD X (Zbx st none) (hx:=none) (px:=none) (t':={ t with fin:=1 }) (g':=g.set (Zbl c) 0) ?_ rfl rfl (ZaS X.I.G (fun j e=>by cases e) (fun _=>⟨hl.cut,hl.held,hl.em⟩)) R rfl rfl rfl rfl h1 (fun e=>by cases e) (Zko X) (Zal X.W (by decide)) (Zee X R rfl rfl (fun _=>rfl) rfl rfl rfl ?_) (by rw [if_neg (X.ZjF (by rw [hpc]; decide))]; exact fun _ _=>Iff.rfl)
 ·rw [Zbb (by omega)]
  unfold Zaf
  rw [hpc]
  exact ZbG X.rlock
 ·show 0+1≤pot c st t
  unfold pot base pen
  simp [hpc]
  all_goals (try (repeat' split)) <;> omega
theorem p94 (X:Cx c mn cp st g k t)(hpc:t.pc=94):∃ t' g' st',Res c mn cp st g k t t' g' st':=by
 have hA:=X.at_
 unfold At at hA
 rw [hpc] at hA
 have hcpu:=X.cpu
 have hw0:=X.w0 (by omega) (by omega)
 have hC:=X.C
 have hS:=X.S
 have hO:=X.O
 obtain ⟨ch,h1,hl,hb⟩:=hA
 have R:∀ j,j≠k→ZaO c j none none st (Zbx st none):=fun j hj=>Zbg hj (.inr hl.hold) (.inl rfl)
 have hstep:∀ t2,Zb2 t=some t2→Zba c mn cp g t=some (t2,g.set (Zbl c) 0):=by
  intro t2 hg
  rw [Zbb (by omega)]
  unfold Zaf
  rw [hpc]
  show (match Zb2 t with
   | some t'=>wr g (Zbl c) 0 t'
   | none=>none)=_
  rw [hg]
  exact ZbG X.rlock
 have hfin:∀ (hch:ch=[]) (hg:Zb2 t=some { t with fin:=1 }),∃ t' g' st',Res c mn cp st g k t t' g' st':=by
  intro hch hg
  refine Res.ZoD X (Zbx st none) (hx:=none) (px:=none) (t':={ t with fin:=1 }) (g':=g.set (Zbl c) 0) ?_ rfl rfl (ZaS X.I.G (fun j e=>by cases e) (fun _=>⟨hl.cut,hl.held,hl.em⟩)) R rfl rfl rfl rfl (by rw [hch] at h1; exact h1) (fun e=>by cases e) (Zko X) (Zal X.W (by decide)) (Zee X R rfl rfl (fun _=>rfl) rfl rfl rfl ?_) (by rw [if_neg (X.ZjF (by rw [hpc]; decide))]; exact fun _ _=>Iff.rfl)
  ·exact hstep _ hg
  ·show 0+1≤pot c st t
   unfold pot base pen
   simp [hpc,hcpu]
   all_goals (try (repeat' split)) <;> omega
 rcases hb with ⟨hb,hc⟩ | ⟨hb,hc,hf⟩ | ⟨hb,hc⟩ | ⟨hb,hH⟩
 ·exact hfin hc (if_pos hb)
 ·subst hc
  refine Res.eff X (Zbx st none) (hx:=none) (px:=none) (t':={ t with pc:=73 }) (g':=g.set (Zbl c) 0) (pc:=94) (pc':=73) hpc rfl rfl ?_ rfl rfl rfl (.inl ⟨hw0,by decide⟩) (ZaS X.I.G (fun j e=>by cases e) (fun _=>⟨hl.cut,hl.held,hl.em⟩)) R rfl rfl rfl rfl ?_ (fun e=>by cases e) (Zko X) (Zal X.W (by decide)) (Zee X R rfl rfl (fun _=>rfl) rfl rfl rfl ?_) (fun _ _=>Iff.rfl)
  ·exact hstep _ (by unfold Zb2; rw [if_neg (by omega),if_pos hb])
  ·unfold At
   exact ⟨h1,hf⟩
  ·show pot c st { t with pc:=73 }+1≤pot c st t
   unfold pot base pen
   simp [hpc,cont,hb]
   all_goals (try (repeat' split)) <;> omega
 ·subst hc
  refine Res.eff X (Zbx st none) (hx:=none) (px:=none) (t':={ t with pc:=95 }) (g':=g.set (Zbl c) 0) (pc:=94) (pc':=95) hpc rfl rfl ?_ rfl rfl rfl (.inl ⟨hw0,by decide⟩) (ZaS X.I.G (fun j e=>by cases e) (fun _=>⟨hl.cut,hl.held,hl.em⟩)) R rfl rfl rfl rfl ?_ (fun e=>by cases e) (Zko X) (Zal X.W (by decide)) (Zee X R rfl rfl (fun _=>rfl) rfl rfl rfl ?_) (fun _ _=>Iff.rfl)
  ·exact hstep _ (by unfold Zb2; rw [if_neg (by omega),if_neg (by omega),if_pos hb])
  ·unfold At
   exact h1
  ·show pot c st { t with pc:=95 }+1≤pot c st t
   unfold pot base pen
   simp [hpc,cont,hb]
   all_goals (try (repeat' split)) <;> omega
 ·cases hch:ch with
  | nil =>
    refine hfin hch ?_
    unfold Zb2
    rw [if_neg (by omega),if_neg (by omega),if_neg (by omega),if_pos hb,if_pos (by rw [hH,hch]; rfl)]
  | cons a r =>
    refine Res.eff X (Zbx st none) (hx:=none) (px:=none) (t':={ t with pc:=79 }) (g':=g.set (Zbl c) 0) (pc:=94) (pc':=79) hpc rfl rfl ?_ rfl rfl rfl (.inl ⟨hw0,by decide⟩) (ZaS X.I.G (fun j e=>by cases e) (fun _=>⟨hl.cut,hl.held,hl.em⟩)) R rfl rfl rfl rfl ?_ (fun e=>by cases e) (Zko X) (Zal X.W (by decide)) (Zee X R rfl rfl (fun _=>rfl) rfl rfl rfl ?_) (fun _ _=>Iff.rfl)
    ·refine hstep _ ?_
     unfold Zb2
     rw [if_neg (by omega),if_neg (by omega),if_neg (by omega),if_pos hb,if_neg (by rw [hH,hch]; exact ZnZ)]
    ·unfold At
     exact ⟨ch,h1,by rw [hch]; simp,hH⟩
    ·show pot c st { t with pc:=79 }+1≤pot c st t
     unfold pot base pen
     simp [hpc,hcpu,cont,hb,h1.ch]
     all_goals (try (repeat' split)) <;> omega
end
end Go.Proofs.YtfcpdlbkmkhhcaaGreatDoor.Cv

namespace Go.Proofs.YtfcpdlbkmkhhcaaGreatDoor.Cv
open See Cw
section
variable {c:Ch}{mn cp:Nat}{st st1 st':St}{g g':List Nat}{k:Nat}{t t':Tk}
theorem p48 (X:Cx c mn cp st g k t)(hpc:t.pc=48):∃ t' g' st',Res c mn cp st g k t t' g' st':=by
 have hA:=X.at_
 unfold At at hA
 rw [hpc] at hA
 have hcpu:=X.cpu
 have hw0:=X.w0 (by omega) (by omega)
 have hC:=X.C
 have hS:=X.S
 have hO:=X.O
 obtain ⟨h1,h2,h3,h4,h5,h6⟩:=hA
 have R:∀ j,j≠k→ZaO c j none none st (Zg8 st (st.held - 1)):=fun j hj=>Zd7 hj h5.hold
 have hh:=h5.held
 have hlen:=Zdb X.I.G
 refine Res.eff X (Zg8 st (st.held - 1)) (hx:=none) (px:=none) (t':={ t with pc:=49 }) (g':=g.set (Zdo c) (st.held - 1)) (pc:=48) (pc':=49) hpc rfl rfl ?_ rfl rfl rfl (.inl ⟨hw0,by decide⟩) (Zd6 X.I.G h5.hold) R rfl rfl rfl rfl ?_ (fun _=>⟨rfl,hw0⟩) (Zte X) (Zal X.W (by omega)) (Zee X R rfl rfl (fun _=>rfl) rfl rfl rfl ?_) (fun _ _=>Iff.rfl)
 ·rw [ZbE (by omega) (by omega)]
  unfold Zas
  rw [hpc]
  refine (Zax X.ZfX).trans ((ZbG X.ZfX).trans ?_)
  rw [show (st.held+18446744073709551615) % M64=st.held - 1 by show _ % 18446744073709551616=_; omega]
 ·unfold At
  exact ⟨h1,h2,h3,h4,⟨h5.hold,h5.cut,by show st.held - 1+0=(st.sl .shelf).length+0; omega,h5.em⟩,h6⟩
 ·show pot c st { t with pc:=49 }+1≤pot c st t
  unfold pot base pen
  simp [hpc]
  all_goals (try (repeat' split)) <;> omega
theorem p68 (X:Cx c mn cp st g k t)(hpc:t.pc=68):∃ t' g' st',Res c mn cp st g k t t' g' st':=by
 have hA:=X.at_
 unfold At at hA
 rw [hpc] at hA
 have hcpu:=X.cpu
 have hw0:=X.w0 (by omega) (by omega)
 have hC:=X.C
 have hS:=X.S
 have hO:=X.O
 obtain ⟨h1,h2,h3,h4,h5,h6⟩:=hA
 have R:∀ j,j≠k→ZaO c j none none st (Zg8 st (st.held - 1)):=fun j hj=>Zd7 hj h6.hold
 have hh:=h6.held
 have hlen:=Zdb X.I.G
 refine Res.eff X (Zg8 st (st.held - 1)) (hx:=none) (px:=none) (t':={ t with back:=0,pc:=76 }) (g':=g.set (Zdo c) (st.held - 1)) (pc:=68) (pc':=76) hpc rfl rfl ?_ rfl rfl rfl (.inl ⟨hw0,by decide⟩) (Zd6 X.I.G h6.hold) R rfl rfl rfl rfl ?_ (fun _=>⟨rfl,hw0⟩) (Zte X) (Zal X.W (by omega)) (Zee X R rfl rfl (fun _=>rfl) rfl rfl rfl ?_) (fun _ _=>Iff.rfl)
 ·rw [Zb3 (by omega) (by omega)]
  unfold ZaD
  rw [hpc]
  refine (Zax X.ZfX).trans ((ZbG X.ZfX).trans ?_)
  rw [show (st.held+18446744073709551615) % M64=st.held - 1 by show _ % 18446744073709551616=_; omega]
 ·unfold At
  exact ⟨[],h1,h2,h3,h4,h5,⟨h6.hold,h6.cut,by show st.held - 1+0=(st.sl .shelf).length+0; omega,h6.em⟩,.inl ⟨rfl,rfl⟩⟩
 ·show pot c st { t with back:=0,pc:=76 }+1≤pot c st t
  unfold pot base pen
  simp [hpc,cont]
  all_goals (try (repeat' split)) <;> omega
theorem Zue (X:Cx c mn cp st g k t)(hpc:t.pc=103):∃ t' g' st',Res c mn cp st g k t t' g' st':=by
 have hA:=X.at_
 unfold At at hA
 rw [hpc] at hA
 have hcpu:=X.cpu
 have hw0:=X.w0 (by omega) (by omega)
 have hC:=X.C
 have hS:=X.S
 have hO:=X.O
 obtain ⟨h1,h2,h3,h4,h5,h6⟩:=hA
 have R:∀ j,j≠k→ZaO c j none none st (Zg8 st (st.held - 1)):=fun j hj=>Zd7 hj h6.hold
 have hh:=h6.held
 have hlen:=Zdb X.I.G
 refine Res.eff X (Zg8 st (st.held - 1)) (hx:=none) (px:=none) (t':={ t with back:=95,pc:=76 }) (g':=g.set (Zdo c) (st.held - 1)) (pc:=103) (pc':=76) hpc rfl rfl ?_ rfl rfl rfl (.inl ⟨hw0,by decide⟩) (Zd6 X.I.G h6.hold) R rfl rfl rfl rfl ?_ (fun _=>⟨rfl,hw0⟩) (Zte X) (Zal X.W (by omega)) (Zee X R rfl rfl (fun _=>rfl) rfl rfl rfl ?_) (fun _ _=>Iff.rfl)
 ·rw [Zbb (by omega)]
  unfold Zaf
  rw [hpc]
  refine (Zax X.ZfX).trans ((ZbG X.ZfX).trans ?_)
  rw [show (st.held+18446744073709551615) % M64=st.held - 1 by show _ % 18446744073709551616=_; omega]
 ·unfold At
  exact ⟨[],h1,h2,h3,h4,h5,⟨h6.hold,h6.cut,by show st.held - 1+0=(st.sl .shelf).length+0; omega,h6.em⟩,.inr (.inr (.inl ⟨rfl,rfl⟩))⟩
 ·show pot c st { t with back:=95,pc:=76 }+1≤pot c st t
  unfold pot base pen
  simp [hpc]
  all_goals (try (repeat' split)) <;> omega
theorem p93 (X:Cx c mn cp st g k t)(hpc:t.pc=93):∃ t' g' st',Res c mn cp st g k t t' g' st':=by
 have hA:=X.at_
 unfold At at hA
 rw [hpc] at hA
 have hcpu:=X.cpu
 have hw0:=X.w0 (by omega) (by omega)
 have hC:=X.C
 have hS:=X.S
 have hO:=X.O
 obtain ⟨ch,h1,h2,h3⟩:=hA
 have R:∀ j,j≠k→ZaO c j none none st (Zg8 st (st.held+1)):=fun j hj=>Zd7 hj h2.hold
 have hh:=h2.held
 have hlen:=Zdb X.I.G
 refine Res.eff X (Zg8 st (st.held+1)) (hx:=none) (px:=none) (t':={ t with pc:=94 }) (g':=g.set (Zdo c) (st.held+1)) (pc:=93) (pc':=94) hpc rfl rfl ?_ rfl rfl rfl (.inl ⟨hw0,by decide⟩) (Zd6 X.I.G h2.hold) R rfl rfl rfl rfl ?_ (fun _=>⟨rfl,hw0⟩) (Zte X) (Zal X.W (by omega)) (Zee X R rfl rfl (fun _=>rfl) rfl rfl rfl ?_) (fun _ _=>Iff.rfl)
 ·rw [Zbb (by omega)]
  unfold Zaf
  rw [hpc]
  refine (Zax X.ZfX).trans ((ZbG X.ZfX).trans ?_)
  rw [show (st.held+1) % M64=st.held+1 by show _ % 18446744073709551616=_; omega]
 ·unfold At
  exact ⟨ch,h1,⟨h2.hold,h2.cut,by show st.held+1+0=(st.sl .shelf).length+0; omega,h2.em⟩,h3⟩
 ·show pot c st { t with pc:=94 }+1≤pot c st t
  unfold pot base pen
  simp [hpc,hcpu]
  all_goals (try (repeat' split)) <;> omega
theorem p62 (X:Cx c mn cp st g k t)(hpc:t.pc=62):∃ t' g' st',Res c mn cp st g k t t' g' st':=by
 have hA:=X.at_
 unfold At at hA
 rw [hpc] at hA
 have hcpu:=X.cpu
 have hw0:=X.w0 (by omega) (by omega)
 have hC:=X.C
 have hS:=X.S
 have hO:=X.O
 obtain ⟨h1,h2,h3,h4,h5⟩:=hA
 have hown:=h1.own X.I.G
 have hlt:t.N<18446744073709551616:=by obtain ⟨a,b,hp,_⟩:=h4; exact Zq8 hp
 have R:∀ j,j≠k→ZaO c j none none st (ZfY st (sn t) t.N):=fun j hj=>ZhS hj hown
 refine Res.eff X (ZfY st (sn t) t.N) (hx:=none) (px:=none) (t':={ t with pc:=63 }) (g':=g.set (Zgb c (sn t)) t.N) (pc:=62) (pc':=63) hpc rfl rfl ?_ rfl rfl rfl (.inl ⟨hw0,by decide⟩) (ZhR X.I.G hown hlt) R rfl rfl rfl rfl ?_ (fun e=>by obtain ⟨t2,e1,e2,_⟩:=X.I.lockd k e; rw [X.tk] at e1; cases e1; rw [hpc] at e2; cases e2) (ZtR X (Zau h2)) (Zal X.W hlt) (Zee X R rfl rfl (fun _=>rfl) rfl rfl rfl ?_) (fun _ _=>Iff.rfl)
 ·rw [Zb3 (by omega) (by omega)]
  unfold ZaD
  rw [hpc]
  exact (Zai h2).trans (ZbG (X.rnx (Zau h2)))
 ·unfold At
  exact ⟨h1,h2,h3,h4,h5,if_pos rfl⟩
 ·show pot c st { t with pc:=63 }+1≤pot c st t
  unfold pot base pen
  simp [hpc,hcpu]
  all_goals (try (repeat' split)) <;> omega
theorem p91 (X:Cx c mn cp st g k t)(hpc:t.pc=91):∃ t' g' st',Res c mn cp st g k t t' g' st':=by
 have hA:=X.at_
 unfold At at hA
 rw [hpc] at hA
 have hcpu:=X.cpu
 have hw0:=X.w0 (by omega) (by omega)
 have hC:=X.C
 have hS:=X.S
 have hO:=X.O
 obtain ⟨ch,h1,h2,h3,h4,h5,h6,h7,h8⟩:=hA
 have hown:=h1.own X.I.G
 have hlt:t.N<18446744073709551616:=by rw [h8]; exact Zrp fun s hs=>by have:=Zdy X.I.G (x:=.shelf) rfl hs; omega
 have R:∀ j,j≠k→ZaO c j none none st (ZfY st (sn t) t.N):=fun j hj=>ZhS hj hown
 refine Res.eff X (ZfY st (sn t) t.N) (hx:=none) (px:=none) (t':={ t with pc:=92 }) (g':=g.set (Zgb c (sn t)) t.N) (pc:=91) (pc':=92) hpc rfl rfl ?_ rfl rfl rfl (.inl ⟨hw0,by decide⟩) (ZhR X.I.G hown hlt) R rfl rfl rfl rfl ?_ (fun _=>⟨rfl,hw0⟩) (ZtR X (Zau h2)) (Zal X.W hlt) (Zee X R rfl rfl (fun _=>rfl) rfl rfl rfl ?_) (fun _ _=>Iff.rfl)
 ·rw [Zbb (by omega)]
  unfold Zaf
  rw [hpc]
  exact (Zai h2).trans (ZbG (X.rnx (Zau h2)))
 ·unfold At
  exact ⟨ch,h1,h2,h3,h4,h5,h6,h7,(if_pos rfl).trans h8⟩
 ·show pot c st { t with pc:=92 }+1≤pot c st t
  unfold pot base pen
  simp [hpc,hcpu]
  all_goals (try (repeat' split)) <;> omega
end
end Go.Proofs.YtfcpdlbkmkhhcaaGreatDoor.Cv
