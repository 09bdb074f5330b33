/-
  Texts of this claim, joined. No condition.
-/
import Derived.Test.YtfcpdlbkmkhhcaaGreatDoorCh1
import Derived.Test.YtfcpdlbkmkhhcaaGreatDoorCh27
namespace Go.Proofs.YtfcpdlbkmkhhcaaGreatDoor
set_option maxRecDepth 100000
set_option maxHeartbeats 40000000
namespace Cv
open See Cw
section
variable {c:Ch}{mn cp:Nat}{st st1 st':St}{g g':List Nat}{k:Nat}{t t':Tk}
theorem aM.spin (X:Cx c mn cp st g k t)(hs:iO c mn cp g t=some (t,g))(hh:st.hold≠none)(hl:nE t.pc=false):∃ t' g' st',aM c mn cp st g k t t' g' st':=by
 have hf:=X.loc.fin;refine⟨t,g,st,hs,X.E,X.W,X.I,?_,.inl hf,rfl,Nat.le_succ _,fun _ _=>.inl rfl,.inr ⟨rfl,rfl,rfl,hh,hl⟩,?_⟩
 ·funext j
  by_cases e:j=k
  ·rw[e,upd_same,X.tk]
   exact(if_pos hf).symm
  ·rw[upd_ne e]
 ·rw[if_neg (fun e=>by rw[hf]at e;cases e.2)]
  exact fun _ _=>Iff.rfl
theorem p34 (X:Cx c mn cp st g k t)(hpc:t.pc=34):∃ t' g' st',aM c mn cp st g k t t' g' st':=by
 have hA:=X.at_;unfold At at hA;rw[hpc]at hA;have ai:=X.aB;have aL:=X.w0 (by omega) (by omega);have hC:=X.C;have hS:=X.S;have hO:=X.O;obtain⟨h1,h2⟩:=hA;have hr:=X.rlock;cases hh:st.hold with
 |some j =>
  refine aM.spin X ?_ (by rw[hh];intro e;cases e) (by rw[hpc];decide)
  ·rw[jV (by omega) (by omega)]
   unfold dD;rw[hpc];refine(dM hr).trans ?_;rw[show lw st=1 from by unfold lw;rw[hh];rfl];exact if_neg (by decide)
 |none =>
  obtain⟨g1,g2,g3⟩:=X.I.G.rest hh;have R:∀ j,j≠k→bB c j none none st (jG st (some k)):=fun j hj=>zo hj (.inl hh) (.inr rfl);have hl:fK c mn (jG st (some k)) k none 0 0 0:=⟨rfl,g1,g2,g3⟩;refine aM.iI X (jG st (some k)) (hx:=none) (px:=none) (t':={ t with pc:=35 }) (g':=g.set (jc c) 1) (pc:=34) (pc':=35) hpc rfl rfl ?_ rfl rfl rfl (.inl ⟨aL,by decide⟩) (tZ X.I.G (fun j e=>by cases e;exact X.kC) (fun e=>by cases e)) R rfl rfl rfl rfl ?_ (fun _=>⟨rfl,aL⟩) (uD X) (eP X.W (by decide)) (jX X R rfl rfl (fun _=>rfl) rfl rfl rfl ?_) (fun _ _=>Iff.rfl)
  ·rw[jV (by omega) (by omega)]
   unfold dD;rw[hpc];refine(dM hr).trans ?_;rw[show lw st=0 from by unfold lw;rw[hh];rfl];exact(if_pos rfl).trans (jW hr)
  ·unfold At
   exact⟨h1,h2,hl⟩
  ·show aF c st { t with pc:=35 }+1≤aF c st t
   unfold aF base pen;simp[hpc,AA];all_goals (try(repeat' split))<;>omega
theorem p55 (X:Cx c mn cp st g k t)(hpc:t.pc=55):∃ t' g' st',aM c mn cp st g k t t' g' st':=by
 have hA:=X.at_;unfold At at hA;rw[hpc]at hA;have ai:=X.aB;have aL:=X.w0 (by omega) (by omega);have hC:=X.C;have hS:=X.S;have hO:=X.O;obtain⟨h1,h2,h3,h4,h5,h6⟩:=hA;have hr:=X.rlock;cases hh:st.hold with
 |some j =>
  refine aM.spin X ?_ (by rw[hh];intro e;cases e) (by rw[hpc];decide)
  ·rw[kZ (by omega) (by omega)]
   unfold dZ;rw[hpc];refine(dM hr).trans ?_;rw[show lw st=1 from by unfold lw;rw[hh];rfl];exact if_neg (by decide)
 |none =>
  obtain⟨g1,g2,g3⟩:=X.I.G.rest hh;have R:∀ j,j≠k→bB c j none none st (jG st (some k)):=fun j hj=>zo hj (.inl hh) (.inr rfl);have hl:fK c mn (jG st (some k)) k none 0 0 0:=⟨rfl,g1,g2,g3⟩;refine aM.iI X (jG st (some k)) (hx:=none) (px:=none) (t':={ t with pc:=56 }) (g':=g.set (jc c) 1) (pc:=55) (pc':=56) hpc rfl rfl ?_ rfl rfl rfl (.inl ⟨aL,by decide⟩) (tZ X.I.G (fun j e=>by cases e;exact X.kC) (fun e=>by cases e)) R rfl rfl rfl rfl ?_ (fun _=>⟨rfl,aL⟩) (uD X) (eP X.W (by decide)) (jX X R rfl rfl (fun _=>rfl) rfl rfl rfl ?_) (fun _ _=>Iff.rfl)
  ·rw[kZ (by omega) (by omega)]
   unfold dZ;rw[hpc];refine(dM hr).trans ?_;rw[show lw st=0 from by unfold lw;rw[hh];rfl];exact(if_pos rfl).trans (jW hr)
  ·unfold At
   exact⟨h1,h2,h3,h4,h5,h6,hl⟩
  ·show aF c st { t with pc:=56 }+1≤aF c st t
   unfold aF base pen;simp[hpc,ai];all_goals (try(repeat' split))<;>omega
theorem p95 (X:Cx c mn cp st g k t)(hpc:t.pc=95):∃ t' g' st',aM c mn cp st g k t t' g' st':=by
 have hA:=X.at_;unfold At at hA;rw[hpc]at hA;have ai:=X.aB;have aL:=X.w0 (by omega) (by omega);have hC:=X.C;have hS:=X.S;have hO:=X.O;have hr:=X.rlock;cases hh:st.hold with
 |some j =>
  refine aM.spin X ?_ (by rw[hh];intro e;cases e) (by rw[hpc];decide)
  ·rw[iP (by omega)]
   unfold bG;rw[hpc];refine(dM hr).trans ?_;rw[show lw st=1 from by unfold lw;rw[hh];rfl];exact if_neg (by decide)
 |none =>
  obtain⟨g1,g2,g3⟩:=X.I.G.rest hh;have R:∀ j,j≠k→bB c j none none st (jG st (some k)):=fun j hj=>zo hj (.inl hh) (.inr rfl);have hl:fK c mn (jG st (some k)) k none 0 0 0:=⟨rfl,g1,g2,g3⟩;refine aM.iI X (jG st (some k)) (hx:=none) (px:=none) (t':={ t with pc:=96 }) (g':=g.set (jc c) 1) (pc:=95) (pc':=96) hpc rfl rfl ?_ rfl rfl rfl (.inl ⟨aL,by decide⟩) (tZ X.I.G (fun j e=>by cases e;exact X.kC) (fun e=>by cases e)) R rfl rfl rfl rfl ?_ (fun _=>⟨rfl,aL⟩) (uD X) (eP X.W (by decide)) (jX X R rfl rfl (fun _=>rfl) rfl rfl rfl ?_) (fun _ _=>Iff.rfl)
  ·rw[iP (by omega)]
   unfold bG;rw[hpc];refine(dM hr).trans ?_;rw[show lw st=0 from by unfold lw;rw[hh];rfl];exact(if_pos rfl).trans (jW hr)
  ·unfold At
   exact⟨hA,hl⟩
  ·show aF c st { t with pc:=96 }+1≤aF c st t
   unfold aF base pen;simp[hpc];all_goals (try(repeat' split))<;>omega
theorem p80 (X:Cx c mn cp st g k t)(hpc:t.pc=80):∃ t' g' st',aM c mn cp st g k t t' g' st':=by
 have hA:=X.at_;unfold At at hA;rw[hpc]at hA;have ai:=X.aB;have aL:=X.w0 (by omega) (by omega);have hC:=X.C;have hS:=X.S;have hO:=X.O;obtain⟨l,ch,h1,h2,h3,h4,h5,h6,h7⟩:=hA;have hr:=X.rlock;cases hh:st.hold with
 |some j =>
  refine aM.spin X ?_ (by rw[hh];intro e;cases e) (by rw[hpc];decide)
  ·rw[iP (by omega)]
   unfold bG;rw[hpc];refine(dM hr).trans ?_;rw[show lw st=1 from by unfold lw;rw[hh];rfl];exact if_neg (by decide)
 |none =>
  obtain⟨g1,g2,g3⟩:=X.I.G.rest hh;have R:∀ j,j≠k→bB c j none none st (jG st (some k)):=fun j hj=>zo hj (.inl hh) (.inr rfl);have hl:fK c mn (jG st (some k)) k none 0 0 0:=⟨rfl,g1,g2,g3⟩;by_cases ow:t.obj<0
  ·have jJ:l=[]:=Tv (h6 ▸ ow)
   refine aM.iI X (jG st (some k)) (hx:=none) (px:=none) (t':={ t with pc:=84 }) (g':=g.set (jc c) 1) (pc:=80) (pc':=84) hpc rfl rfl ?_ rfl rfl rfl (.inl ⟨aL,by decide⟩) (tZ X.I.G (fun j e=>by cases e;exact X.kC) (fun e=>by cases e)) R rfl rfl rfl rfl ?_ (fun _=>⟨rfl,aL⟩) (uD X) (eP X.W (by decide)) (jX X R rfl rfl (fun _=>rfl) rfl rfl rfl ?_) (fun _ _=>Iff.rfl)
   ·rw[iP (by omega)]
    unfold bG;rw[hpc];refine(dM hr).trans ?_;rw[show lw st=0 from by unfold lw;rw[hh];rfl];exact(if_pos rfl).trans ((if_pos ow).trans (jW hr))
   ·unfold At
    exact⟨l,ch,h1,h2,h3,h5,h6,⟨-1,h7⟩,hl,by show t.many=_;rw[h4,jJ];rfl,.inl jJ⟩
   ·show aF c st { t with pc:=84 }+1≤aF c st t
    unfold aF base pen;simp[hpc,ai];all_goals (try(repeat' split))<;>omega
  ·obtain⟨a,r,hlr,ha⟩:=Zni (l:=l) (by omega)
   have hOl:(1:Int)≤c.O:=(by omega);refine aM.iI X (jG st (some k)) (hx:=none) (px:=none) (t':={ t with last:=t.obj,pc:=81 }) (g':=g.set (jc c) 1) (pc:=80) (pc':=81) hpc rfl rfl ?_ rfl rfl rfl (.inl ⟨aL,by decide⟩) (tZ X.I.G (fun j e=>by cases e;exact X.kC) (fun e=>by cases e)) R rfl rfl rfl rfl ?_ (fun _=>⟨rfl,aL⟩) (uD X) (eP X.W (by decide)) (jX X R rfl rfl (fun _=>rfl) rfl rfl rfl ?_) (fun _ _=>Iff.rfl)
   ·rw[iP (by omega)]
    unfold bG;rw[hpc];refine(dM hr).trans ?_;rw[show lw st=0 from by unfold lw;rw[hh];rfl];exact(if_pos rfl).trans ((if_neg ow).trans (jW hr))
   ·unfold At
    exact⟨l,ch,h1,h2,h3,h5,h6,h7,hl,[],a,r,hlr,by show t.obj=_;rw[h6,ha],h4⟩
   ·show aF c st { t with last:=t.obj,pc:=81 }+1≤aF c st t
    unfold aF base pen;simp[hpc,ai,h4];all_goals (try(repeat' split))<;>omega
theorem p36 (X:Cx c mn cp st g k t)(hpc:t.pc=36):∃ t' g' st',aM c mn cp st g k t t' g' st':=by
 have hA:=X.at_;unfold At at hA;rw[hpc]at hA;have ai:=X.aB;have aL:=X.w0 (by omega) (by omega);have hC:=X.C;have hS:=X.S;have hO:=X.O;obtain⟨h1,h2,hl⟩:=hA;have R:∀ j,j≠k→bB c j none none st (jG st none):=fun j hj=>zo hj (.inr hl.hold) (.inl rfl);refine aM.iI X (jG st none) (hx:=none) (px:=none) (t':={ t with want:=1,pc:=43 }) (g':=g.set (jc c) 0) (pc:=36) (pc':=43) hpc rfl rfl ?_ rfl rfl rfl (.inr (.inl ⟨rfl,rfl⟩)) (tZ X.I.G (fun j e=>by cases e) (fun _=>⟨hl.cut,hl.held,hl.em⟩)) R rfl rfl rfl rfl ?_ (fun e=>by cases e) (uD X) (eP X.W (by decide)) (jX X R rfl rfl (fun _=>rfl) rfl rfl rfl ?_) (fun _ _=>Iff.rfl)
 ·rw[jV (by omega) (by omega)]
  unfold dD;rw[hpc];exact jW X.rlock
 ·unfold At
  exact⟨fun _=>⟨h1,h2⟩,fun e=>absurd (show(1:Int)=0 from e) (by decide)⟩
 ·show aF c st { t with want:=1,pc:=43 }+1≤aF c st t
  unfold aF base pen;simp[hpc,AA];all_goals (try(repeat' split))<;>omega
theorem p49 (X:Cx c mn cp st g k t)(hpc:t.pc=49):∃ t' g' st',aM c mn cp st g k t t' g' st':=by
 have hA:=X.at_;unfold At at hA;rw[hpc]at hA;have ai:=X.aB;have aL:=X.w0 (by omega) (by omega);have hC:=X.C;have hS:=X.S;have hO:=X.O;obtain⟨h1,h2,h3,h4,hl,h5⟩:=hA;have R:∀ j,j≠k→bB c j none none st (jG st none):=fun j hj=>zo hj (.inr hl.hold) (.inl rfl);refine aM.iI X (jG st none) (hx:=none) (px:=none) (t':={ t with pc:=40 }) (g':=g.set (jc c) 0) (pc:=49) (pc':=40) hpc rfl rfl ?_ rfl rfl rfl (.inl ⟨aL,by decide⟩) (tZ X.I.G (fun j e=>by cases e) (fun _=>⟨hl.cut,hl.held,hl.em⟩)) R rfl rfl rfl rfl ?_ (fun e=>by cases e) (uD X) (eP X.W (by decide)) (jX X R rfl rfl (fun _=>rfl) rfl rfl rfl ?_) (fun _ _=>Iff.rfl)
 ·rw[jV (by omega) (by omega)]
  unfold dD;rw[hpc];exact jW X.rlock
 ·unfold At
  exact⟨h1,h2,h3,h4,h5⟩
 ·show aF c st { t with pc:=40 }+1≤aF c st t
  unfold aF base pen;simp[hpc];all_goals (try(repeat' split))<;>omega
theorem p57 (X:Cx c mn cp st g k t)(hpc:t.pc=57):∃ t' g' st',aM c mn cp st g k t t' g' st':=by
 have hA:=X.at_;unfold At at hA;rw[hpc]at hA;have ai:=X.aB;have aL:=X.w0 (by omega) (by omega);have hC:=X.C;have hS:=X.S;have hO:=X.O;obtain⟨h1,h2,h3,hl⟩:=hA;have R:∀ j,j≠k→bB c j none none st (jG st none):=fun j hj=>zo hj (.inr hl.hold) (.inl rfl);refine aM.iI X (jG st none) (hx:=none) (px:=none) (t':={ t with pc:=50 }) (g':=g.set (jc c) 0) (pc:=57) (pc':=50) hpc rfl rfl ?_ rfl rfl rfl (.inl ⟨aL,by decide⟩) (tZ X.I.G (fun j e=>by cases e) (fun _=>⟨hl.cut,hl.held,hl.em⟩)) R rfl rfl rfl rfl ?_ (fun e=>by cases e) (uD X) (eP X.W (by decide)) (jX X R rfl rfl (fun _=>rfl) rfl rfl rfl ?_) (fun _ _=>Iff.rfl)
 ·rw[kZ (by omega) (by omega)]
  unfold dZ;rw[hpc];exact jW X.rlock
 ·unfold At
  exact⟨h1,h2,h3⟩
 ·show aF c st { t with pc:=50 }+1≤aF c st t
  unfold aF base pen;simp[hpc];all_goals (try(repeat' split))<;>omega
theorem p77 (X:Cx c mn cp st g k t)(hpc:t.pc=77):∃ t' g' st',aM c mn cp st g k t t' g' st':=by
 have hA:=X.at_;unfold At at hA;rw[hpc]at hA;have ai:=X.aB;have aL:=X.w0 (by omega) (by omega);have hC:=X.C;have hS:=X.S;have hO:=X.O;obtain⟨l,ch,h1,h2,h3,hl,h4⟩:=hA;have R:∀ j,j≠k→bB c j none none st (jG st none):=fun j hj=>zo hj (.inr hl.hold) (.inl rfl);refine aM.iI X (jG st none) (hx:=none) (px:=none) (t':={ t with want:=2,pc:=78 }) (g':=g.set (jc c) 0) (pc:=77) (pc':=78) hpc rfl rfl ?_ rfl rfl rfl (.inr (.inr ⟨rfl,rfl⟩)) (tZ X.I.G (fun j e=>by cases e) (fun _=>⟨hl.cut,hl.held,hl.em⟩)) R rfl rfl rfl rfl ?_ (fun e=>by cases e) (uD X) (eP X.W (by decide)) (jX X R rfl rfl (fun _=>rfl) rfl rfl rfl ?_) (fun _ _=>Iff.rfl)
 ·rw[iP (by omega)]
  unfold bG;rw[hpc];exact jW X.rlock
 ·unfold At
  exact⟨l,ch,h1,h2,h3,h4⟩
 ·show aF c st { t with want:=2,pc:=78 }+1≤aF c st t
  unfold aF base pen;simp[hpc,ai];all_goals (try(repeat' split))<;>omega
theorem p59 (X:Cx c mn cp st g k t)(hpc:t.pc=59):∃ t' g' st',aM c mn cp st g k t t' g' st':=by
 have hA:=X.at_;unfold At at hA;rw[hpc]at hA;have ai:=X.aB;have aL:=X.w0 (by omega) (by omega);have hC:=X.C;have hS:=X.S;have hO:=X.O;obtain⟨h1,hl⟩:=hA;have R:∀ j,j≠k→bB c j none none st (jG st none):=fun j hj=>zo hj (.inr hl.hold) (.inl rfl);refine aM.Dw X (jG st none) (hx:=none) (px:=none) (t':={ t with fin:=1 }) (g':=g.set (jc c) 0) ?_ rfl rfl (tZ X.I.G (fun j e=>by cases e) (fun _=>⟨hl.cut,hl.held,hl.em⟩)) R rfl rfl rfl rfl h1 (fun e=>by cases e) (uD X) (eP X.W (by decide)) (jX X R rfl rfl (fun _=>rfl) rfl rfl rfl ?_) (by rw[if_neg (X.rC (by rw[hpc];decide))];exact fun _ _=>Iff.rfl)
 ·rw[kZ (by omega) (by omega)]
  unfold dZ;rw[hpc];exact jW X.rlock
 ·show 0+1≤aF c st t
  unfold aF base pen;simp[hpc];all_goals (try(repeat' split))<;>omega
theorem p99 (X:Cx c mn cp st g k t)(hpc:t.pc=99):∃ t' g' st',aM c mn cp st g k t t' g' st':=by
 have hA:=X.at_;unfold At at hA;rw[hpc]at hA;have ai:=X.aB;have aL:=X.w0 (by omega) (by omega);have hC:=X.C;have hS:=X.S;have hO:=X.O;obtain⟨h1,hl⟩:=hA;have R:∀ j,j≠k→bB c j none none st (jG st none):=fun j hj=>zo hj (.inr hl.hold) (.inl rfl);refine aM.Dw X (jG st none) (hx:=none) (px:=none) (t':={ t with fin:=1 }) (g':=g.set (jc c) 0) ?_ rfl rfl (tZ X.I.G (fun j e=>by cases e) (fun _=>⟨hl.cut,hl.held,hl.em⟩)) R rfl rfl rfl rfl h1 (fun e=>by cases e) (uD X) (eP X.W (by decide)) (jX X R rfl rfl (fun _=>rfl) rfl rfl rfl ?_) (by rw[if_neg (X.rC (by rw[hpc];decide))];exact fun _ _=>Iff.rfl)
 ·rw[iP (by omega)]
  unfold bG;rw[hpc];exact jW X.rlock
 ·show 0+1≤aF c st t
  unfold aF base pen;simp[hpc];all_goals (try(repeat' split))<;>omega
theorem p94 (X:Cx c mn cp st g k t)(hpc:t.pc=94):∃ t' g' st',aM c mn cp st g k t t' g' st':=by
 have hA:=X.at_;unfold At at hA;rw[hpc]at hA;have ai:=X.aB;have aL:=X.w0 (by omega) (by omega);have hC:=X.C;have hS:=X.S;have hO:=X.O;obtain⟨ch,h1,hl,hb⟩:=hA;have R:∀ j,j≠k→bB c j none none st (jG st none):=fun j hj=>zo hj (.inr hl.hold) (.inl rfl);have wG:∀ t2,kY t=some t2→iO c mn cp g t=some (t2,g.set (jc c) 0):=by
  intro t2 hg;rw[iP (by omega)];unfold bG;rw[hpc]
  show(match kY t with
   |some t'=>wr g (jc c) 0 t'
   |none=>none)=_
  rw[hg];exact jW X.rlock
 have aI:∀ (gM:ch=[]) (hg:kY t=some { t with fin:=1 }),∃ t' g' st',aM c mn cp st g k t t' g' st':=by
  intro gM hg;refine aM.Dw X (jG st none) (hx:=none) (px:=none) (t':={ t with fin:=1 }) (g':=g.set (jc c) 0) ?_ rfl rfl (tZ X.I.G (fun j e=>by cases e) (fun _=>⟨hl.cut,hl.held,hl.em⟩)) R rfl rfl rfl rfl (by rw[gM]at h1;exact h1) (fun e=>by cases e) (uD X) (eP X.W (by decide)) (jX X R rfl rfl (fun _=>rfl) rfl rfl rfl ?_) (by rw[if_neg (X.rC (by rw[hpc];decide))];exact fun _ _=>Iff.rfl)
  ·exact wG _ hg
  ·show 0+1≤aF c st t
   unfold aF base pen;simp[hpc,ai];all_goals (try(repeat' split))<;>omega
 rcases hb with⟨hb,hc⟩|⟨hb,hc,hf⟩|⟨hb,hc⟩|⟨hb,hH⟩
 ·exact aI hc (if_pos hb)
 ·subst hc
  refine aM.iI X (jG st none) (hx:=none) (px:=none) (t':={ t with pc:=73 }) (g':=g.set (jc c) 0) (pc:=94) (pc':=73) hpc rfl rfl ?_ rfl rfl rfl (.inl ⟨aL,by decide⟩) (tZ X.I.G (fun j e=>by cases e) (fun _=>⟨hl.cut,hl.held,hl.em⟩)) R rfl rfl rfl rfl ?_ (fun e=>by cases e) (uD X) (eP X.W (by decide)) (jX X R rfl rfl (fun _=>rfl) rfl rfl rfl ?_) (fun _ _=>Iff.rfl)
  ·exact wG _ (by unfold kY;rw[if_neg (by omega),if_pos hb])
  ·unfold At
   exact⟨h1,hf⟩
  ·show aF c st { t with pc:=73 }+1≤aF c st t
   unfold aF base pen;simp[hpc,cont,hb];all_goals (try(repeat' split))<;>omega
 ·subst hc
  refine aM.iI X (jG st none) (hx:=none) (px:=none) (t':={ t with pc:=95 }) (g':=g.set (jc c) 0) (pc:=94) (pc':=95) hpc rfl rfl ?_ rfl rfl rfl (.inl ⟨aL,by decide⟩) (tZ X.I.G (fun j e=>by cases e) (fun _=>⟨hl.cut,hl.held,hl.em⟩)) R rfl rfl rfl rfl ?_ (fun e=>by cases e) (uD X) (eP X.W (by decide)) (jX X R rfl rfl (fun _=>rfl) rfl rfl rfl ?_) (fun _ _=>Iff.rfl)
  ·exact wG _ (by unfold kY;rw[if_neg (by omega),if_neg (by omega),if_pos hb])
  ·unfold At
   exact h1
  ·show aF c st { t with pc:=95 }+1≤aF c st t
   unfold aF base pen;simp[hpc,cont,hb];all_goals (try(repeat' split))<;>omega
 ·cases gM:ch with
  |nil =>
   refine aI gM ?_;unfold kY;rw[if_neg (by omega),if_neg (by omega),if_neg (by omega),if_pos hb,if_pos (by rw[hH,gM];rfl)]
  |cons a r =>
   refine aM.iI X (jG st none) (hx:=none) (px:=none) (t':={ t with pc:=79 }) (g':=g.set (jc c) 0) (pc:=94) (pc':=79) hpc rfl rfl ?_ rfl rfl rfl (.inl ⟨aL,by decide⟩) (tZ X.I.G (fun j e=>by cases e) (fun _=>⟨hl.cut,hl.held,hl.em⟩)) R rfl rfl rfl rfl ?_ (fun e=>by cases e) (uD X) (eP X.W (by decide)) (jX X R rfl rfl (fun _=>rfl) rfl rfl rfl ?_) (fun _ _=>Iff.rfl)
   ·refine wG _ ?_
    unfold kY;rw[if_neg (by omega),if_neg (by omega),if_neg (by omega),if_pos hb,if_neg (by rw[hH,gM];exact UF)]
   ·unfold At
    exact⟨ch,h1,by rw[gM];simp,hH⟩
   ·show aF c st { t with pc:=79 }+1≤aF c st t
    unfold aF base pen;simp[hpc,ai,cont,hb,h1.ch];all_goals (try(repeat' split))<;>omega
end
end Cv
namespace Cv
open See Cw
section
variable {c:Ch}{mn cp:Nat}{st st1 st':St}{g g':List Nat}{k:Nat}{t t':Tk}
theorem p48 (X:Cx c mn cp st g k t)(hpc:t.pc=48):∃ t' g' st',aM c mn cp st g k t t' g' st':=by
 have hA:=X.at_;unfold At at hA;rw[hpc]at hA;have ai:=X.aB;have aL:=X.w0 (by omega) (by omega);have hC:=X.C;have hS:=X.S;have hO:=X.O;obtain⟨h1,h2,h3,h4,h5,h6⟩:=hA;have R:∀ j,j≠k→bB c j none none st (zG st (st.held - 1)):=fun j hj=>O8 hj h5.hold;have hh:=h5.held;have hlen:=Gi X.I.G;refine aM.iI X (zG st (st.held - 1)) (hx:=none) (px:=none) (t':={ t with pc:=49 }) (g':=g.set (qa c) (st.held - 1)) (pc:=48) (pc':=49) hpc rfl rfl ?_ rfl rfl rfl (.inl ⟨aL,by decide⟩) (O7 X.I.G h5.hold) R rfl rfl rfl rfl ?_ (fun _=>⟨rfl,aL⟩) (QN X) (eP X.W (by omega)) (jX X R rfl rfl (fun _=>rfl) rfl rfl rfl ?_) (fun _ _=>Iff.rfl)
 ·rw[jV (by omega) (by omega)]
  unfold dD;rw[hpc];refine(dM X.yD).trans ((jW X.yD).trans ?_);rw[show(st.held+18446744073709551615) % jC=st.held - 1 by show _ % 18446744073709551616=_;omega]
 ·unfold At
  exact⟨h1,h2,h3,h4,⟨h5.hold,h5.cut,by show st.held - 1+0=(st.sl .shelf).length+0;omega,h5.em⟩,h6⟩
 ·show aF c st { t with pc:=49 }+1≤aF c st t
  unfold aF base pen;simp[hpc];all_goals (try(repeat' split))<;>omega
theorem p68 (X:Cx c mn cp st g k t)(hpc:t.pc=68):∃ t' g' st',aM c mn cp st g k t t' g' st':=by
 have hA:=X.at_;unfold At at hA;rw[hpc]at hA;have ai:=X.aB;have aL:=X.w0 (by omega) (by omega);have hC:=X.C;have hS:=X.S;have hO:=X.O;obtain⟨h1,h2,h3,h4,h5,h6⟩:=hA;have R:∀ j,j≠k→bB c j none none st (zG st (st.held - 1)):=fun j hj=>O8 hj h6.hold;have hh:=h6.held;have hlen:=Gi X.I.G;refine aM.iI X (zG st (st.held - 1)) (hx:=none) (px:=none) (t':={ t with back:=0,pc:=76 }) (g':=g.set (qa c) (st.held - 1)) (pc:=68) (pc':=76) hpc rfl rfl ?_ rfl rfl rfl (.inl ⟨aL,by decide⟩) (O7 X.I.G h6.hold) R rfl rfl rfl rfl ?_ (fun _=>⟨rfl,aL⟩) (QN X) (eP X.W (by omega)) (jX X R rfl rfl (fun _=>rfl) rfl rfl rfl ?_) (fun _ _=>Iff.rfl)
 ·rw[kZ (by omega) (by omega)]
  unfold dZ;rw[hpc];refine(dM X.yD).trans ((jW X.yD).trans ?_);rw[show(st.held+18446744073709551615) % jC=st.held - 1 by show _ % 18446744073709551616=_;omega]
 ·unfold At
  exact⟨[],h1,h2,h3,h4,h5,⟨h6.hold,h6.cut,by show st.held - 1+0=(st.sl .shelf).length+0;omega,h6.em⟩,.inl ⟨rfl,rfl⟩⟩
 ·show aF c st { t with back:=0,pc:=76 }+1≤aF c st t
  unfold aF base pen;simp[hpc,cont];all_goals (try(repeat' split))<;>omega
theorem Zue (X:Cx c mn cp st g k t)(hpc:t.pc=103):∃ t' g' st',aM c mn cp st g k t t' g' st':=by
 have hA:=X.at_;unfold At at hA;rw[hpc]at hA;have ai:=X.aB;have aL:=X.w0 (by omega) (by omega);have hC:=X.C;have hS:=X.S;have hO:=X.O;obtain⟨h1,h2,h3,h4,h5,h6⟩:=hA;have R:∀ j,j≠k→bB c j none none st (zG st (st.held - 1)):=fun j hj=>O8 hj h6.hold;have hh:=h6.held;have hlen:=Gi X.I.G;refine aM.iI X (zG st (st.held - 1)) (hx:=none) (px:=none) (t':={ t with back:=95,pc:=76 }) (g':=g.set (qa c) (st.held - 1)) (pc:=103) (pc':=76) hpc rfl rfl ?_ rfl rfl rfl (.inl ⟨aL,by decide⟩) (O7 X.I.G h6.hold) R rfl rfl rfl rfl ?_ (fun _=>⟨rfl,aL⟩) (QN X) (eP X.W (by omega)) (jX X R rfl rfl (fun _=>rfl) rfl rfl rfl ?_) (fun _ _=>Iff.rfl)
 ·rw[iP (by omega)]
  unfold bG;rw[hpc];refine(dM X.yD).trans ((jW X.yD).trans ?_);rw[show(st.held+18446744073709551615) % jC=st.held - 1 by show _ % 18446744073709551616=_;omega]
 ·unfold At
  exact⟨[],h1,h2,h3,h4,h5,⟨h6.hold,h6.cut,by show st.held - 1+0=(st.sl .shelf).length+0;omega,h6.em⟩,.inr (.inr (.inl ⟨rfl,rfl⟩))⟩
 ·show aF c st { t with back:=95,pc:=76 }+1≤aF c st t
  unfold aF base pen;simp[hpc];all_goals (try(repeat' split))<;>omega
theorem p93 (X:Cx c mn cp st g k t)(hpc:t.pc=93):∃ t' g' st',aM c mn cp st g k t t' g' st':=by
 have hA:=X.at_;unfold At at hA;rw[hpc]at hA;have ai:=X.aB;have aL:=X.w0 (by omega) (by omega);have hC:=X.C;have hS:=X.S;have hO:=X.O;obtain⟨ch,h1,h2,h3⟩:=hA;have R:∀ j,j≠k→bB c j none none st (zG st (st.held+1)):=fun j hj=>O8 hj h2.hold;have hh:=h2.held;have hlen:=Gi X.I.G;refine aM.iI X (zG st (st.held+1)) (hx:=none) (px:=none) (t':={ t with pc:=94 }) (g':=g.set (qa c) (st.held+1)) (pc:=93) (pc':=94) hpc rfl rfl ?_ rfl rfl rfl (.inl ⟨aL,by decide⟩) (O7 X.I.G h2.hold) R rfl rfl rfl rfl ?_ (fun _=>⟨rfl,aL⟩) (QN X) (eP X.W (by omega)) (jX X R rfl rfl (fun _=>rfl) rfl rfl rfl ?_) (fun _ _=>Iff.rfl)
 ·rw[iP (by omega)]
  unfold bG;rw[hpc];refine(dM X.yD).trans ((jW X.yD).trans ?_);rw[show(st.held+1) % jC=st.held+1 by show _ % 18446744073709551616=_;omega]
 ·unfold At
  exact⟨ch,h1,⟨h2.hold,h2.cut,by show st.held+1+0=(st.sl .shelf).length+0;omega,h2.em⟩,h3⟩
 ·show aF c st { t with pc:=94 }+1≤aF c st t
  unfold aF base pen;simp[hpc,ai];all_goals (try(repeat' split))<;>omega
theorem p62 (X:Cx c mn cp st g k t)(hpc:t.pc=62):∃ t' g' st',aM c mn cp st g k t t' g' st':=by
 have hA:=X.at_;unfold At at hA;rw[hpc]at hA;have ai:=X.aB;have aL:=X.w0 (by omega) (by omega);have hC:=X.C;have hS:=X.S;have hO:=X.O;obtain⟨h1,h2,h3,h4,h5⟩:=hA;have dS:=h1.own X.I.G;have aK:t.N<18446744073709551616:=by obtain⟨a,b,hp,_⟩:=h4;exact Zq8 hp
 have R:∀ j,j≠k→bB c j none none st (yE st (sn t) t.N):=fun j hj=>Yq hj dS;refine aM.iI X (yE st (sn t) t.N) (hx:=none) (px:=none) (t':={ t with pc:=63 }) (g':=g.set (mO c (sn t)) t.N) (pc:=62) (pc':=63) hpc rfl rfl ?_ rfl rfl rfl (.inl ⟨aL,by decide⟩) (Yp X.I.G dS aK) R rfl rfl rfl rfl ?_ (fun e=>by obtain⟨t2,e1,e2,_⟩:=X.I.gL k e;rw[X.tk]at e1;cases e1;rw[hpc]at e2;cases e2) (ZtR X (dG h2)) (eP X.W aK) (jX X R rfl rfl (fun _=>rfl) rfl rfl rfl ?_) (fun _ _=>Iff.rfl)
 ·rw[kZ (by omega) (by omega)]
  unfold dZ;rw[hpc];exact(fM h2).trans (jW (X.yR (dG h2)))
 ·unfold At
  exact⟨h1,h2,h3,h4,h5,if_pos rfl⟩
 ·show aF c st { t with pc:=63 }+1≤aF c st t
  unfold aF base pen;simp[hpc,ai];all_goals (try(repeat' split))<;>omega
theorem p91 (X:Cx c mn cp st g k t)(hpc:t.pc=91):∃ t' g' st',aM c mn cp st g k t t' g' st':=by
 have hA:=X.at_;unfold At at hA;rw[hpc]at hA;have ai:=X.aB;have aL:=X.w0 (by omega) (by omega);have hC:=X.C;have hS:=X.S;have hO:=X.O;obtain⟨ch,h1,h2,h3,h4,h5,h6,h7,h8⟩:=hA;have dS:=h1.own X.I.G;have aK:t.N<18446744073709551616:=by rw[h8];exact U1 fun s hs=>by have:=nY X.I.G (x:=.shelf) rfl hs;omega
 have R:∀ j,j≠k→bB c j none none st (yE st (sn t) t.N):=fun j hj=>Yq hj dS;refine aM.iI X (yE st (sn t) t.N) (hx:=none) (px:=none) (t':={ t with pc:=92 }) (g':=g.set (mO c (sn t)) t.N) (pc:=91) (pc':=92) hpc rfl rfl ?_ rfl rfl rfl (.inl ⟨aL,by decide⟩) (Yp X.I.G dS aK) R rfl rfl rfl rfl ?_ (fun _=>⟨rfl,aL⟩) (ZtR X (dG h2)) (eP X.W aK) (jX X R rfl rfl (fun _=>rfl) rfl rfl rfl ?_) (fun _ _=>Iff.rfl)
 ·rw[iP (by omega)]
  unfold bG;rw[hpc];exact(fM h2).trans (jW (X.yR (dG h2)))
 ·unfold At
  exact⟨ch,h1,h2,h3,h4,h5,h6,h7,(if_pos rfl).trans h8⟩
 ·show aF c st { t with pc:=92 }+1≤aF c st t
  unfold aF base pen;simp[hpc,ai];all_goals (try(repeat' split))<;>omega
end
end Cv
namespace Cv
open See Cw
section
variable {c:Ch}{mn cp:Nat}{st st1 st':St}{g g':List Nat}{k:Nat}{t t':Tk}
theorem p12 (X:Cx c mn cp st g k t)(hpc:t.pc=12):∃ t' g' st',aM c mn cp st g k t t' g' st':=by
 have hA:=X.at_;unfold At at hA;rw[hpc]at hA;have ai:=X.aB;have aL:=X.w0 (by omega) (by omega);have hC:=X.C;have hS:=X.S;have hO:=X.O;obtain⟨h1,h2,h3,h4,h5⟩:=hA;have eG:=h1.loc X.I.G (o:=on t) (by simp);refine aM.iI X (sS st (sn t) (on t) (fZ t.last (ky c (sn t)) (on t))) (hx:=none) (px:=none) (t':={ t with pc:=13 }) (g':=g.set (o9 c (sn t) (on t)) (fZ t.last (ky c (sn t)) (on t))) (pc:=12) (pc':=13) hpc rfl rfl ?_ rfl rfl rfl (.inl ⟨aL,by decide⟩) (Ew X.I.G eG) (fun j hj=>sK hj eG) rfl rfl rfl rfl ?_ (fun e=>by obtain⟨t2,e1,e2,_⟩:=X.I.gL k e;rw[X.tk]at e1;cases e1;rw[hpc]at e2;cases e2) (EZ X (dG h2) (qE h3)) (eP X.W (EC (by omega))) (jX X (fun j hj=>sK hj eG) rfl rfl (fun _=>rfl) rfl rfl rfl ?_) (fun _ _=>Iff.rfl)
 ·rw[sU (by omega)]
  unfold jq;rw[hpc];exact(fM h2).trans ((pY h3).trans ((dQ (by omega)).trans (jW (X.Bg (dG h2) (qE h3)))))
 ·unfold At
  exact⟨h1,h2,h3,if_pos ⟨rfl,rfl⟩,h5⟩
 ·show aF c st { t with pc:=13 }+1≤aF c st t
  unfold aF base pen;simp[hpc,ai];all_goals (try(repeat' split))<;>omega
theorem p52 (X:Cx c mn cp st g k t)(hpc:t.pc=52):∃ t' g' st',aM c mn cp st g k t t' g' st':=by
 have hA:=X.at_;unfold At at hA;rw[hpc]at hA;have ai:=X.aB;have aL:=X.w0 (by omega) (by omega);have hC:=X.C;have hS:=X.S;have hO:=X.O;obtain⟨h1,h2,h3,h4,iu,f,hK,jS,h5⟩:=hA;have eG:=h1.loc X.I.G (o:=on t) (by simp);cases f with
 |true =>
  refine aM.iI X (sS st (sn t) (on t) (fZ ((t.F:Int) - 1) (ky c (sn t)) (on t))) (hx:=none) (px:=none) (t':={ t with pc:=53 }) (g':=g.set (o9 c (sn t) (on t)) (fZ ((t.F:Int) - 1) (ky c (sn t)) (on t))) (pc:=52) (pc':=53) hpc rfl rfl ?_ rfl rfl rfl (.inl ⟨aL,by decide⟩) (Ew X.I.G eG) (fun j hj=>sK hj eG) rfl rfl rfl rfl ?_ (fun e=>by obtain⟨t2,e1,e2,_⟩:=X.I.gL k e;rw[X.tk]at e1;cases e1;rw[hpc]at e2;cases e2) (EZ X (dG h2) (qE h3)) (eP X.W (EC (by omega))) (jX X (fun j hj=>sK hj eG) rfl rfl (fun _=>rfl) rfl rfl rfl ?_) (fun _ _=>Iff.rfl)
  ·rw[kZ (by omega) (by omega)]
   unfold dZ;rw[hpc];refine(fM h2).trans ((pY h3).trans ((dQ h4).trans ?_));rw[hK];refine(o8 jS hO.1 hO.2).trans ((dQ h5).trans ((jW (X.Bg (dG h2) (qE h3))).trans ?_));rw[if_pos rfl]
  ·unfold At
   exact⟨h1,h2,h3,h4,⟨iu,true,hK,jS,h5,.inl rfl⟩,if_pos ⟨rfl,rfl⟩⟩
  ·show aF c st { t with pc:=53 }+1≤aF c st t
   unfold aF base pen;simp[hpc,ai];all_goals (try(repeat' split))<;>omega
 |false =>
  by_cases hF:t.F=0
  ·skip
   refine aM.iI X (sS st (sn t) (on t) (fZ ((t.F:Int) - 1) (ky c (sn t)) (on t))) (hx:=none) (px:=none) (t':={ t with pc:=54 }) (g':=g.set (o9 c (sn t) (on t)) (fZ ((t.F:Int) - 1) (ky c (sn t)) (on t))) (pc:=52) (pc':=54) hpc rfl rfl ?_ rfl rfl rfl (.inl ⟨aL,by decide⟩) (Ew X.I.G eG) (fun j hj=>sK hj eG) rfl rfl rfl rfl ?_ (fun e=>by obtain⟨t2,e1,e2,_⟩:=X.I.gL k e;rw[X.tk]at e1;cases e1;rw[hpc]at e2;cases e2) (EZ X (dG h2) (qE h3)) (eP X.W (EC (by omega))) (jX X (fun j hj=>sK hj eG) rfl rfl (fun _=>rfl) rfl rfl rfl ?_) (fun _ _=>Iff.rfl)
   ·rw[kZ (by omega) (by omega)]
    unfold dZ;rw[hpc];refine(fM h2).trans ((pY h3).trans ((dQ h4).trans ?_));rw[hK];refine(o8 jS hO.1 hO.2).trans ((dQ h5).trans ((jW (X.Bg (dG h2) (qE h3))).trans ?_));rw[if_neg (by decide),if_pos hF]
   ·unfold At
    exact⟨h1,h2,h3,hF,⟨iu,false,hK,jS,h5,rfl⟩,if_pos ⟨rfl,rfl⟩⟩
   ·show aF c st { t with pc:=54 }+1≤aF c st t
    unfold aF base pen;simp[hpc,ai];all_goals (try(repeat' split))<;>omega
  ·by_cases hi:1<iu
   ·skip
    refine aM.iI X (sS st (sn t) (on t) (fZ ((t.F:Int) - 1) (ky c (sn t)) (on t))) (hx:=none) (px:=none) (t':={ t with pc:=53 }) (g':=g.set (o9 c (sn t) (on t)) (fZ ((t.F:Int) - 1) (ky c (sn t)) (on t))) (pc:=52) (pc':=53) hpc rfl rfl ?_ rfl rfl rfl (.inl ⟨aL,by decide⟩) (Ew X.I.G eG) (fun j hj=>sK hj eG) rfl rfl rfl rfl ?_ (fun e=>by obtain⟨t2,e1,e2,_⟩:=X.I.gL k e;rw[X.tk]at e1;cases e1;rw[hpc]at e2;cases e2) (EZ X (dG h2) (qE h3)) (eP X.W (EC (by omega))) (jX X (fun j hj=>sK hj eG) rfl rfl (fun _=>rfl) rfl rfl rfl ?_) (fun _ _=>Iff.rfl)
    ·rw[kZ (by omega) (by omega)]
     unfold dZ;rw[hpc];refine(fM h2).trans ((pY h3).trans ((dQ h4).trans ?_));rw[hK];refine(o8 jS hO.1 hO.2).trans ((dQ h5).trans ((jW (X.Bg (dG h2) (qE h3))).trans ?_));rw[if_neg (by decide),if_neg hF,if_pos hi]
    ·unfold At
     exact⟨h1,h2,h3,h4,⟨iu,false,hK,jS,h5,.inr ⟨hF,hi⟩⟩,if_pos ⟨rfl,rfl⟩⟩
    ·show aF c st { t with pc:=53 }+1≤aF c st t
     unfold aF base pen;simp[hpc,ai];all_goals (try(repeat' split))<;>omega
   ·skip
    refine aM.iI X (sS st (sn t) (on t) (fZ ((t.F:Int) - 1) (ky c (sn t)) (on t))) (hx:=none) (px:=none) (t':={ t with pc:=55 }) (g':=g.set (o9 c (sn t) (on t)) (fZ ((t.F:Int) - 1) (ky c (sn t)) (on t))) (pc:=52) (pc':=55) hpc rfl rfl ?_ rfl rfl rfl (.inl ⟨aL,by decide⟩) (Ew X.I.G eG) (fun j hj=>sK hj eG) rfl rfl rfl rfl ?_ (fun e=>by obtain⟨t2,e1,e2,_⟩:=X.I.gL k e;rw[X.tk]at e1;cases e1;rw[hpc]at e2;cases e2) (EZ X (dG h2) (qE h3)) (eP X.W (EC (by omega))) (jX X (fun j hj=>sK hj eG) rfl rfl (fun _=>rfl) rfl rfl rfl ?_) (fun _ _=>Iff.rfl)
    ·rw[kZ (by omega) (by omega)]
     unfold dZ;rw[hpc];refine(fM h2).trans ((pY h3).trans ((dQ h4).trans ?_));rw[hK];refine(o8 jS hO.1 hO.2).trans ((dQ h5).trans ((jW (X.Bg (dG h2) (qE h3))).trans ?_));rw[if_neg (by decide),if_neg hF,if_neg hi]
    ·unfold At
     exact⟨h1,h2,h3,⟨by show 1≤t.F;omega,h4⟩,⟨iu,false,hK,jS,by omega,rfl⟩,if_pos ⟨rfl,rfl⟩⟩
    ·show aF c st { t with pc:=55 }+1≤aF c st t
     unfold aF base pen;simp[hpc,ai];all_goals (try(repeat' split))<;>omega
theorem p86 (X:Cx c mn cp st g k t)(hpc:t.pc=86):∃ t' g' st',aM c mn cp st g k t t' g' st':=by
 have hA:=X.at_;unfold At at hA;rw[hpc]at hA;have ai:=X.aB;have aL:=X.w0 (by omega) (by omega);have hC:=X.C;have hS:=X.S;have hO:=X.O;obtain⟨l,ch,h1,h2,h3,h5,h6,⟨e,h7⟩,h8,h9,⟨p,a,lX,uM⟩,zV,h13⟩:=hA;have bY:∀ o∈l,o<c.O:=fun o ho=>(ru X.I.G (x:=.aU k) (s:=sn t) rfl (by rw[h1.at_];exact ho)).2;have ha:a<c.O:=bY a (by rw[lX];simp);have eG:=h1.loc X.I.G (o:=a) (by rw[lX];simp);have pM:0≤t.last∧t.last<c.O:=by omega
 have jJ:t.last.toNat=a:=by omega
 have jZ:(p++[a]).Nodup:=by
  rw[← lX,← h1.at_];exact X.I.G.od (sn t) (.aU k) rfl
 have Hq:a∉p:=fun e=>(List.nodup_append.1 jZ).2.2 a e a (by simp) rfl;have qN:gy ((sS st (sn t) a (fZ ((t.F:Int) - 1) (ky c (sn t)) a)).lk (sn t)) (ky c (sn t)) l ((t.F:Int) - 1):=by
  rw[lX,KU]at h7 ⊢;refine⟨Pn (fun o ho => ?_) h7.1,if_pos ⟨rfl,rfl⟩,trivial⟩;exact if_neg (show ¬(sn t=sn t∧o=a) from fun e=>Hq (e.2 ▸ ho))
 refine aM.iI X (sS st (sn t) a (fZ ((t.F:Int) - 1) (ky c (sn t)) a)) (hx:=none) (px:=none) (t':={ t with pc:=87 }) (g':=g.set (o9 c (sn t) a) (fZ ((t.F:Int) - 1) (ky c (sn t)) a)) (pc:=86) (pc':=87) hpc rfl rfl ?_ rfl rfl rfl (.inl ⟨aL,by decide⟩) (Ew X.I.G eG) (fun j hj=>sK hj eG) rfl rfl rfl rfl ?_ (fun _=>⟨rfl,aL⟩) (EZ X (dG h2) ha) (eP X.W (EC (by omega))) (jX X (fun j hj=>sK hj eG) rfl rfl (fun _=>rfl) rfl rfl rfl ?_) (fun _ _=>Iff.rfl)
 ·rw[iP (by omega)]
  unfold bG;rw[hpc];refine(fM h2).trans ((pY pM).trans ((dQ zV).trans ?_));rw[jJ];exact jW (X.Bg (dG h2) ha)
 ·unfold At
  exact⟨l,ch,h1,h2,h3,h5,h6,qN,h8,h9,.inr ⟨p,a,lX,uM⟩,zV,h13⟩
 ·show aF c st { t with pc:=87 }+1≤aF c st t
  unfold aF base pen;simp[hpc,ai];all_goals (try(repeat' split))<;>omega
theorem p43 (X:Cx c mn cp st g k t)(hpc:t.pc=43)(aL:t.want=0):∃ t' g' st',aM c mn cp st g k t t' g' st':=by
 have hA:=X.at_;unfold At at hA;rw[hpc]at hA;have ai:=X.aB;have hC:=X.C;have hS:=X.S;have hO:=X.O;obtain⟨-,hA⟩:=hA;obtain⟨h1,h2,h3,h4,h5,h6⟩:=hA aL;have ho:t.many.toNat<c.O:=by omega
 have eG:=h1.loc X.I.G (o:=t.many.toNat) (List.mem_range.2 ho);have hE:xQ c t.many.toNat=if t.many+1<c.O then t.many+1 else -1:=by
  unfold xQ;have e:((t.many.toNat+1:Nat):Int)=t.many+1:=by omega
  rw[e]
 have hEl : -1≤xQ c t.many.toNat∧xQ c t.many.toNat<c.O:=by
  unfold xQ;split<;>omega
 have qN:∀ i,i<t.many.toNat+1→(sS st (sn t) t.many.toNat (fZ (xQ c t.many.toNat) (ky c (sn t)) t.many.toNat)).lk (sn t) i=fZ (xQ c i) (ky c (sn t)) i:=by
  intro i hi;by_cases e:i=t.many.toNat
  ·subst e
   exact if_pos ⟨rfl,rfl⟩
  ·exact(if_neg (fun e2=>e e2.2)).trans (h6 i (by omega))
 by_cases hm:t.many+1<c.O
 ·skip
  refine aM.iI X (sS st (sn t) t.many.toNat (fZ (xQ c t.many.toNat) (ky c (sn t)) t.many.toNat)) (hx:=none) (px:=none) (t':={ t with many:=t.many+1,pc:=43 }) (g':=g.set (o9 c (sn t) t.many.toNat) (fZ (xQ c t.many.toNat) (ky c (sn t)) t.many.toNat)) (pc:=43) (pc':=43) hpc rfl rfl ?_ rfl rfl rfl (.inl ⟨aL,by decide⟩) (Ew X.I.G eG) (fun j hj=>sK hj eG) rfl rfl rfl rfl ?_ (fun e=>by obtain⟨t2,e1,e2,_⟩:=X.I.gL k e;rw[X.tk]at e1;cases e1;rw[hpc]at e2;cases e2) (EZ X (dG h3) ho) (eP X.W (EC (by omega))) (jX X (fun j hj=>sK hj eG) rfl rfl (fun _=>rfl) rfl rfl rfl ?_) (fun _ _=>Iff.rfl)
  ·rw[jV (by omega) (by omega)]
   unfold dD;rw[hpc];refine(fM h3).trans ((pY (by omega)).trans ((jW (X.Bg (dG h3) ho)).trans ?_));rw[hE,if_pos hm,if_pos hm]
  ·unfold At
   exact⟨fun e=>absurd (aL.symm.trans e) (by decide),fun _=>⟨h1,h2,h3,h4,⟨by show 0≤t.many+1;omega,hm⟩,fun i hi=>qN i (by have:i<(t.many+1).toNat:=hi;omega)⟩⟩
  ·show aF c st { t with many:=t.many+1,pc:=43 }+1≤aF c st t
   unfold aF base pen;simp[hpc,aL];all_goals (try(repeat' split))<;>omega
 ·skip
  refine aM.iI X (sS st (sn t) t.many.toNat (fZ (xQ c t.many.toNat) (ky c (sn t)) t.many.toNat)) (hx:=none) (px:=none) (t':={ t with many:=t.many+1,pc:=44 }) (g':=g.set (o9 c (sn t) t.many.toNat) (fZ (xQ c t.many.toNat) (ky c (sn t)) t.many.toNat)) (pc:=43) (pc':=44) hpc rfl rfl ?_ rfl rfl rfl (.inl ⟨aL,by decide⟩) (Ew X.I.G eG) (fun j hj=>sK hj eG) rfl rfl rfl rfl ?_ (fun e=>by obtain⟨t2,e1,e2,_⟩:=X.I.gL k e;rw[X.tk]at e1;cases e1;rw[hpc]at e2;cases e2) (EZ X (dG h3) ho) (eP X.W (EC (by omega))) (jX X (fun j hj=>sK hj eG) rfl rfl (fun _=>rfl) rfl rfl rfl ?_) (fun _ _=>Iff.rfl)
  ·rw[jV (by omega) (by omega)]
   unfold dD;rw[hpc];refine(fM h3).trans ((pY (by omega)).trans ((jW (X.Bg (dG h3) ho)).trans ?_));rw[hE,if_neg hm,if_neg hm]
  ·unfold At
   exact⟨h1,h2,h3,h4,fun i hi=>qN i (by omega)⟩
  ·show aF c st { t with many:=t.many+1,pc:=44 }+1≤aF c st t
   unfold aF base pen;simp[hpc,aL];all_goals (try(repeat' split))<;>omega
end
end Cv
end Go.Proofs.YtfcpdlbkmkhhcaaGreatDoor
