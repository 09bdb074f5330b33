/-
  Texts of this claim, joined. No condition.
-/
import Derived.Test.YtfcpdlbkmkhhcaaGreatDoorCh1
import Derived.Test.YtfcpdlbkmkhhcaaGreatDoorCh20
namespace Go.Proofs.YtfcpdlbkmkhhcaaGreatDoor
set_option maxRecDepth 100000
set_option maxHeartbeats 40000000
namespace Cw
open Go Ex Mem See
open Go.RowKit
section
variable {c:Ch}{mn cp:Nat}{t t':Tk}{g g':List Nat}
theorem Zsa (h:bL c mn cp t g)(hpc:t.pc=20)(hs:dD c g t=some (t',g')):cZ 44 c mn cp t g t' g':=by
 unfold dD at hs;rw[hpc]at hs;have ⟨hC,hS,hO,bP,bN,_,ai,hlen,_,aI,aC⟩:=h;obtain⟨p,q,hp,hq,hs⟩:=o5 hs;rcases hs with⟨rfl,rfl,hr⟩|⟨hne,hr⟩|⟨rfl,hne,hr⟩
 ·cases hr
  exact toW [] h hpc (fun _=>af (af (fA h (dV bZ) (aQ hq)) (bU (aD (dV bZ) hp) tu)) (bU (aD (bV (dV bZ)) hq) l8)) (fun _ _ _=>k0) (fun _=>oW aR (dV bZ) (lM 0) (C9 l8) (aQ hq) hlen.2) fun _=>aT h 21
 ·cases hr
  exact toW [] h hpc (fun _=>af (fA h (dV bZ) (aQ hq)) (dU (aD (dV bZ) hp) tu)) (fun _ _ _=>k0) (fun _=>aR) fun _=>aT h 0
 ·cases hr
  exact toW [] h hpc (fun _=>af (af (fA h (dV bZ) (aQ hq)) (bU (aD (dV bZ) hp) tu)) (dU (aD (bV (dV bZ)) hq) l8)) (fun _ _ _=>k0) (fun _=>aR) fun _=>aT h 0
theorem Zsb (h:bL c mn cp t g)(hpc:t.pc=21)(hs:dD c g t=some (t',g')):cZ 44 c mn cp t g t' g':=by
 unfold dD at hs;rw[hpc]at hs;have ⟨hC,hS,hO,bP,bN,_,ai,hlen,_,aI,aC⟩:=h;obtain⟨s,es,bC,hs⟩:=iZ hs;obtain⟨x,hx,hs⟩:=rd_some hs;obtain⟨hb,hs⟩:=eY hs;by_cases dw:0<x
 ·cases hs
  exact toW [] h hpc (fun _=>af (af (af (af (af (rE 0 32 (ak es)) (aN (ak es) bg)) (bM h (aS h (ak es)) (aQ hx))) (rE 0 17 (aD (aS h (ak es)) hx))) (dN (fe cK) (aD (aS h (ak es)) hx))) (aN (lE 0) (aD (aS h (ak es)) hx))) (fun _ _ _=>k0) (fun _=>aR) fun _=>(aT h 22).u 9 (aD (aS h (ak es)) hx)
 ·cases hs
  exact toW [] h hpc (fun _=>af (af (af (af (af (rE 0 32 (ak es)) (aN (ak es) bg)) (bM h (aS h (ak es)) (aQ hx))) (rE 0 17 (aD (aS h (ak es)) hx))) (dN (fe cK) (aD (aS h (ak es)) hx))) (dN (lE 0) (aD (aS h (ak es)) hx))) (fun _ _ _=>k0) (fun _=>aR) fun _=>(aT h 22).u 9 (aD (aS h (ak es)) hx)
theorem Zsc (h:bL c mn cp t g)(hpc:t.pc=22)(hs:dD c g t=some (t',g')):cZ 44 c mn cp t g t' g':=by
 unfold dD at hs;rw[hpc]at hs;have ⟨hC,hS,hO,bP,bN,_,ai,hlen,_,aI,aC⟩:=h;obtain⟨s,es,bC,hs⟩:=iZ hs;obtain⟨x,hx,hs⟩:=rd_some hs;obtain⟨k,hk,hl,h1,h2,h3,hs⟩:=vJ hs;obtain⟨bT,hs⟩:=eY hs;by_cases dw:t.F=0
 ·rw[if_pos dw]at hs
  cases hs;exact toW [(k.ay:Int),(k.objects:Int)] h hpc (fun _=>af (af (af (af (af (rE 0 32 (ak es)) (aN (ak es) bg)) (bM h (bV (aS h (ak es))) (aQ hx))) (rE 0 17 z1)) (rE 1 17 z2)) (bU aZ (lE 0))) (fun _ _ _=>k1 (gX (aD (bV (aS h (ak es))) hx) (h.w hx) hk hl (Says.si z1) (Says.si z2) (by rw[bT];exact Says.bool))) (fun _=>aR) fun _=>(aT h 24).u 10 (aD (bV (aS h (ak es))) hx)
 ·rw[if_neg dw]at hs
  cases hs;exact toW [(k.ay:Int),(k.objects:Int)] h hpc (fun _=>af (af (af (af (af (rE 0 32 (ak es)) (aN (ak es) bg)) (bM h (bV (aS h (ak es))) (aQ hx))) (rE 0 17 z1)) (rE 1 17 z2)) (dU aZ (lE 0))) (fun _ _ _=>k1 (gX (aD (bV (aS h (ak es))) hx) (h.w hx) hk hl (Says.si z1) (Says.si z2) (by rw[bT];exact Says.bool))) (fun _=>aR) fun _=>(aT h 23).u 10 (aD (bV (aS h (ak es))) hx)
theorem Zsd (h:bL c mn cp t g)(hpc:t.pc=23)(hs:dD c g t=some (t',g')):cZ 44 c mn cp t g t' g':=by
 unfold dD at hs;rw[hpc]at hs;have ⟨hC,hS,hO,bP,bN,_,ai,hlen,_,aI,aC⟩:=h;obtain⟨s,es,bC,hs⟩:=iZ hs;obtain⟨hF,hs⟩:=eY hs;unfold BV at hs;obtain⟨k,hk,hl,h1,h2,h3,hs⟩:=vJ hs;obtain⟨bT,hs⟩:=eY hs;rw[if_pos rfl]at hs;obtain⟨p,q,hp,hq,hs⟩:=o5 hs;rcases hs with⟨rfl,rfl,hr⟩|⟨hne,hr⟩|⟨rfl,hne,hr⟩
 ·cases hr
  exact toW [(k.ay:Int),(k.objects:Int),0,((dF k.objects k.objects true true:Nat):Int)] h hpc (fun _=>af (af (af (af (af (af (af (af (af (rE 0 32 (ak es)) (aN (ak es) bg)) (rE 0 17 z1)) (rE 1 17 z2)) (rE 0 17 aZ)) (dN (fe cK) aZ)) (dU aZ (lE 0))) (fA h (aS h (ak es)) (aQ hq))) (bU (aD (aS h (ak es)) hp) aZ)) (bU (aD (bV (aS h (ak es))) hq) eO)) (fun _ _ _=>k2 (gX eO (iY (by assumption)) hk hl (Says.si z1) (Says.si z2) (by rw[bT];exact Says.bool)) (jo (Says.si z2) (Says.si z2) Says.bool (by omega) (by omega) (by omega) z4)) (fun _=>oW aR (aS h (ak es)) (lM 0) z4 (aQ hq) hlen.2) fun _=>(aT h 40).i 6 (tX (tH aZ) (lE 1))
 ·cases hr
  exact toW [(k.ay:Int),(k.objects:Int),0,((dF k.objects k.objects true true:Nat):Int)] h hpc (fun _=>af (af (af (af (af (af (af (af (rE 0 32 (ak es)) (aN (ak es) bg)) (rE 0 17 z1)) (rE 1 17 z2)) (rE 0 17 aZ)) (dN (fe cK) aZ)) (dU aZ (lE 0))) (fA h (aS h (ak es)) (aQ hq))) (dU (aD (aS h (ak es)) hp) aZ)) (fun _ _ _=>k2 (gX eO (iY (by assumption)) hk hl (Says.si z1) (Says.si z2) (by rw[bT];exact Says.bool)) (jo (Says.si z2) (Says.si z2) Says.bool (by omega) (by omega) (by omega) z4)) (fun _=>aR) fun _=>aT h 21
 ·cases hr
  exact toW [(k.ay:Int),(k.objects:Int),0,((dF k.objects k.objects true true:Nat):Int)] h hpc (fun _=>af (af (af (af (af (af (af (af (af (rE 0 32 (ak es)) (aN (ak es) bg)) (rE 0 17 z1)) (rE 1 17 z2)) (rE 0 17 aZ)) (dN (fe cK) aZ)) (dU aZ (lE 0))) (fA h (aS h (ak es)) (aQ hq))) (bU (aD (aS h (ak es)) hp) aZ)) (dU (aD (bV (aS h (ak es))) hq) eO)) (fun _ _ _=>k2 (gX eO (iY (by assumption)) hk hl (Says.si z1) (Says.si z2) (by rw[bT];exact Says.bool)) (jo (Says.si z2) (Says.si z2) Says.bool (by omega) (by omega) (by omega) z4)) (fun _=>aR) fun _=>aT h 21
theorem Zse (h:bL c mn cp t g)(hpc:t.pc=24)(hs:dD c g t=some (t',g')):cZ 44 c mn cp t g t' g':=by
 unfold dD at hs;rw[hpc]at hs;have ⟨hC,hS,hO,bP,bN,_,ai,hlen,_,aI,aC⟩:=h;obtain⟨s,es,bC,hs⟩:=iZ hs;obtain⟨hF,hs⟩:=eY hs;unfold BV at hs;obtain⟨k,hk,hl,h1,h2,h3,hs⟩:=vJ hs;obtain⟨bT,hs⟩:=eY hs;rw[if_neg (by decide)]at hs;obtain⟨p,q,hp,hq,hs⟩:=o5 hs;rcases hs with⟨rfl,rfl,hr⟩|⟨hne,hr⟩|⟨rfl,hne,hr⟩
 ·cases hr
  exact toW [(k.ay:Int),(k.objects:Int),0,((dF k.ay k.objects false true:Nat):Int)] h hpc (fun _=>af (af (af (af (af (af (af (af (af (rE 0 32 (ak es)) (aN (ak es) bg)) (rE 0 17 z1)) (rE 1 17 z2)) (rE 0 17 aZ)) (dN (fe cK) aZ)) (bU aZ (lE 0))) (fA h (aS h (ak es)) (aQ hq))) (bU (aD (aS h (ak es)) hp) aZ)) (bU (aD (bV (aS h (ak es))) hq) eO)) (fun _ _ _=>k2 (gX eO (iY (by assumption)) hk hl (Says.si z1) (Says.si z2) (by rw[bT];exact Says.bool)) (jo (Says.si z1) (Says.si z2) Says.bool (by omega) (by omega) (by omega) z4)) (fun _=>oW aR (aS h (ak es)) (lM 0) z4 (aQ hq) hlen.2) fun _=>aT h 30
 ·cases hr
  exact toW [(k.ay:Int),(k.objects:Int),0,((dF k.ay k.objects false true:Nat):Int)] h hpc (fun _=>af (af (af (af (af (af (af (af (rE 0 32 (ak es)) (aN (ak es) bg)) (rE 0 17 z1)) (rE 1 17 z2)) (rE 0 17 aZ)) (dN (fe cK) aZ)) (bU aZ (lE 0))) (fA h (aS h (ak es)) (aQ hq))) (dU (aD (aS h (ak es)) hp) aZ)) (fun _ _ _=>k2 (gX eO (iY (by assumption)) hk hl (Says.si z1) (Says.si z2) (by rw[bT];exact Says.bool)) (jo (Says.si z1) (Says.si z2) Says.bool (by omega) (by omega) (by omega) z4)) (fun _=>aR) fun _=>aT h 21
 ·cases hr
  exact toW [(k.ay:Int),(k.objects:Int),0,((dF k.ay k.objects false true:Nat):Int)] h hpc (fun _=>af (af (af (af (af (af (af (af (af (rE 0 32 (ak es)) (aN (ak es) bg)) (rE 0 17 z1)) (rE 1 17 z2)) (rE 0 17 aZ)) (dN (fe cK) aZ)) (bU aZ (lE 0))) (fA h (aS h (ak es)) (aQ hq))) (bU (aD (aS h (ak es)) hp) aZ)) (dU (aD (bV (aS h (ak es))) hq) eO)) (fun _ _ _=>k2 (gX eO (iY (by assumption)) hk hl (Says.si z1) (Says.si z2) (by rw[bT];exact Says.bool)) (jo (Says.si z1) (Says.si z2) Says.bool (by omega) (by omega) (by omega) z4)) (fun _=>aR) fun _=>aT h 21
theorem Zso (h:bL c mn cp t g)(hpc:t.pc=39)(hs:dD c g t=some (t',g')):cZ 44 c mn cp t g t' g':=by
 unfold dD at hs;rw[hpc]at hs;have ⟨hC,hS,hO,bP,bN,_,ai,hlen,_,aI,aC⟩:=h;obtain⟨s,es,bC,hs⟩:=iZ hs;obtain⟨hF,hs⟩:=eY hs;unfold BV at hs;obtain⟨k,hk,hl,h1,h2,h3,hs⟩:=vJ hs;obtain⟨bT,hs⟩:=eY hs;rw[if_pos rfl]at hs;obtain⟨p,q,hp,hq,hs⟩:=o5 hs;rcases hs with⟨rfl,rfl,hr⟩|⟨hne,hr⟩|⟨rfl,hne,hr⟩
 ·cases hr
  exact toW [(k.ay:Int),(k.objects:Int),0,((dF k.objects k.objects true true:Nat):Int)] h hpc (fun _=>af (af (af (af (af (af (af (af (af (rE 0 32 (ak es)) (aN (ak es) bg)) (rE 0 17 z1)) (rE 1 17 z2)) (rE 0 17 aZ)) (dN (fe cK) aZ)) (dU aZ (lE 0))) (fA h (aS h (ak es)) (aQ hq))) (bU (aD (aS h (ak es)) hp) aZ)) (bU (aD (bV (aS h (ak es))) hq) eO)) (fun _ _ _=>k2 (gX eO (iY (by assumption)) hk hl (Says.si z1) (Says.si z2) (by rw[bT];exact Says.bool)) (jo (Says.si z2) (Says.si z2) Says.bool (by omega) (by omega) (by omega) z4)) (fun _=>oW aR (aS h (ak es)) (lM 0) z4 (aQ hq) hlen.2) fun _=>(aT h 46).i 6 (tX (tH aZ) (lE 1))
 ·cases hr
  exact toW [(k.ay:Int),(k.objects:Int),0,((dF k.objects k.objects true true:Nat):Int)] h hpc (fun _=>af (af (af (af (af (af (af (af (rE 0 32 (ak es)) (aN (ak es) bg)) (rE 0 17 z1)) (rE 1 17 z2)) (rE 0 17 aZ)) (dN (fe cK) aZ)) (dU aZ (lE 0))) (fA h (aS h (ak es)) (aQ hq))) (dU (aD (aS h (ak es)) hp) aZ)) (fun _ _ _=>k2 (gX eO (iY (by assumption)) hk hl (Says.si z1) (Says.si z2) (by rw[bT];exact Says.bool)) (jo (Says.si z2) (Says.si z2) Says.bool (by omega) (by omega) (by omega) z4)) (fun _=>aR) fun _=>aT h 37
 ·cases hr
  exact toW [(k.ay:Int),(k.objects:Int),0,((dF k.objects k.objects true true:Nat):Int)] h hpc (fun _=>af (af (af (af (af (af (af (af (af (rE 0 32 (ak es)) (aN (ak es) bg)) (rE 0 17 z1)) (rE 1 17 z2)) (rE 0 17 aZ)) (dN (fe cK) aZ)) (dU aZ (lE 0))) (fA h (aS h (ak es)) (aQ hq))) (bU (aD (aS h (ak es)) hp) aZ)) (dU (aD (bV (aS h (ak es))) hq) eO)) (fun _ _ _=>k2 (gX eO (iY (by assumption)) hk hl (Says.si z1) (Says.si z2) (by rw[bT];exact Says.bool)) (jo (Says.si z2) (Says.si z2) Says.bool (by omega) (by omega) (by omega) z4)) (fun _=>aR) fun _=>aT h 37
theorem Zsf (h:bL c mn cp t g)(hpc:t.pc=30)(hs:dD c g t=some (t',g')):cZ 44 c mn cp t g t' g':=by
 unfold dD at hs;rw[hpc]at hs;have ⟨hC,hS,hO,bP,bN,_,ai,hlen,_,aI,aC⟩:=h;unfold uw at hs;obtain⟨x,hx,hs⟩:=rd_some hs;cases hs;exact toW [] h hpc (fun _=>bM h (bV (gP bZ)) (aQ hx)) (fun _ _ _=>k0) (fun _=>aR) fun _=>(aT h 31).u 8 (aD (bV (gP bZ)) hx)
theorem Zsg (h:bL c mn cp t g)(hpc:t.pc=31)(hs:dD c g t=some (t',g')):cZ 44 c mn cp t g t' g':=by
 unfold dD at hs;rw[hpc]at hs;have ⟨hC,hS,hO,bP,bN,_,ai,hlen,_,aI,aC⟩:=h;obtain⟨x,hx,hs⟩:=rd_some hs;obtain⟨a,b,yM,hs⟩:=Je hs;have eD:=Gf yM;split at hs
 ·rename_i dw
  obtain⟨hb,hs⟩:=eY hs;cases hs;subst dw hb;exact toW [] h hpc (fun _=>bM h (gP bZ) (aQ hx)) (fun _ _ _=>k1 (wT (aD (gP bZ) hx) (h.w hx) (by assumption) Says.li Says.li)) (fun _=>aR) fun _=>(aT h 34).u 11 (aD (gP bZ) hx)
 ·rename_i dw
  obtain⟨hb,hs⟩:=eY hs;cases hs;exact toW [a,b] h hpc (fun _=>af (af (af (bM h (gP bZ) (aQ hx)) (rE 0 32 z1)) (aN z1 bg)) (rE 0 64 z2)) (fun _ _ _=>k1 (wT (aD (gP bZ) hx) (h.w hx) (by assumption) (Says.si z1) (Says.si z2))) (fun _=>aR) fun _=>((aT h 32).i 5 z1).u 11 (aD (gP bZ) hx)
theorem Zsh (h:bL c mn cp t g)(hpc:t.pc=32)(hs:dD c g t=some (t',g')):cZ 44 c mn cp t g t' g':=by
 unfold dD at hs;rw[hpc]at hs;have ⟨hC,hS,hO,bP,bN,_,ai,hlen,_,aI,aC⟩:=h;obtain⟨s,es,bC,hs⟩:=iZ hs;obtain⟨x,hx,hs⟩:=rd_some hs;split at hs
 ·rename_i yM
  cases hs;exact toW [] h hpc (fun _=>af (af (rE 0 32 (ak es)) (aN (ak es) bg)) (bM h (gT h (ak es)) (aQ hx))) (fun _ _ _=>k1 (Znu (aD (gT h (ak es)) hx) (h.w hx) (by assumption))) (fun _=>aR) fun _=>aT h 30
 ·rename_i a b yM
  have eD:=Gf yM;split at hs
  ·rename_i dw
   cases hs;exact toW [a,b] h hpc (fun _=>af (af (af (af (af (rE 0 32 (ak es)) (aN (ak es) bg)) (bM h (gT h (ak es)) (aQ hx))) (rE (-1) 32 z1)) (aN z1 bg)) (rE 0 64 z2)) (fun _ _ _=>k1 (wT (aD (gT h (ak es)) hx) (h.w hx) (by assumption) (Says.si z1) (Says.si z2))) (fun _=>aR) fun _=>(aT h 33).u 9 (aD (gT h (ak es)) hx)
  ·rename_i dw
   cases hs;exact toW [a,b] h hpc (fun _=>af (af (af (af (af (rE 0 32 (ak es)) (aN (ak es) bg)) (bM h (gT h (ak es)) (aQ hx))) (rE 0 33 z1)) (dN z1 bg)) (rE 0 64 z2)) (fun _ _ _=>k1 (wT (aD (gT h (ak es)) hx) (h.w hx) (by assumption) (Says.si z1) (Says.si z2))) (fun _=>aR) fun _=>aT h 30
theorem Zsi (h:bL c mn cp t g)(hpc:t.pc=33)(hs:dD c g t=some (t',g')):cZ 44 c mn cp t g t' g':=by
 unfold dD at hs;rw[hpc]at hs;have ⟨hC,hS,hO,bP,bN,_,ai,hlen,_,aI,aC⟩:=h;obtain⟨p,q,hp,hq,hs⟩:=o5 hs;rcases hs with⟨rfl,rfl,hr⟩|⟨hne,hr⟩|⟨rfl,hne,hr⟩
 ·cases hr
  exact toW [] h hpc (fun _=>af (af (fA h (gP bZ) (aQ hq)) (bU (aD (gP bZ) hp) oH)) (bU (aD (bV (gP bZ)) hq) l8)) (fun _ _ _=>k0) (fun _=>oW aR (gP bZ) aZ (C9 l8) (aQ hq) hlen.2) fun _=>aT h 21
 ·cases hr
  exact toW [] h hpc (fun _=>af (fA h (gP bZ) (aQ hq)) (dU (aD (gP bZ) hp) oH)) (fun _ _ _=>k0) (fun _=>aR) fun _=>aT h 30
 ·cases hr
  exact toW [] h hpc (fun _=>af (af (fA h (gP bZ) (aQ hq)) (bU (aD (gP bZ) hp) oH)) (dU (aD (bV (gP bZ)) hq) l8)) (fun _ _ _=>k0) (fun _=>aR) fun _=>aT h 30
theorem Zsj (h:bL c mn cp t g)(hpc:t.pc=34)(hs:dD c g t=some (t',g')):cZ 44 c mn cp t g t' g':=by
 unfold dD at hs;rw[hpc]at hs;have ⟨hC,hS,hO,bP,bN,_,ai,hlen,_,aI,aC⟩:=h;obtain⟨x,hx,hs⟩:=rd_some hs;split at hs
 ·rename_i dw
  obtain⟨hi,hs⟩:=kR hs;cases hs;exact toW [] h hpc (fun _=>af (bM h (iD h) (by first|exact hi|exact aQ hx)) (bU (aD (iD h) hx) (lE 0))) (fun _ _ _=>k0) (fun _=>jB aR (iD h) (lM 1) (by first|exact hi|exact aQ hx)) fun _=>aT h 35
 ·rename_i dw
  cases hs;exact toW [] h hpc (fun _=>af (bM h (iD h) (by first|exact hi|exact aQ hx)) (dU (aD (iD h) hx) (lE 0))) (fun _ _ _=>k0) (fun _=>aR) fun _=>Ei h hpc
theorem Zsk (h:bL c mn cp t g)(hpc:t.pc=35)(hs:dD c g t=some (t',g')):cZ 44 c mn cp t g t' g':=by
 unfold dD at hs;rw[hpc]at hs;have ⟨hC,hS,hO,bP,bN,_,ai,hlen,_,aI,aC⟩:=h;obtain⟨x,hx,hs⟩:=rd_some hs;obtain⟨hb,hs⟩:=eY hs;split at hs
 ·rename_i dw
  cases hs;exact toW [] h hpc (fun _=>af (af (af (bM h (iM h) (aQ hx)) (rE 0 33 (aD (iM h) hx))) (dN (fe bg) (aD (iM h) hx))) (bU (aD (iM h) hx) (lE 0))) (fun _ _ _=>k0) (fun _=>aR) fun _=>(aT h 36).u 11 (aD (iM h) hx)
 ·rename_i dw
  cases hs;exact toW [] h hpc (fun _=>af (af (af (bM h (iM h) (aQ hx)) (rE 0 33 (aD (iM h) hx))) (dN (fe bg) (aD (iM h) hx))) (dU (aD (iM h) hx) (lE 0))) (fun _ _ _=>k0) (fun _=>aR) fun _=>((aT h 37).i 5 (tX (tH (aD (iM h) hx)) (lE 1))).u 11 (aD (iM h) hx)
theorem Zsl (h:bL c mn cp t g)(hpc:t.pc=36)(hs:dD c g t=some (t',g')):cZ 44 c mn cp t g t' g':=by
 unfold dD at hs;rw[hpc]at hs;have ⟨hC,hS,hO,bP,bN,_,ai,hlen,_,aI,aC⟩:=h;obtain⟨hi,hs⟩:=kR hs;cases hs;exact toW [] h hpc (fun _=>bM h (iD h) hi) (fun _ _ _=>k0) (fun _=>jB aR (iD h) (lM 0) hi) fun _=>(aT h 43).n 4 1
theorem Zsm (h:bL c mn cp t g)(hpc:t.pc=37)(hs:dD c g t=some (t',g')):cZ 44 c mn cp t g t' g':=by
 unfold dD at hs;rw[hpc]at hs;have ⟨hC,hS,hO,bP,bN,_,ai,hlen,_,aI,aC⟩:=h;obtain⟨s,es,bC,hs⟩:=iZ hs;obtain⟨x,hx,hs⟩:=rd_some hs;obtain⟨hb,hs⟩:=eY hs;cases hs;exact toW [] h hpc (fun _=>af (af (af (af (af (rE 0 32 (ak es)) (aN (ak es) bg)) (bM h (aS h (ak es)) (aQ hx))) (rE 0 17 (aD (aS h (ak es)) hx))) (dN (fe cK) (aD (aS h (ak es)) hx))) (aN (lE 0) (aD (aS h (ak es)) hx))) (fun _ _ _=>k0) (fun _=>aR) fun _=>(aT h 38).u 9 (aD (aS h (ak es)) hx)
theorem Zsn (h:bL c mn cp t g)(hpc:t.pc=38)(hs:dD c g t=some (t',g')):cZ 44 c mn cp t g t' g':=by
 unfold dD at hs;rw[hpc]at hs;have ⟨hC,hS,hO,bP,bN,_,ai,hlen,_,aI,aC⟩:=h;obtain⟨s,es,bC,hs⟩:=iZ hs;obtain⟨x,hx,hs⟩:=rd_some hs;obtain⟨k,hk,hl,h1,h2,h3,hs⟩:=vJ hs;obtain⟨bT,hs⟩:=eY hs;cases hs;exact toW [(k.ay:Int),(k.objects:Int)] h hpc (fun _=>af (af (af (af (rE 0 32 (ak es)) (aN (ak es) bg)) (bM h (bV (aS h (ak es))) (aQ hx))) (rE 0 17 z1)) (rE 1 17 z2)) (fun _ _ _=>k1 (gX (aD (bV (aS h (ak es))) hx) (h.w hx) hk hl (Says.si z1) (Says.si z2) (by rw[bT];exact Says.bool))) (fun _=>aR) fun _=>(aT h 39).u 10 (aD (bV (aS h (ak es))) hx)
theorem Zsu (h:bL c mn cp t g)(hpc:t.pc=46)(hs:dD c g t=some (t',g')):cZ 44 c mn cp t g t' g':=by
 unfold dD at hs;rw[hpc]at hs;have ⟨hC,hS,hO,bP,bN,_,ai,hlen,_,aI,aC⟩:=h;obtain⟨s,es,bC,hs⟩:=iZ hs;obtain⟨x,hx,hs⟩:=rd_some hs;obtain⟨hb,hs⟩:=eY hs;cases hs;exact toW [] h hpc (fun _=>af (af (af (af (rE 0 32 (ak es)) (aN (ak es) bg)) (bM h (gT h (ak es)) (aQ hx))) (rE 0 33 (aD (gT h (ak es)) hx))) (dN (fe bg) (aD (gT h (ak es)) hx))) (fun _ _ _=>k0) (fun _=>aR) fun _=>(aT h 47).u 11 (aD (gT h (ak es)) hx)
theorem Zsv (h:bL c mn cp t g)(hpc:t.pc=47)(hs:dD c g t=some (t',g')):cZ 44 c mn cp t g t' g':=by
 unfold dD at hs;rw[hpc]at hs;have ⟨hC,hS,hO,bP,bN,_,ai,hlen,_,aI,aC⟩:=h;obtain⟨hi,hs⟩:=kR hs;cases hs;exact toW [] h hpc (fun _=>bM h (iM h) hi) (fun _ _ _=>k0) (fun _=>jB aR (iM h) oH hi) fun _=>aT h 48
theorem Zsw (h:bL c mn cp t g)(hpc:t.pc=48)(hs:dD c g t=some (t',g')):cZ 44 c mn cp t g t' g':=by
 unfold dD at hs;rw[hpc]at hs;have ⟨hC,hS,hO,bP,bN,_,ai,hlen,_,aI,aC⟩:=h;obtain⟨x,hx,hs⟩:=rd_some hs;obtain⟨hi,hs⟩:=kR hs;cases hs;exact toW [] h hpc (fun _=>bM h (pF h) (by first|exact hi|exact aQ hx)) (fun _ _ _=>k0) (fun _=>jB aR (pF h) (Ug (aD (pF h) hx)) (by first|exact hi|exact aQ hx)) fun _=>aT h 49
theorem Zsx (h:bL c mn cp t g)(hpc:t.pc=49)(hs:dD c g t=some (t',g')):cZ 44 c mn cp t g t' g':=by
 unfold dD at hs;rw[hpc]at hs;have ⟨hC,hS,hO,bP,bN,_,ai,hlen,_,aI,aC⟩:=h;obtain⟨hi,hs⟩:=kR hs;cases hs;exact toW [] h hpc (fun _=>bM h (iD h) hi) (fun _ _ _=>k0) (fun _=>jB aR (iD h) (lM 0) hi) fun _=>aT h 40
theorem Zsp (h:bL c mn cp t g)(hpc:t.pc=40)(hs:dD c g t=some (t',g')):cZ 44 c mn cp t g t' g':=by
 unfold dD at hs;rw[hpc]at hs;have ⟨hC,hS,hO,bP,bN,_,ai,hlen,_,aI,aC⟩:=h;obtain⟨s,es,bC,hs⟩:=iZ hs;obtain⟨o,eo,fD,hs⟩:=zq hs;obtain⟨x,hx,hs⟩:=rd_some hs;split at hs
 ·cases hs
 ·rename_i y fE
  have hy:=Lu fE;obtain⟨hb,hs⟩:=eY hs;cases hs;exact toW [y] h hpc (fun _=>af (af (af (af (af (af (rE 0 32 (ak es)) (aN (ak es) bg)) (rE 0 16 (bK eo))) (aN (bK eo) cK)) (bM h (lq h (ak es) (bK eo)) (aQ hx))) (rE (-1) 16 z1)) (aN z1 cK)) (fun _ _ _=>k1 (LF (aD (lq h (ak es) (bK eo)) hx) (h.w hx) (wI (ak es)) (Nat.mod_lt _ (by omega)) (bK eo) (by omega) (by assumption) (Says.si z1))) (fun _=>aR) fun _=>(aT h 41).i 12 z1
theorem Zsq (h:bL c mn cp t g)(hpc:t.pc=41)(hs:dD c g t=some (t',g')):cZ 44 c mn cp t g t' g':=by
 unfold dD at hs;rw[hpc]at hs;have ⟨hC,hS,hO,bP,bN,_,ai,hlen,_,aI,aC⟩:=h;unfold uw at hs;obtain⟨x,hx,hs⟩:=rd_some hs;cases hs;exact toW [] h hpc (fun _=>bM h (bV (dV bZ)) (aQ hx)) (fun _ _ _=>k0) (fun _=>aR) fun _=>(aT h 42).u 8 (aD (bV (dV bZ)) hx)
theorem Zsr (h:bL c mn cp t g)(hpc:t.pc=42)(hs:dD c g t=some (t',g')):cZ 44 c mn cp t g t' g':=by
 unfold dD at hs;rw[hpc]at hs;have ⟨hC,hS,hO,bP,bN,_,ai,hlen,_,aI,aC⟩:=h;obtain⟨s,es,bC,hs⟩:=iZ hs;obtain⟨xx,hs⟩:=eY hs;obtain⟨p,q,hp,hq,hs⟩:=o5 hs;rcases hs with⟨rfl,rfl,hr⟩|⟨hne,hr⟩|⟨rfl,hne,hr⟩
 ·cases hr
  exact toW [((headW (s:Int) t.last:Nat):Int)] h hpc (fun _=>af (af (af (af (af (rE 0 32 (ak es)) (aN (ak es) bg)) (rE (-1) 16 sN)) (fA h (dV bZ) (aQ hq))) (bU (aD (dV bZ) hp) (lE 0))) (bU (aD (bV (dV bZ)) hq) l8)) (fun _ _ _=>k1 (Df (Says.si (ak es)) (Says.si sN) ⟨(by omega),(by omega),(by omega),(by omega)⟩ z1)) (fun _=>oW aR (dV bZ) z1 (C9 l8) (aQ hq) hlen.2) fun _=>(aT h 42).n 3 1
 ·cases hr
  exact toW [((headW (s:Int) t.last:Nat):Int)] h hpc (fun _=>af (af (af (af (rE 0 32 (ak es)) (aN (ak es) bg)) (rE (-1) 16 sN)) (fA h (dV bZ) (aQ hq))) (dU (aD (dV bZ) hp) (lE 0))) (fun _ _ _=>k1 (Df (Says.si (ak es)) (Says.si sN) ⟨(by omega),(by omega),(by omega),(by omega)⟩ z1)) (fun _=>aR) fun _=>aT h 41
 ·cases hr
  exact toW [((headW (s:Int) t.last:Nat):Int)] h hpc (fun _=>af (af (af (af (af (rE 0 32 (ak es)) (aN (ak es) bg)) (rE (-1) 16 sN)) (fA h (dV bZ) (aQ hq))) (bU (aD (dV bZ) hp) (lE 0))) (dU (aD (bV (dV bZ)) hq) l8)) (fun _ _ _=>k1 (Df (Says.si (ak es)) (Says.si sN) ⟨(by omega),(by omega),(by omega),(by omega)⟩ z1)) (fun _=>aR) fun _=>aT h 41
theorem Zss (h:bL c mn cp t g)(hpc:t.pc=43)(hs:dD c g t=some (t',g')):cZ 44 c mn cp t g t' g':=by
 unfold dD at hs;rw[hpc]at hs;have ⟨hC,hS,hO,bP,bN,_,ai,hlen,_,aI,aC⟩:=h;obtain⟨s,es,bC,hs⟩:=iZ hs;obtain⟨o,eo,fD,hs⟩:=zq hs;have em:t.many+1=((o+1:Nat):Int):=by omega
 rw[em]at hs;obtain⟨hi,hs⟩:=kR hs;by_cases dw:((o+1:Nat):Int)<c.O
 ·rw[if_pos dw,if_pos dw]at hs
  cases hs;exact toW [0,0,0,((fZ ((o+1:Nat):Int) (See.keyOf c.key s) o:Nat):Int)] h hpc (fun _=>af (af (af (af (af (rE 0 32 (ak es)) (aN (ak es) bg)) (rE 0 16 (uJ eo))) (aN (uJ eo) cK)) (bM h (lq h (ak es) (uJ eo)) hi)) (aN (bV (uJ eo)) cK)) (fun _ _ _=>k1 (EI (Says.si (bV (uJ eo))) (wI (ak es)) (Nat.mod_lt _ (by omega)) (Says.si (uJ eo)) (by omega) (by omega) z4)) (fun _=>jB aR (lq h (ak es) (uJ eo)) z4 hi) fun _=>(aT h 43).i 13 (bV (uJ eo))
 ·rw[if_neg dw,if_neg dw]at hs
  cases hs;exact toW [0,0,0,((fZ (-1) (See.keyOf c.key s) o:Nat):Int)] h hpc (fun _=>af (af (af (af (af (rE 0 32 (ak es)) (aN (ak es) bg)) (rE 0 16 (uJ eo))) (aN (uJ eo) cK)) (bM h (lq h (ak es) (uJ eo)) hi)) (dN (bV (uJ eo)) cK)) (fun _ _ _=>k1 (EI Says.li (wI (ak es)) (Nat.mod_lt _ (by omega)) (Says.si (uJ eo)) (by omega) (by omega) z4)) (fun _=>jB aR (lq h (ak es) (uJ eo)) z4 hi) fun _=>(aT h 44).i 13 (bV (uJ eo))
theorem Zst (h:bL c mn cp t g)(hpc:t.pc=44)(hs:dD c g t=some (t',g')):cZ 44 c mn cp t g t' g':=by
 unfold dD at hs;rw[hpc]at hs;have ⟨hC,hS,hO,bP,bN,_,ai,hlen,_,aI,aC⟩:=h;obtain⟨s,es,bC,hs⟩:=iZ hs;obtain⟨hi,hs⟩:=kR hs;cases hs;exact toW [0,0,0,((dF c.O c.O true true:Nat):Int)] h hpc (fun _=>af (af (rE 0 32 (ak es)) (aN (ak es) bg)) (bM h (bV (aS h (ak es))) hi)) (fun _ _ _=>k1 (jo (Says.si cK) (Says.si cK) Says.bool (by omega) (by omega) (by omega) z4)) (fun _=>jB aR (bV (aS h (ak es))) z4 hi) fun _=>(aT h 40).n 6 0
theorem Zqj (h:bL c mn cp t g)(hs:dD c g t=some (t',g')):cZ 44 c mn cp t g t' g':=by
 have cO:=hs;unfold dD at hs;split at hs
 ·exact Zsa h (by assumption) cO
 ·exact Zsb h (by assumption) cO
 ·exact Zsc h (by assumption) cO
 ·exact Zsd h (by assumption) cO
 ·exact Zse h (by assumption) cO
 ·exact Zsf h (by assumption) cO
 ·exact Zsg h (by assumption) cO
 ·exact Zsh h (by assumption) cO
 ·exact Zsi h (by assumption) cO
 ·exact Zsj h (by assumption) cO
 ·exact Zsk h (by assumption) cO
 ·exact Zsl h (by assumption) cO
 ·exact Zsm h (by assumption) cO
 ·exact Zsn h (by assumption) cO
 ·exact Zso h (by assumption) cO
 ·exact Zsu h (by assumption) cO
 ·exact Zsv h (by assumption) cO
 ·exact Zsw h (by assumption) cO
 ·exact Zsx h (by assumption) cO
 ·exact Zsp h (by assumption) cO
 ·exact Zsq h (by assumption) cO
 ·exact Zsr h (by assumption) cO
 ·exact Zss h (by assumption) cO
 ·exact Zst h (by assumption) cO
 ·cases hs
end
end Cw
namespace Cw
open Go Ex Mem See
open Go.RowKit
section
variable {c:Ch}{mn cp:Nat}{t t':Tk}{g g':List Nat}
theorem Zqk (h:bL c mn cp t g)(hpc:t.pc=70)(hs:bG c mn g t=some (t',g')):cZ 46 c mn cp t g t' g':=by
 unfold bG at hs;rw[hpc]at hs;have ⟨hC,hS,hO,bP,bN,_,ai,hlen,_,aI,aC⟩:=h;obtain⟨bq,hs⟩:=eY hs;unfold uw at hs;obtain⟨x,hx,hs⟩:=rd_some hs;cases hs;exact toW [] h hpc (fun _=>af (af (rE 0 8 (fI bq.1)) (aN (fI bq.1) qI)) (bM h (bV (dV (fI bq.1))) (aQ hx))) (fun _ _ _=>k0) (fun _=>aR) fun _=>(aT h 71).u 8 (aD (bV (dV (fI bq.1))) hx)
theorem Zql (h:bL c mn cp t g)(hpc:t.pc=71)(hs:bG c mn g t=some (t',g')):cZ 46 c mn cp t g t' g':=by
 unfold bG at hs;rw[hpc]at hs;have ⟨hC,hS,hO,bP,bN,_,ai,hlen,_,aI,aC⟩:=h;obtain⟨bq,hs⟩:=eY hs;obtain⟨x,hx,hs⟩:=rd_some hs;obtain⟨a,b,tK,hs⟩:=SS hs;have eD:=LB tK;split at hs
 ·rename_i dw
  obtain⟨hb,hs⟩:=eY hs;cases hs;subst dw hb;exact toW [] h hpc (fun _=>af (af (rE 0 8 (fI bq.1)) (aN (fI bq.1) qI)) (bM h (dV (fI bq.1)) (aQ hx))) (fun _ _ _=>k1 (Gd (aD (dV (fI bq.1)) hx) (h.w hx) (by assumption) Says.li Says.li)) (fun _=>aR) fun _=>(((aT h 73).n 5 (-1)).n 6 (-1)).u 7 (aD (dV (fI bq.1)) hx)
 ·rename_i dw
  obtain⟨hb,hs⟩:=eY hs;cases hs;exact toW [a,b] h hpc (fun _=>af (af (af (af (af (af (rE 0 8 (fI bq.1)) (aN (fI bq.1) qI)) (bM h (dV (fI bq.1)) (aQ hx))) (rE 0 32 z1)) (aN z1 bg)) (rE (-1) 16 z2)) (aN z2 cK)) (fun _ _ _=>k1 (Gd (aD (dV (fI bq.1)) hx) (h.w hx) (by assumption) (Says.si z1) (Says.si z2))) (fun _=>aR) fun _=>(((aT h 72).i 5 z1).i 6 z2).u 7 (aD (dV (fI bq.1)) hx)
theorem Zqm (h:bL c mn cp t g)(hpc:t.pc=72)(hs:bG c mn g t=some (t',g')):cZ 46 c mn cp t g t' g':=by
 unfold bG at hs;rw[hpc]at hs;have ⟨hC,hS,hO,bP,bN,_,ai,hlen,_,aI,aC⟩:=h;obtain⟨bq,hs⟩:=eY hs;obtain⟨p,q,hp,hq,hs⟩:=o5 hs;rcases hs with⟨rfl,rfl,hr⟩|⟨hne,hr⟩|⟨rfl,hne,hr⟩
 ·cases hr
  exact toW [] h hpc (fun _=>af (af (af (af (rE 0 8 (fI bq.1)) (aN (fI bq.1) qI)) (fA h (dV (fI bq.1)) (aQ hq))) (bU (aD (dV (fI bq.1)) hp) tu)) (bU (aD (bV (dV (fI bq.1))) hq) l8)) (fun _ _ _=>k0) (fun _=>oW aR (dV (fI bq.1)) (lM 0) (C9 l8) (aQ hq) hlen.2) fun _=>((aT h 80).n 13 0).n 15 73
 ·cases hr
  exact toW [] h hpc (fun _=>af (af (af (rE 0 8 (fI bq.1)) (aN (fI bq.1) qI)) (fA h (dV (fI bq.1)) (aQ hq))) (dU (aD (dV (fI bq.1)) hp) tu)) (fun _ _ _=>k0) (fun _=>aR) fun _=>aT h 70
 ·cases hr
  exact toW [] h hpc (fun _=>af (af (af (af (rE 0 8 (fI bq.1)) (aN (fI bq.1) qI)) (fA h (dV (fI bq.1)) (aQ hq))) (bU (aD (dV (fI bq.1)) hp) tu)) (dU (aD (bV (dV (fI bq.1))) hq) l8)) (fun _ _ _=>k0) (fun _=>aR) fun _=>aT h 70
theorem Zqn (h:bL c mn cp t g)(hpc:t.pc=73)(hs:bG c mn g t=some (t',g')):cZ 46 c mn cp t g t' g':=by
 unfold bG at hs;rw[hpc]at hs;have ⟨hC,hS,hO,bP,bN,_,ai,hlen,_,aI,aC⟩:=h;obtain⟨bq,hs⟩:=eY hs;unfold uw at hs;obtain⟨x,hx,hs⟩:=rd_some hs;cases hs;exact toW [] h hpc (fun _=>af (af (rE 0 8 (fI bq.1)) (aN (fI bq.1) qI)) (bM h (bV (gP (fI bq.1))) (aQ hx))) (fun _ _ _=>k0) (fun _=>aR) fun _=>(aT h 74).u 8 (aD (bV (gP (fI bq.1))) hx)
theorem Zqo (h:bL c mn cp t g)(hpc:t.pc=74)(hs:bG c mn g t=some (t',g')):cZ 46 c mn cp t g t' g':=by
 unfold bG at hs;rw[hpc]at hs;have ⟨hC,hS,hO,bP,bN,_,ai,hlen,_,aI,aC⟩:=h;obtain⟨bq,hs⟩:=eY hs;obtain⟨x,hx,hs⟩:=rd_some hs;obtain⟨a,b,yM,hs⟩:=Je hs;have eD:=Gf yM;split at hs
 ·rename_i dw
  obtain⟨hb,hs⟩:=eY hs;cases hs;subst dw hb;exact toW [] h hpc (fun _=>af (af (rE 0 8 (fI bq.1)) (aN (fI bq.1) qI)) (bM h (gP (fI bq.1)) (aQ hx))) (fun _ _ _=>k1 (wT (aD (gP (fI bq.1)) hx) (h.w hx) (by assumption) Says.li Says.li)) (fun _=>aR) fun _=>((aT h 74).n 3 1).u 11 (aD (gP (fI bq.1)) hx)
 ·rename_i dw
  obtain⟨hb,hs⟩:=eY hs;cases hs;exact toW [a,b] h hpc (fun _=>af (af (af (af (af (rE 0 8 (fI bq.1)) (aN (fI bq.1) qI)) (bM h (gP (fI bq.1)) (aQ hx))) (rE 0 32 z1)) (aN z1 bg)) (rE 0 64 z2)) (fun _ _ _=>k1 (wT (aD (gP (fI bq.1)) hx) (h.w hx) (by assumption) (Says.si z1) (Says.si z2))) (fun _=>aR) fun _=>(aT h 75).u 11 (aD (gP (fI bq.1)) hx)
theorem Zqp (h:bL c mn cp t g)(hpc:t.pc=75)(hs:bG c mn g t=some (t',g')):cZ 46 c mn cp t g t' g':=by
 unfold bG at hs;rw[hpc]at hs;have ⟨hC,hS,hO,bP,bN,_,ai,hlen,_,aI,aC⟩:=h;obtain⟨bq,hs⟩:=eY hs;obtain⟨p,q,hp,hq,hs⟩:=o5 hs;rcases hs with⟨rfl,rfl,hr⟩|⟨hne,hr⟩|⟨rfl,hne,hr⟩
 ·cases hr
  exact toW [] h hpc (fun _=>af (af (af (af (rE 0 8 (fI bq.1)) (aN (fI bq.1) qI)) (fA h (gP (fI bq.1)) (aQ hq))) (bU (aD (gP (fI bq.1)) hp) oH)) (bU (aD (bV (gP (fI bq.1))) hq) l8)) (fun _ _ _=>k0) (fun _=>oW aR (gP (fI bq.1)) (lM 0) (C9 l8) (aQ hq) hlen.2) fun _=>(aT h 79).u 7 oH
 ·cases hr
  exact toW [] h hpc (fun _=>af (af (af (rE 0 8 (fI bq.1)) (aN (fI bq.1) qI)) (fA h (gP (fI bq.1)) (aQ hq))) (dU (aD (gP (fI bq.1)) hp) oH)) (fun _ _ _=>k0) (fun _=>aR) fun _=>aT h 73
 ·cases hr
  exact toW [] h hpc (fun _=>af (af (af (af (rE 0 8 (fI bq.1)) (aN (fI bq.1) qI)) (fA h (gP (fI bq.1)) (aQ hq))) (bU (aD (gP (fI bq.1)) hp) oH)) (dU (aD (bV (gP (fI bq.1))) hq) l8)) (fun _ _ _=>k0) (fun _=>aR) fun _=>aT h 73
theorem Zqs (h:bL c mn cp t g)(hpc:t.pc=79)(hs:bG c mn g t=some (t',g')):cZ 46 c mn cp t g t' g':=by
 unfold bG at hs;rw[hpc]at hs;have ⟨hC,hS,hO,bP,bN,_,ai,hlen,_,aI,aC⟩:=h;obtain⟨a,b,yM,hs⟩:=Je hs;have eD:=Gf yM;obtain⟨hb,hs⟩:=eY hs;obtain⟨s,rfl⟩:=Int.eq_ofNat_of_zero_le hb.1;rw[Zx2]at hs;obtain⟨x,hx,hs⟩:=rd_some hs;obtain⟨a',b',WE,hs⟩:=Je hs;have hge':=Gf WE;obtain⟨dP,hs⟩:=eY hs;cases hs;exact toW [(s:Int),b,0,0,a',b'] h hpc (fun _=>af (af (af (af (af (af (rE 0 32 z1) (aN z1 bg)) (rE 0 64 z2)) (bM h (gT h z1) (aQ hx))) (rE (-1) 32 z5)) (aN z5 bg)) (rE 0 64 z6)) (fun _ _ _=>k2 (wT tu (Qq (by assumption)) (by assumption) (Says.si z1) (Says.si z2)) (wT (aD (gT h z1) hx) (h.w hx) (by assumption) (Says.si z5) (Says.si z6))) (fun _=>aR) fun _=>(((((aT h 80).i 5 z1).n 6 (-1)).u 7 (aD (gT h z1) hx)).n 13 0).n 15 79
theorem Zqt (h:bL c mn cp t g)(hpc:t.pc=80)(hs:bG c mn g t=some (t',g')):cZ 46 c mn cp t g t' g':=by
 unfold bG at hs;rw[hpc]at hs;have ⟨hC,hS,hO,bP,bN,_,ai,hlen,_,aI,aC⟩:=h;obtain⟨x,hx,hs⟩:=rd_some hs;split at hs
 ·rename_i dw
  split at hs
  ·rename_i ow
   obtain⟨hi,hs⟩:=kR hs;cases hs;exact toW [] h hpc (fun _=>af (af (bM h (iD h) (by first|exact hi|exact aQ hx)) (bU (aD (iD h) hx) (lE 0))) (aN jQ (lE 0))) (fun _ _ _=>k0) (fun _=>jB aR (iD h) (lM 1) (by first|exact hi|exact aQ hx)) fun _=>aT h 84
  ·rename_i ow
   obtain⟨hi,hs⟩:=kR hs;cases hs;exact toW [] h hpc (fun _=>af (af (bM h (iD h) (by first|exact hi|exact aQ hx)) (bU (aD (iD h) hx) (lE 0))) (dN jQ (lE 0))) (fun _ _ _=>k0) (fun _=>jB aR (iD h) (lM 1) (by first|exact hi|exact aQ hx)) fun _=>(aT h 81).i 12 jQ
 ·rename_i dw
  cases hs;exact toW [] h hpc (fun _=>af (bM h (iD h) (by first|exact hi|exact aQ hx)) (dU (aD (iD h) hx) (lE 0))) (fun _ _ _=>k0) (fun _=>aR) fun _=>Ei h hpc
theorem Zqu (h:bL c mn cp t g)(hpc:t.pc=81)(hs:bG c mn g t=some (t',g')):cZ 46 c mn cp t g t' g':=by
 unfold bG at hs;rw[hpc]at hs;have ⟨hC,hS,hO,bP,bN,_,ai,hlen,_,aI,aC⟩:=h;obtain⟨s,es,bC,hs⟩:=iZ hs;obtain⟨o,eo,fD,hs⟩:=zq hs;obtain⟨hmy,hs⟩:=eY hs;obtain⟨x,hx,hs⟩:=rd_some hs;split at hs
 ·cases hs
 ·rename_i y fE
  have hy:=Lu fE;split at hs
  ·rename_i dw
   cases hs;subst dw;exact toW [] h hpc (fun _=>af (af (af (af (af (rE 0 32 (ak es)) (aN (ak es) bg)) (rE 0 16 (uI eo))) (aN (uI eo) cK)) (rE 0 16 zz)) (bM h (lq h (ak es) (uI eo)) (aQ hx))) (fun _ _ _=>k1 (LF (aD (lq h (ak es) (uI eo)) hx) (h.w hx) (wI (ak es)) (Nat.mod_lt _ (by omega)) (uI eo) (by omega) (by assumption) Says.li)) (fun _=>aR) fun _=>(aT h 84).i 13 (MN zz (lE 1))
  ·rename_i dw
   obtain⟨hb,hs⟩:=eY hs;cases hs;exact toW [y] h hpc (fun _=>af (af (af (af (af (af (af (rE 0 32 (ak es)) (aN (ak es) bg)) (rE 0 16 (uI eo))) (aN (uI eo) cK)) (rE 0 16 zz)) (bM h (lq h (ak es) (uI eo)) (aQ hx))) (rE 0 16 z1)) (aN z1 cK)) (fun _ _ _=>k1 (LF (aD (lq h (ak es) (uI eo)) hx) (h.w hx) (wI (ak es)) (Nat.mod_lt _ (by omega)) (uI eo) (by omega) (by assumption) (Says.si z1))) (fun _=>aR) fun _=>((aT h 81).i 12 z1).i 13 (MN zz (lE 1))
theorem Zqv (h:bL c mn cp t g)(hpc:t.pc=84)(hs:bG c mn g t=some (t',g')):cZ 46 c mn cp t g t' g':=by
 unfold bG at hs;rw[hpc]at hs;have ⟨hC,hS,hO,bP,bN,_,ai,hlen,_,aI,aC⟩:=h;obtain⟨s,es,bC,hs⟩:=iZ hs;obtain⟨x,hx,hs⟩:=rd_some hs;obtain⟨hb,hs⟩:=eY hs;cases hs;exact toW [] h hpc (fun _=>af (af (af (af (rE 0 32 (ak es)) (aN (ak es) bg)) (bM h (aS h (ak es)) (aQ hx))) (rE 0 17 (aD (aS h (ak es)) hx))) (dN (fe cK) (aD (aS h (ak es)) hx))) (fun _ _ _=>k0) (fun _=>aR) fun _=>(aT h 85).u 9 (aD (aS h (ak es)) hx)
theorem Zqw (h:bL c mn cp t g)(hpc:t.pc=85)(hs:bG c mn g t=some (t',g')):cZ 46 c mn cp t g t' g':=by
 unfold bG at hs;rw[hpc]at hs;have ⟨hC,hS,hO,bP,bN,_,ai,hlen,_,aI,aC⟩:=h;obtain⟨s,es,bC,hs⟩:=iZ hs;obtain⟨x,hx,hs⟩:=rd_some hs;obtain⟨k,hk,hl,h1,h2,h3,hs⟩:=vJ hs;obtain⟨⟨bT,hmy⟩,hs⟩:=eY hs;by_cases dw:t.obj<0
 ·rw[if_pos dw]at hs
  cases hs;exact toW [(k.ay:Int),(k.objects:Int)] h hpc (fun _=>af (af (af (af (af (af (af (rE 0 32 (ak es)) (aN (ak es) bg)) (bM h (bV (aS h (ak es))) (aQ hx))) (rE 0 17 z1)) (rE 1 17 z2)) (rE 0 17 zz)) (dN z1 zz)) (aN jQ (lE 0))) (fun _ _ _=>k1 (gX (aD (bV (aS h (ak es))) hx) (h.w hx) hk hl (Says.si z1) (Says.si z2) (by rw[bT];exact Says.bool))) (fun _=>aR) fun _=>(aT h 87).u 10 (aD (bV (aS h (ak es))) hx)
 ·rw[if_neg dw]at hs
  cases hs;exact toW [(k.ay:Int),(k.objects:Int)] h hpc (fun _=>af (af (af (af (af (af (af (rE 0 32 (ak es)) (aN (ak es) bg)) (bM h (bV (aS h (ak es))) (aQ hx))) (rE 0 17 z1)) (rE 1 17 z2)) (rE 0 17 zz)) (dN z1 zz)) (dN jQ (lE 0))) (fun _ _ _=>k1 (gX (aD (bV (aS h (ak es))) hx) (h.w hx) hk hl (Says.si z1) (Says.si z2) (by rw[bT];exact Says.bool))) (fun _=>aR) fun _=>(aT h 86).u 10 (aD (bV (aS h (ak es))) hx)
theorem Zqx (h:bL c mn cp t g)(hpc:t.pc=86)(hs:bG c mn g t=some (t',g')):cZ 46 c mn cp t g t' g':=by
 unfold bG at hs;rw[hpc]at hs;have ⟨hC,hS,hO,bP,bN,_,ai,hlen,_,aI,aC⟩:=h;obtain⟨s,es,bC,hs⟩:=iZ hs;obtain⟨o,eo,fD,hs⟩:=zq hs;obtain⟨hF2,hs⟩:=eY hs;obtain⟨hi,hs⟩:=kR hs;cases hs;exact toW [0,0,0,((fZ ((t.F:Int) - 1) (See.keyOf c.key s) o:Nat):Int)] h hpc (fun _=>af (af (af (af (af (af (rE 0 32 (ak es)) (aN (ak es) bg)) (rE 0 16 (uI eo))) (aN (uI eo) cK)) (bM h (lq h (ak es) (uI eo)) hi)) (rE 0 17 aZ)) (dN (fe cK) aZ)) (fun _ _ _=>k1 (EI (Says.si (tX (tH aZ) (lE 1))) (wI (ak es)) (Nat.mod_lt _ (by omega)) (Says.si (uI eo)) (by omega) (by omega) z4)) (fun _=>jB aR (lq h (ak es) (uI eo)) z4 hi) fun _=>aT h 87
theorem Zqy (h:bL c mn cp t g)(hpc:t.pc=87)(hs:bG c mn g t=some (t',g')):cZ 46 c mn cp t g t' g':=by
 unfold bG at hs;rw[hpc]at hs;have ⟨hC,hS,hO,bP,bN,_,ai,hlen,_,aI,aC⟩:=h;obtain⟨s,es,bC,hs⟩:=iZ hs;obtain⟨k,hk,hl,h1,h2,h3,hs⟩:=vJ hs;obtain⟨⟨bT,eX,qO,Kb,xC,hF2⟩,hs⟩:=eY hs;by_cases ow:t.obj<0
 ·simp only[if_pos ow]at hs
  by_cases pE:t.F=0
  ·rw[if_pos ⟨ow,pE⟩]at hs
   obtain⟨p,q,hp,hq,hs⟩:=o5 hs;rcases hs with⟨rfl,rfl,hr⟩|⟨hne,hr⟩|⟨rfl,hne,hr⟩
   ·cases hr
    exact toW [(k.ay:Int),(k.objects:Int),0,((dF (k.ay - t.many.toNat) k.objects false true:Nat):Int)] h hpc (fun _=>af (af (af (af (af (af (af (af (af (af (af (af (af (af (rE 0 32 (ak es)) (aN (ak es) bg)) (rE 0 17 z1)) (rE 1 17 z2)) (rE 0 17 (fP eX))) (rE (-1) 16 jQ)) (aN jQ cK)) (dN z1 (fP eX))) (rE 0 17 aZ)) (dN (fe cK) aZ)) (aN jQ (lE 0))) (bU aZ (lE 0))) (fA h (aS h (ak es)) (aQ hq))) (bU (aD (aS h (ak es)) hp) aZ)) (bU (aD (bV (aS h (ak es))) hq) eO)) (fun _ _ _=>k2 (gX eO (iY (by assumption)) hk hl (Says.si z1) (Says.si z2) (by rw[bT];exact Says.bool)) (jo (Says.si (jg z1 (fP eX))) (Says.si z2) Says.bool (by omega) (by omega) (by omega) z4)) (fun _=>oW aR (aS h (ak es)) aZ z4 (aQ hq) hlen.2) fun _=>(aT h 94).u 10 z4
   ·cases hr
    exact toW [(k.ay:Int),(k.objects:Int),0,((dF (k.ay - t.many.toNat) k.objects false true:Nat):Int)] h hpc (fun _=>af (af (af (af (af (af (af (af (af (af (af (af (af (rE 0 32 (ak es)) (aN (ak es) bg)) (rE 0 17 z1)) (rE 1 17 z2)) (rE 0 17 (fP eX))) (rE (-1) 16 jQ)) (aN jQ cK)) (dN z1 (fP eX))) (rE 0 17 aZ)) (dN (fe cK) aZ)) (aN jQ (lE 0))) (bU aZ (lE 0))) (fA h (aS h (ak es)) (aQ hq))) (dU (aD (aS h (ak es)) hp) aZ)) (fun _ _ _=>k2 (gX eO (iY (by assumption)) hk hl (Says.si z1) (Says.si z2) (by rw[bT];exact Says.bool)) (jo (Says.si (jg z1 (fP eX))) (Says.si z2) Says.bool (by omega) (by omega) (by omega) z4)) (fun _=>aR) fun _=>aT h 84
   ·cases hr
    exact toW [(k.ay:Int),(k.objects:Int),0,((dF (k.ay - t.many.toNat) k.objects false true:Nat):Int)] h hpc (fun _=>af (af (af (af (af (af (af (af (af (af (af (af (af (af (rE 0 32 (ak es)) (aN (ak es) bg)) (rE 0 17 z1)) (rE 1 17 z2)) (rE 0 17 (fP eX))) (rE (-1) 16 jQ)) (aN jQ cK)) (dN z1 (fP eX))) (rE 0 17 aZ)) (dN (fe cK) aZ)) (aN jQ (lE 0))) (bU aZ (lE 0))) (fA h (aS h (ak es)) (aQ hq))) (bU (aD (aS h (ak es)) hp) aZ)) (dU (aD (bV (aS h (ak es))) hq) eO)) (fun _ _ _=>k2 (gX eO (iY (by assumption)) hk hl (Says.si z1) (Says.si z2) (by rw[bT];exact Says.bool)) (jo (Says.si (jg z1 (fP eX))) (Says.si z2) Says.bool (by omega) (by omega) (by omega) z4)) (fun _=>aR) fun _=>aT h 84
  ·rw[if_neg (fun hh=>pE hh.2)]at hs
   by_cases dw:k.ay - t.many.toNat=0
   ·rw[if_pos dw]at hs
    obtain⟨p,q,hp,hq,hs⟩:=o5 hs;rcases hs with⟨rfl,rfl,hr⟩|⟨hne,hr⟩|⟨rfl,hne,hr⟩
    ·cases hr
     exact toW [(k.ay:Int),(k.objects:Int),0,((dF (k.ay - t.many.toNat) k.objects false true:Nat):Int)] h hpc (fun _=>af (af (af (af (af (af (af (af (af (af (af (af (af (af (af (rE 0 32 (ak es)) (aN (ak es) bg)) (rE 0 17 z1)) (rE 1 17 z2)) (rE 0 17 (fP eX))) (rE (-1) 16 jQ)) (aN jQ cK)) (dN z1 (fP eX))) (rE 0 17 aZ)) (dN (fe cK) aZ)) (aN jQ (lE 0))) (dU aZ (lE 0))) (bU (jg z1 (fP eX)) (lE 0))) (fA h (aS h (ak es)) (aQ hq))) (bU (aD (aS h (ak es)) hp) aZ)) (bU (aD (bV (aS h (ak es))) hq) eO)) (fun _ _ _=>k2 (gX eO (iY (by assumption)) hk hl (Says.si z1) (Says.si z2) (by rw[bT];exact Says.bool)) (jo (Says.si (jg z1 (fP eX))) (Says.si z2) Says.bool (by omega) (by omega) (by omega) z4)) (fun _=>oW aR (aS h (ak es)) aZ z4 (aQ hq) hlen.2) fun _=>(aT h 88).u 10 z4
    ·cases hr
     exact toW [(k.ay:Int),(k.objects:Int),0,((dF (k.ay - t.many.toNat) k.objects false true:Nat):Int)] h hpc (fun _=>af (af (af (af (af (af (af (af (af (af (af (af (af (af (rE 0 32 (ak es)) (aN (ak es) bg)) (rE 0 17 z1)) (rE 1 17 z2)) (rE 0 17 (fP eX))) (rE (-1) 16 jQ)) (aN jQ cK)) (dN z1 (fP eX))) (rE 0 17 aZ)) (dN (fe cK) aZ)) (aN jQ (lE 0))) (dU aZ (lE 0))) (bU (jg z1 (fP eX)) (lE 0))) (fA h (aS h (ak es)) (aQ hq))) (dU (aD (aS h (ak es)) hp) aZ)) (fun _ _ _=>k2 (gX eO (iY (by assumption)) hk hl (Says.si z1) (Says.si z2) (by rw[bT];exact Says.bool)) (jo (Says.si (jg z1 (fP eX))) (Says.si z2) Says.bool (by omega) (by omega) (by omega) z4)) (fun _=>aR) fun _=>aT h 84
    ·cases hr
     exact toW [(k.ay:Int),(k.objects:Int),0,((dF (k.ay - t.many.toNat) k.objects false true:Nat):Int)] h hpc (fun _=>af (af (af (af (af (af (af (af (af (af (af (af (af (af (af (rE 0 32 (ak es)) (aN (ak es) bg)) (rE 0 17 z1)) (rE 1 17 z2)) (rE 0 17 (fP eX))) (rE (-1) 16 jQ)) (aN jQ cK)) (dN z1 (fP eX))) (rE 0 17 aZ)) (dN (fe cK) aZ)) (aN jQ (lE 0))) (dU aZ (lE 0))) (bU (jg z1 (fP eX)) (lE 0))) (fA h (aS h (ak es)) (aQ hq))) (bU (aD (aS h (ak es)) hp) aZ)) (dU (aD (bV (aS h (ak es))) hq) eO)) (fun _ _ _=>k2 (gX eO (iY (by assumption)) hk hl (Says.si z1) (Says.si z2) (by rw[bT];exact Says.bool)) (jo (Says.si (jg z1 (fP eX))) (Says.si z2) Says.bool (by omega) (by omega) (by omega) z4)) (fun _=>aR) fun _=>aT h 84
   ·rw[if_neg dw]at hs
    obtain⟨p,q,hp,hq,hs⟩:=o5 hs;rcases hs with⟨rfl,rfl,hr⟩|⟨hne,hr⟩|⟨rfl,hne,hr⟩
    ·cases hr
     exact toW [(k.ay:Int),(k.objects:Int),0,((dF (k.ay - t.many.toNat) k.objects false true:Nat):Int)] h hpc (fun _=>af (af (af (af (af (af (af (af (af (af (af (af (af (af (af (rE 0 32 (ak es)) (aN (ak es) bg)) (rE 0 17 z1)) (rE 1 17 z2)) (rE 0 17 (fP eX))) (rE (-1) 16 jQ)) (aN jQ cK)) (dN z1 (fP eX))) (rE 0 17 aZ)) (dN (fe cK) aZ)) (aN jQ (lE 0))) (dU aZ (lE 0))) (dU (jg z1 (fP eX)) (lE 0))) (fA h (aS h (ak es)) (aQ hq))) (bU (aD (aS h (ak es)) hp) aZ)) (bU (aD (bV (aS h (ak es))) hq) eO)) (fun _ _ _=>k2 (gX eO (iY (by assumption)) hk hl (Says.si z1) (Says.si z2) (by rw[bT];exact Says.bool)) (jo (Says.si (jg z1 (fP eX))) (Says.si z2) Says.bool (by omega) (by omega) (by omega) z4)) (fun _=>oW aR (aS h (ak es)) aZ z4 (aQ hq) hlen.2) fun _=>(aT h 90).u 10 z4
    ·cases hr
     exact toW [(k.ay:Int),(k.objects:Int),0,((dF (k.ay - t.many.toNat) k.objects false true:Nat):Int)] h hpc (fun _=>af (af (af (af (af (af (af (af (af (af (af (af (af (af (rE 0 32 (ak es)) (aN (ak es) bg)) (rE 0 17 z1)) (rE 1 17 z2)) (rE 0 17 (fP eX))) (rE (-1) 16 jQ)) (aN jQ cK)) (dN z1 (fP eX))) (rE 0 17 aZ)) (dN (fe cK) aZ)) (aN jQ (lE 0))) (dU aZ (lE 0))) (dU (jg z1 (fP eX)) (lE 0))) (fA h (aS h (ak es)) (aQ hq))) (dU (aD (aS h (ak es)) hp) aZ)) (fun _ _ _=>k2 (gX eO (iY (by assumption)) hk hl (Says.si z1) (Says.si z2) (by rw[bT];exact Says.bool)) (jo (Says.si (jg z1 (fP eX))) (Says.si z2) Says.bool (by omega) (by omega) (by omega) z4)) (fun _=>aR) fun _=>aT h 84
    ·cases hr
     exact toW [(k.ay:Int),(k.objects:Int),0,((dF (k.ay - t.many.toNat) k.objects false true:Nat):Int)] h hpc (fun _=>af (af (af (af (af (af (af (af (af (af (af (af (af (af (af (rE 0 32 (ak es)) (aN (ak es) bg)) (rE 0 17 z1)) (rE 1 17 z2)) (rE 0 17 (fP eX))) (rE (-1) 16 jQ)) (aN jQ cK)) (dN z1 (fP eX))) (rE 0 17 aZ)) (dN (fe cK) aZ)) (aN jQ (lE 0))) (dU aZ (lE 0))) (dU (jg z1 (fP eX)) (lE 0))) (fA h (aS h (ak es)) (aQ hq))) (bU (aD (aS h (ak es)) hp) aZ)) (dU (aD (bV (aS h (ak es))) hq) eO)) (fun _ _ _=>k2 (gX eO (iY (by assumption)) hk hl (Says.si z1) (Says.si z2) (by rw[bT];exact Says.bool)) (jo (Says.si (jg z1 (fP eX))) (Says.si z2) Says.bool (by omega) (by omega) (by omega) z4)) (fun _=>aR) fun _=>aT h 84
 ·simp only[if_neg ow]at hs
  rw[if_neg (fun hh=>ow hh.1)]at hs;obtain⟨o,eo⟩:∃ o:Nat,t.obj=(o:Int):=⟨t.obj.toNat,by omega⟩;rw[show(t.obj+1).toNat=o+1 by omega]at hs;by_cases dw:k.ay - t.many.toNat=0
  ·rw[if_pos dw]at hs
   obtain⟨p,q,hp,hq,hs⟩:=o5 hs;rcases hs with⟨rfl,rfl,hr⟩|⟨hne,hr⟩|⟨rfl,hne,hr⟩
   ·cases hr
    exact toW [(k.ay:Int),(k.objects:Int),0,((dF (k.ay - t.many.toNat) k.objects false true:Nat):Int)] h hpc (fun _=>af (af (af (af (af (af (af (af (af (af (af (af (af (af (rE 0 32 (ak es)) (aN (ak es) bg)) (rE 0 17 z1)) (rE 1 17 z2)) (rE 0 17 (fP eX))) (rE (-1) 16 (bK eo))) (aN (bK eo) cK)) (dN z1 (fP eX))) (rE 0 17 aZ)) (dN (fe cK) aZ)) (dN (bK eo) (lE 0))) (bU (jg z1 (fP eX)) (lE 0))) (fA h (aS h (ak es)) (aQ hq))) (bU (aD (aS h (ak es)) hp) aZ)) (bU (aD (bV (aS h (ak es))) hq) eO)) (fun _ _ _=>k2 (gX eO (iY (by assumption)) hk hl (Says.si z1) (Says.si z2) (by rw[bT];exact Says.bool)) (jo (Says.si (jg z1 (fP eX))) (Says.si z2) Says.bool (by omega) (by omega) (by omega) z4)) (fun _=>oW aR (aS h (ak es)) (fe (bV (bK eo))) z4 (aQ hq) hlen.2) fun _=>((aT h 88).u 9 (fe (bV (bK eo)))).u 10 z4
   ·cases hr
    exact toW [(k.ay:Int),(k.objects:Int),0,((dF (k.ay - t.many.toNat) k.objects false true:Nat):Int)] h hpc (fun _=>af (af (af (af (af (af (af (af (af (af (af (af (af (rE 0 32 (ak es)) (aN (ak es) bg)) (rE 0 17 z1)) (rE 1 17 z2)) (rE 0 17 (fP eX))) (rE (-1) 16 (bK eo))) (aN (bK eo) cK)) (dN z1 (fP eX))) (rE 0 17 aZ)) (dN (fe cK) aZ)) (dN (bK eo) (lE 0))) (bU (jg z1 (fP eX)) (lE 0))) (fA h (aS h (ak es)) (aQ hq))) (dU (aD (aS h (ak es)) hp) aZ)) (fun _ _ _=>k2 (gX eO (iY (by assumption)) hk hl (Says.si z1) (Says.si z2) (by rw[bT];exact Says.bool)) (jo (Says.si (jg z1 (fP eX))) (Says.si z2) Says.bool (by omega) (by omega) (by omega) z4)) (fun _=>aR) fun _=>aT h 84
   ·cases hr
    exact toW [(k.ay:Int),(k.objects:Int),0,((dF (k.ay - t.many.toNat) k.objects false true:Nat):Int)] h hpc (fun _=>af (af (af (af (af (af (af (af (af (af (af (af (af (af (rE 0 32 (ak es)) (aN (ak es) bg)) (rE 0 17 z1)) (rE 1 17 z2)) (rE 0 17 (fP eX))) (rE (-1) 16 (bK eo))) (aN (bK eo) cK)) (dN z1 (fP eX))) (rE 0 17 aZ)) (dN (fe cK) aZ)) (dN (bK eo) (lE 0))) (bU (jg z1 (fP eX)) (lE 0))) (fA h (aS h (ak es)) (aQ hq))) (bU (aD (aS h (ak es)) hp) aZ)) (dU (aD (bV (aS h (ak es))) hq) eO)) (fun _ _ _=>k2 (gX eO (iY (by assumption)) hk hl (Says.si z1) (Says.si z2) (by rw[bT];exact Says.bool)) (jo (Says.si (jg z1 (fP eX))) (Says.si z2) Says.bool (by omega) (by omega) (by omega) z4)) (fun _=>aR) fun _=>aT h 84
  ·rw[if_neg dw]at hs
   obtain⟨p,q,hp,hq,hs⟩:=o5 hs;rcases hs with⟨rfl,rfl,hr⟩|⟨hne,hr⟩|⟨rfl,hne,hr⟩
   ·cases hr
    exact toW [(k.ay:Int),(k.objects:Int),0,((dF (k.ay - t.many.toNat) k.objects false true:Nat):Int)] h hpc (fun _=>af (af (af (af (af (af (af (af (af (af (af (af (af (af (rE 0 32 (ak es)) (aN (ak es) bg)) (rE 0 17 z1)) (rE 1 17 z2)) (rE 0 17 (fP eX))) (rE (-1) 16 (bK eo))) (aN (bK eo) cK)) (dN z1 (fP eX))) (rE 0 17 aZ)) (dN (fe cK) aZ)) (dN (bK eo) (lE 0))) (dU (jg z1 (fP eX)) (lE 0))) (fA h (aS h (ak es)) (aQ hq))) (bU (aD (aS h (ak es)) hp) aZ)) (bU (aD (bV (aS h (ak es))) hq) eO)) (fun _ _ _=>k2 (gX eO (iY (by assumption)) hk hl (Says.si z1) (Says.si z2) (by rw[bT];exact Says.bool)) (jo (Says.si (jg z1 (fP eX))) (Says.si z2) Says.bool (by omega) (by omega) (by omega) z4)) (fun _=>oW aR (aS h (ak es)) (fe (bV (bK eo))) z4 (aQ hq) hlen.2) fun _=>((aT h 90).u 9 (fe (bV (bK eo)))).u 10 z4
   ·cases hr
    exact toW [(k.ay:Int),(k.objects:Int),0,((dF (k.ay - t.many.toNat) k.objects false true:Nat):Int)] h hpc (fun _=>af (af (af (af (af (af (af (af (af (af (af (af (af (rE 0 32 (ak es)) (aN (ak es) bg)) (rE 0 17 z1)) (rE 1 17 z2)) (rE 0 17 (fP eX))) (rE (-1) 16 (bK eo))) (aN (bK eo) cK)) (dN z1 (fP eX))) (rE 0 17 aZ)) (dN (fe cK) aZ)) (dN (bK eo) (lE 0))) (dU (jg z1 (fP eX)) (lE 0))) (fA h (aS h (ak es)) (aQ hq))) (dU (aD (aS h (ak es)) hp) aZ)) (fun _ _ _=>k2 (gX eO (iY (by assumption)) hk hl (Says.si z1) (Says.si z2) (by rw[bT];exact Says.bool)) (jo (Says.si (jg z1 (fP eX))) (Says.si z2) Says.bool (by omega) (by omega) (by omega) z4)) (fun _=>aR) fun _=>aT h 84
   ·cases hr
    exact toW [(k.ay:Int),(k.objects:Int),0,((dF (k.ay - t.many.toNat) k.objects false true:Nat):Int)] h hpc (fun _=>af (af (af (af (af (af (af (af (af (af (af (af (af (af (rE 0 32 (ak es)) (aN (ak es) bg)) (rE 0 17 z1)) (rE 1 17 z2)) (rE 0 17 (fP eX))) (rE (-1) 16 (bK eo))) (aN (bK eo) cK)) (dN z1 (fP eX))) (rE 0 17 aZ)) (dN (fe cK) aZ)) (dN (bK eo) (lE 0))) (dU (jg z1 (fP eX)) (lE 0))) (fA h (aS h (ak es)) (aQ hq))) (bU (aD (aS h (ak es)) hp) aZ)) (dU (aD (bV (aS h (ak es))) hq) eO)) (fun _ _ _=>k2 (gX eO (iY (by assumption)) hk hl (Says.si z1) (Says.si z2) (by rw[bT];exact Says.bool)) (jo (Says.si (jg z1 (fP eX))) (Says.si z2) Says.bool (by omega) (by omega) (by omega) z4)) (fun _=>aR) fun _=>aT h 84
theorem Zqz (h:bL c mn cp t g)(hpc:t.pc=88)(hs:bG c mn g t=some (t',g')):cZ 46 c mn cp t g t' g':=by
 unfold bG at hs;rw[hpc]at hs;have ⟨hC,hS,hO,bP,bN,_,ai,hlen,_,aI,aC⟩:=h;obtain⟨x,hx,hs⟩:=rd_some hs;split at hs
 ·rename_i dw
  cases hs;exact toW [] h hpc (fun _=>af (bM h (pF h) (aQ hx)) (aN (aD (pF h) hx) (fe QI))) (fun _ _ _=>k0) (fun _=>aR) fun _=>aT h 90
 ·rename_i dw
  cases hs;exact toW [] h hpc (fun _=>af (bM h (pF h) (aQ hx)) (dN (aD (pF h) hx) (fe QI))) (fun _ _ _=>k0) (fun _=>aR) fun _=>aT h 76
theorem ZqA (h:bL c mn cp t g)(hpc:t.pc=90)(hs:bG c mn g t=some (t',g')):cZ 46 c mn cp t g t' g':=by
 unfold bG at hs;rw[hpc]at hs;have ⟨hC,hS,hO,bP,bN,_,ai,hlen,_,aI,aC⟩:=h;obtain⟨x,hx,hs⟩:=rd_some hs;obtain⟨hb,hs⟩:=eY hs;cases hs;exact toW [] h hpc (fun _=>af (af (bM h (iM h) (aQ hx)) (rE 0 33 (aD (iM h) hx))) (dN (fe bg) (aD (iM h) hx))) (fun _ _ _=>k0) (fun _=>aR) fun _=>(aT h 91).u 11 (aD (iM h) hx)
theorem ZqB (h:bL c mn cp t g)(hpc:t.pc=91)(hs:bG c mn g t=some (t',g')):cZ 46 c mn cp t g t' g':=by
 unfold bG at hs;rw[hpc]at hs;have ⟨hC,hS,hO,bP,bN,_,ai,hlen,_,aI,aC⟩:=h;obtain⟨s,es,bC,hs⟩:=iZ hs;obtain⟨hi,hs⟩:=kR hs;cases hs;exact toW [] h hpc (fun _=>af (af (rE 0 32 (ak es)) (aN (ak es) bg)) (bM h (gT h (ak es)) hi)) (fun _ _ _=>k0) (fun _=>jB aR (gT h (ak es)) oH hi) fun _=>aT h 92
theorem ZqC (h:bL c mn cp t g)(hpc:t.pc=92)(hs:bG c mn g t=some (t',g')):cZ 46 c mn cp t g t' g':=by
 unfold bG at hs;rw[hpc]at hs;have ⟨hC,hS,hO,bP,bN,_,ai,hlen,_,aI,aC⟩:=h;obtain⟨s,es,bC,hs⟩:=iZ hs;obtain⟨hi,hs⟩:=kR hs;cases hs;exact toW [] h hpc (fun _=>af (af (rE 0 32 (ak es)) (aN (ak es) bg)) (bM h (iM h) hi)) (fun _ _ _=>k0) (fun _=>jB aR (iM h) (fe (bV (ak es))) hi) fun _=>aT h 93
theorem ZqD (h:bL c mn cp t g)(hpc:t.pc=93)(hs:bG c mn g t=some (t',g')):cZ 46 c mn cp t g t' g':=by
 unfold bG at hs;rw[hpc]at hs;have ⟨hC,hS,hO,bP,bN,_,ai,hlen,_,aI,aC⟩:=h;obtain⟨x,hx,hs⟩:=rd_some hs;obtain⟨hi,hs⟩:=kR hs;cases hs;exact toW [] h hpc (fun _=>bM h (pF h) (by first|exact hi|exact aQ hx)) (fun _ _ _=>k0) (fun _=>jB aR (pF h) (C9 (aD (pF h) hx)) (by first|exact hi|exact aQ hx)) fun _=>aT h 94
theorem ZqE (h:bL c mn cp t g)(hpc:t.pc=94)(hs:bG c mn g t=some (t',g')):cZ 46 c mn cp t g t' g':=by
 unfold bG at hs;rw[hpc]at hs;have ⟨hC,hS,hO,bP,bN,_,ai,hlen,_,aI,aC⟩:=h
 change(match kY t with
  |some t'=>wr g (jc c) 0 t'
  |none=>none)=_ at hs
 split at hs
 ·rename_i t2 ht
  obtain⟨hi,hs⟩:=kR hs;unfold kY at ht;split at ht
  ·rename_i mR
   cases ht;cases hs;exact toW [] h hpc (fun _=>af (bM h (iD h) hi) (bU Da (lE 0))) (fun _ _ _=>k0) (fun _=>jB aR (iD h) (lM 0) hi) fun _=>(Ei h hpc).n 3 1
  ·split at ht
   ·rename_i mR
    cases ht;cases hs;exact toW [] h hpc (fun _=>af (bM h (iD h) hi) (bU Da (lE 73))) (fun _ _ _=>k0) (fun _=>jB aR (iD h) (lM 0) hi) fun _=>(Ei h hpc).i 2 (Da.trans mR)
   ·split at ht
    ·rename_i mR
     cases ht;cases hs;exact toW [] h hpc (fun _=>af (bM h (iD h) hi) (bU Da (lE 95))) (fun _ _ _=>k0) (fun _=>jB aR (iD h) (lM 0) hi) fun _=>(Ei h hpc).i 2 (Da.trans mR)
    ·split at ht
     ·rename_i mR
      split at ht
      ·rename_i hH
       cases ht;cases hs;exact toW [] h hpc (fun _=>af (af (bM h (iD h) hi) (bU Da (lE 79))) (bU tu (lE 0))) (fun _ _ _=>k0) (fun _=>jB aR (iD h) (lM 0) hi) fun _=>(Ei h hpc).n 3 1
      ·rename_i hH
       cases ht;cases hs;exact toW [] h hpc (fun _=>af (af (bM h (iD h) hi) (bU Da (lE 79))) (dU tu (lE 0))) (fun _ _ _=>k0) (fun _=>jB aR (iD h) (lM 0) hi) fun _=>(Ei h hpc).i 2 (Da.trans mR)
     ·cases ht
 ·cases hs
theorem Zqq (h:bL c mn cp t g)(hpc:t.pc=76)(hs:bG c mn g t=some (t',g')):cZ 46 c mn cp t g t' g':=by
 unfold bG at hs;rw[hpc]at hs;have ⟨hC,hS,hO,bP,bN,_,ai,hlen,_,aI,aC⟩:=h;obtain⟨s,es,bC,hs⟩:=iZ hs;obtain⟨p,hp,hs⟩:=rd_some hs;obtain⟨q,hq,hs⟩:=rd_some hs;obtain⟨⟨hpF,hqK⟩,hs⟩:=eY hs;cases hs;exact toW [] h hpc (fun _=>af (af (af (af (rE 0 32 (ak es)) (aN (ak es) bg)) (fA h (aS h (ak es)) (aQ hq))) (bU (aD (aS h (ak es)) hp) aZ)) (bU (aD (bV (aS h (ak es))) hq) eO)) (fun _ _ _=>k0) (fun _=>oW aR (aS h (ak es)) (lM 0) (lM 0) (aQ hq) hlen.2) fun _=>aT h 77
theorem Zqr (h:bL c mn cp t g)(hpc:t.pc=77)(hs:bG c mn g t=some (t',g')):cZ 46 c mn cp t g t' g':=by
 unfold bG at hs;rw[hpc]at hs;have ⟨hC,hS,hO,bP,bN,_,ai,hlen,_,aI,aC⟩:=h;obtain⟨hi,hs⟩:=kR hs;cases hs;exact toW [] h hpc (fun _=>bM h (iD h) hi) (fun _ _ _=>k0) (fun _=>jB aR (iD h) (lM 0) hi) fun _=>(aT h 78).n 4 2
theorem ZqF (h:bL c mn cp t g)(hpc:t.pc=95)(hs:bG c mn g t=some (t',g')):cZ 46 c mn cp t g t' g':=by
 unfold bG at hs;rw[hpc]at hs;have ⟨hC,hS,hO,bP,bN,_,ai,hlen,_,aI,aC⟩:=h;obtain⟨x,hx,hs⟩:=rd_some hs;split at hs
 ·rename_i dw
  obtain⟨hi,hs⟩:=kR hs;cases hs;exact toW [] h hpc (fun _=>af (bM h (iD h) (by first|exact hi|exact aQ hx)) (bU (aD (iD h) hx) (lE 0))) (fun _ _ _=>k0) (fun _=>jB aR (iD h) (lM 1) (by first|exact hi|exact aQ hx)) fun _=>aT h 96
 ·rename_i dw
  cases hs;exact toW [] h hpc (fun _=>af (bM h (iD h) (by first|exact hi|exact aQ hx)) (dU (aD (iD h) hx) (lE 0))) (fun _ _ _=>k0) (fun _=>aR) fun _=>Ei h hpc
theorem ZqG (h:bL c mn cp t g)(hpc:t.pc=96)(hs:bG c mn g t=some (t',g')):cZ 46 c mn cp t g t' g':=by
 unfold bG at hs;rw[hpc]at hs;have ⟨hC,hS,hO,bP,bN,_,ai,hlen,_,aI,aC⟩:=h;obtain⟨x,hx,hs⟩:=rd_some hs;obtain⟨hb,hs⟩:=eY hs;split at hs
 ·rename_i dw
  cases hs;exact toW [] h hpc (fun _=>af (af (af (bM h (iM h) (aQ hx)) (rE 0 33 (aD (iM h) hx))) (dN (fe bg) (aD (iM h) hx))) (bU (aD (iM h) hx) (lE 0))) (fun _ _ _=>k0) (fun _=>aR) fun _=>((aT h 99).u 11 (aD (iM h) hx)).n 14 (-1)
 ·rename_i dw
  cases hs;exact toW [] h hpc (fun _=>af (af (af (bM h (iM h) (aQ hx)) (rE 0 33 (aD (iM h) hx))) (dN (fe bg) (aD (iM h) hx))) (dU (aD (iM h) hx) (lE 0))) (fun _ _ _=>k0) (fun _=>aR) fun _=>(((aT h 97).i 5 (tX (tH (aD (iM h) hx)) (lE 1))).u 11 (aD (iM h) hx)).n 14 (-1)
theorem ZqH (h:bL c mn cp t g)(hpc:t.pc=97)(hs:bG c mn g t=some (t',g')):cZ 46 c mn cp t g t' g':=by
 unfold bG at hs;rw[hpc]at hs;have ⟨hC,hS,hO,bP,bN,_,ai,hlen,_,aI,aC⟩:=h;obtain⟨s,es,bC,hs⟩:=iZ hs;obtain⟨x,hx,hs⟩:=rd_some hs;obtain⟨k,hk,hl,h1,h2,h3,hs⟩:=vJ hs;by_cases dw:k.ay=0
 ·rw[if_pos dw]at hs
  cases hs;exact toW [(k.ay:Int),(k.objects:Int),if k.frozen=true then 1 else 0] h hpc (fun _=>af (af (af (af (af (rE 0 32 (ak es)) (aN (ak es) bg)) (bM h (bV (aS h (ak es))) (aQ hx))) (rE 0 17 z1)) (rE 1 17 z2)) (bU z1 (lE 0))) (fun _ _ _=>k1 (gX (aD (bV (aS h (ak es))) hx) (h.w hx) hk hl (Says.si z1) (Says.si z2) (Ua z3))) (fun _=>aR) fun _=>(aT h 100).u 10 (aD (bV (aS h (ak es))) hx)
 ·rw[if_neg dw]at hs
  cases hs;exact toW [(k.ay:Int),(k.objects:Int),if k.frozen=true then 1 else 0] h hpc (fun _=>af (af (af (af (af (rE 0 32 (ak es)) (aN (ak es) bg)) (bM h (bV (aS h (ak es))) (aQ hx))) (rE 0 17 z1)) (rE 1 17 z2)) (dU z1 (lE 0))) (fun _ _ _=>k1 (gX (aD (bV (aS h (ak es))) hx) (h.w hx) hk hl (Says.si z1) (Says.si z2) (Ua z3))) (fun _=>aR) fun _=>(aT h 98).u 10 (aD (bV (aS h (ak es))) hx)
theorem ZqI (h:bL c mn cp t g)(hpc:t.pc=98)(hs:bG c mn g t=some (t',g')):cZ 46 c mn cp t g t' g':=by
 unfold bG at hs;rw[hpc]at hs;have ⟨hC,hS,hO,bP,bN,_,ai,hlen,_,aI,aC⟩:=h;obtain⟨s,es,bC,hs⟩:=iZ hs;obtain⟨x,hx,hs⟩:=rd_some hs;obtain⟨hb,hs⟩:=eY hs;split at hs
 ·rename_i dw
  cases hs;exact toW [] h hpc (fun _=>af (af (af (af (af (rE 0 32 (ak es)) (aN (ak es) bg)) (bM h (gT h (ak es)) (aQ hx))) (rE 0 33 (aD (gT h (ak es)) hx))) (dN (fe bg) (aD (gT h (ak es)) hx))) (bU (aD (gT h (ak es)) hx) (lE 0))) (fun _ _ _=>k0) (fun _=>aR) fun _=>((aT h 99).u 11 (aD (gT h (ak es)) hx)).i 14 Jm
 ·rename_i dw
  cases hs;exact toW [] h hpc (fun _=>af (af (af (af (af (rE 0 32 (ak es)) (aN (ak es) bg)) (bM h (gT h (ak es)) (aQ hx))) (rE 0 33 (aD (gT h (ak es)) hx))) (dN (fe bg) (aD (gT h (ak es)) hx))) (dU (aD (gT h (ak es)) hx) (lE 0))) (fun _ _ _=>k0) (fun _=>aR) fun _=>(((aT h 97).i 5 (tX (tH (aD (gT h (ak es)) hx)) (lE 1))).u 11 (aD (gT h (ak es)) hx)).i 14 Jm
theorem ZqJ (h:bL c mn cp t g)(hpc:t.pc=99)(hs:bG c mn g t=some (t',g')):cZ 46 c mn cp t g t' g':=by
 unfold bG at hs;rw[hpc]at hs;have ⟨hC,hS,hO,bP,bN,_,ai,hlen,_,aI,aC⟩:=h;obtain⟨hi,hs⟩:=kR hs;cases hs;exact toW [] h hpc (fun _=>bM h (iD h) hi) (fun _ _ _=>k0) (fun _=>jB aR (iD h) (lM 0) hi) fun _=>(aT h 99).n 3 1
theorem ZoJ (h:bL c mn cp t g)(hpc:t.pc=100)(hs:bG c mn g t=some (t',g')):cZ 46 c mn cp t g t' g':=by
 unfold bG at hs;rw[hpc]at hs;have ⟨hC,hS,hO,bP,bN,_,ai,hlen,_,aI,aC⟩:=h;obtain⟨s,es,bC,hs⟩:=iZ hs;obtain⟨x,hx,hs⟩:=rd_some hs;cases hs;exact toW [] h hpc (fun _=>af (af (rE 0 32 (ak es)) (aN (ak es) bg)) (bM h (aS h (ak es)) (aQ hx))) (fun _ _ _=>k0) (fun _=>aR) fun _=>(aT h 101).u 9 (aD (aS h (ak es)) hx)
theorem ZoK (h:bL c mn cp t g)(hpc:t.pc=101)(hs:bG c mn g t=some (t',g')):cZ 46 c mn cp t g t' g':=by
 unfold bG at hs;rw[hpc]at hs;have ⟨hC,hS,hO,bP,bN,_,ai,hlen,_,aI,aC⟩:=h;obtain⟨s,es,bC,hs⟩:=iZ hs;obtain⟨x,hx,hs⟩:=rd_some hs;obtain⟨hb,hs⟩:=eY hs;cases hs;exact toW [] h hpc (fun _=>af (af (af (af (rE 0 32 (ak es)) (aN (ak es) bg)) (bM h (gT h (ak es)) (aQ hx))) (rE 0 33 (aD (gT h (ak es)) hx))) (dN (fe bg) (aD (gT h (ak es)) hx))) (fun _ _ _=>k0) (fun _=>aR) fun _=>(aT h 102).u 11 (aD (gT h (ak es)) hx)
theorem ZoL (h:bL c mn cp t g)(hpc:t.pc=102)(hs:bG c mn g t=some (t',g')):cZ 46 c mn cp t g t' g':=by
 unfold bG at hs;rw[hpc]at hs;have ⟨hC,hS,hO,bP,bN,_,ai,hlen,_,aI,aC⟩:=h;change(if t.bS = -1 then _ else _)=_ at hs;split at hs
 ·rename_i sD
  obtain⟨hi,hs⟩:=kR hs;cases hs;exact toW [] h hpc (fun _=>af (bM h (iM h) hi) (bU QJ (lE (-1)))) (fun _ _ _=>k0) (fun _=>jB aR (iM h) oH hi) fun _=>aT h 103
 ·rename_i sD
  obtain⟨hb,hs⟩:=eY hs;obtain⟨hi,hs⟩:=kR hs;cases hs;exact toW [] h hpc (fun _=>af (af (af (rE 0 32 (nJ (by omega))) (aN (nJ (by omega)) bg)) (bM h (gT h (nJ (by omega))) hi)) (dU (nJ (by omega)) (lE (-1)))) (fun _ _ _=>k0) (fun _=>jB aR (gT h (nJ (by omega))) oH hi) fun _=>aT h 103
theorem ZoM (h:bL c mn cp t g)(hpc:t.pc=103)(hs:bG c mn g t=some (t',g')):cZ 46 c mn cp t g t' g':=by
 unfold bG at hs;rw[hpc]at hs;have ⟨hC,hS,hO,bP,bN,_,ai,hlen,_,aI,aC⟩:=h;obtain⟨x,hx,hs⟩:=rd_some hs;obtain⟨hi,hs⟩:=kR hs;cases hs;exact toW [] h hpc (fun _=>bM h (pF h) (by first|exact hi|exact aQ hx)) (fun _ _ _=>k0) (fun _=>jB aR (pF h) (Ug (aD (pF h) hx)) (by first|exact hi|exact aQ hx)) fun _=>(aT h 76).n 15 95
theorem ZoN (h:bL c mn cp t g)(hs:bG c mn g t=some (t',g')):cZ 46 c mn cp t g t' g':=by
 have cO:=hs;unfold bG at hs;split at hs
 ·exact Zqk h (by assumption) cO
 ·exact Zql h (by assumption) cO
 ·exact Zqm h (by assumption) cO
 ·exact Zqn h (by assumption) cO
 ·exact Zqo h (by assumption) cO
 ·exact Zqp h (by assumption) cO
 ·exact Zqs h (by assumption) cO
 ·exact Zqt h (by assumption) cO
 ·exact Zqu h (by assumption) cO
 ·exact Zqv h (by assumption) cO
 ·exact Zqw h (by assumption) cO
 ·exact Zqx h (by assumption) cO
 ·exact Zqy h (by assumption) cO
 ·exact Zqz h (by assumption) cO
 ·exact ZqA h (by assumption) cO
 ·exact ZqB h (by assumption) cO
 ·exact ZqC h (by assumption) cO
 ·exact ZqD h (by assumption) cO
 ·exact ZqE h (by assumption) cO
 ·exact Zqq h (by assumption) cO
 ·exact Zqr h (by assumption) cO
 ·exact ZqF h (by assumption) cO
 ·exact ZqG h (by assumption) cO
 ·exact ZqH h (by assumption) cO
 ·exact ZqI h (by assumption) cO
 ·exact ZqJ h (by assumption) cO
 ·exact ZoJ h (by assumption) cO
 ·exact ZoK h (by assumption) cO
 ·exact ZoL h (by assumption) cO
 ·exact ZoM h (by assumption) cO
 ·cases hs
end
end Cw
end Go.Proofs.YtfcpdlbkmkhhcaaGreatDoor
