/-
  Texts of this claim, joined. No condition.
-/
import Derived.Test.YtfcpdlbkmkhhcaaGreatDoorCh1
import Derived.Test.YtfcpdlbkmkhhcaaGreatDoorCh20
namespace Go.Proofs.YtfcpdlbkmkhhcaaGreatDoor
set_option maxRecDepth 100000
set_option maxHeartbeats 40000000
namespace Cw
open Go Ex Mem See
open Go.RowKit
section
variable {c:Ch}{mn cp:Nat}{t t':Tk}{g g':List Nat}
theorem Ztr (h:bL c mn cp t g)(hpc:t.pc=0)(hs:jq c g t=some (t',g')):cZ 43 c mn cp t g t' g':=by
 unfold jq at hs;rw[hpc]at hs;have ⟨hC,hS,hO,bP,bN,_,ai,hlen,_,aI,aC⟩:=h;unfold uw at hs;obtain⟨x,hx,hs⟩:=rd_some hs;cases hs;exact toW [] h hpc (fun _=>bM h (bV (dV bZ)) (aQ hx)) (fun _ _ _=>k0) (fun _=>aR) fun _=>(aT h 1).u 8 (aD (bV (dV bZ)) hx)
theorem Zts (h:bL c mn cp t g)(hpc:t.pc=1)(hs:jq c g t=some (t',g')):cZ 43 c mn cp t g t' g':=by
 unfold jq at hs;rw[hpc]at hs;have ⟨hC,hS,hO,bP,bN,_,ai,hlen,_,aI,aC⟩:=h;obtain⟨x,hx,hs⟩:=rd_some hs;obtain⟨a,b,tK,hs⟩:=SS hs;have eD:=LB tK;split at hs
 ·rename_i dw
  obtain⟨hb,hs⟩:=eY hs;cases hs;subst dw hb;exact toW [] h hpc (fun _=>bM h (dV bZ) (aQ hx)) (fun _ _ _=>k1 (Gd (aD (dV bZ) hx) (h.w hx) (by assumption) Says.li Says.li)) (fun _=>aR) fun _=>(((aT h 30).n 5 (-1)).n 6 (-1)).u 7 (aD (dV bZ) hx)
 ·obtain⟨hb,hs⟩:=eY hs
  split at hs
  ·rename_i ho
   cases hs;subst ho;exact toW [a] h hpc (fun _=>af (af (bM h (dV bZ) (aQ hx)) (rE 0 32 z1)) (aN z1 bg)) (fun _ _ _=>k1 (Gd (aD (dV bZ) hx) (h.w hx) (by assumption) (Says.si z1) Says.li)) (fun _=>aR) fun _=>(((aT h 20).i 5 z1).n 6 (-1)).u 7 (aD (dV bZ) hx)
  ·obtain⟨Hu,hs⟩:=eY hs
   cases hs;exact toW [a,b] h hpc (fun _=>af (af (af (af (bM h (dV bZ) (aQ hx)) (rE 0 32 z1)) (aN z1 bg)) (rE 0 16 z2)) (aN z2 cK)) (fun _ _ _=>k1 (Gd (aD (dV bZ) hx) (h.w hx) (by assumption) (Says.si z1) (Says.si z2))) (fun _=>aR) fun _=>(((aT h 2).i 5 z1).i 6 z2).u 7 (aD (dV bZ) hx)
theorem Ztt (h:bL c mn cp t g)(hpc:t.pc=2)(hs:jq c g t=some (t',g')):cZ 43 c mn cp t g t' g':=by
 unfold jq at hs;rw[hpc]at hs;have ⟨hC,hS,hO,bP,bN,_,ai,hlen,_,aI,aC⟩:=h;obtain⟨s,es,bC,hs⟩:=iZ hs;obtain⟨o,eo,fD,hs⟩:=zq hs;obtain⟨x,hx,hs⟩:=rd_some hs;split at hs
 ·rename_i fE
  cases hs;exact toW [0] h hpc (fun _=>af (af (af (af (rE 0 32 (ak es)) (aN (ak es) bg)) (rE 0 16 (bK eo))) (aN (bK eo) cK)) (bM h (lq h (ak es) (bK eo)) (aQ hx))) (fun _ _ _=>k1 (Znv (aD (lq h (ak es) (bK eo)) hx) (h.w hx) (wI (ak es)) (Nat.mod_lt _ (by omega)) (bK eo) (by omega) (by assumption) (Says.si z1))) (fun _=>aR) fun _=>aT h 0
 ·rename_i y fE
  have hy:=Lu fE;split at hs
  ·rename_i mY
   cases hs;exact toW [y] h hpc (fun _=>af (af (af (af (af (af (rE 0 32 (ak es)) (aN (ak es) bg)) (rE 0 16 (bK eo))) (aN (bK eo) cK)) (bM h (lq h (ak es) (bK eo)) (aQ hx))) (rE (-1) 16 z1)) (aN z1 cK)) (fun _ _ _=>k1 (LF (aD (lq h (ak es) (bK eo)) hx) (h.w hx) (wI (ak es)) (Nat.mod_lt _ (by omega)) (bK eo) (by omega) (by assumption) (Says.si z1))) (fun _=>aR) fun _=>(aT h 3).i 12 z1
  ·rename_i mY
   cases hs;exact toW [y] h hpc (fun _=>af (af (af (af (af (af (rE 0 32 (ak es)) (aN (ak es) bg)) (rE 0 16 (bK eo))) (aN (bK eo) cK)) (bM h (lq h (ak es) (bK eo)) (aQ hx))) (rE (-1) 17 z1)) (dN z1 cK)) (fun _ _ _=>k1 (LF (aD (lq h (ak es) (bK eo)) hx) (h.w hx) (wI (ak es)) (Nat.mod_lt _ (by omega)) (bK eo) (by omega) (by assumption) (Says.si z1))) (fun _=>aR) fun _=>aT h 0
theorem Ztu (h:bL c mn cp t g)(hpc:t.pc=3)(hs:jq c g t=some (t',g')):cZ 43 c mn cp t g t' g':=by
 unfold jq at hs;rw[hpc]at hs;have ⟨hC,hS,hO,bP,bN,_,ai,hlen,_,aI,aC⟩:=h;obtain⟨s,es,bC,hs⟩:=iZ hs;obtain⟨xx,hs⟩:=eY hs;obtain⟨p,q,hp,hq,hs⟩:=o5 hs;rcases hs with⟨rfl,rfl,hr⟩|⟨hne,hr⟩|⟨rfl,hne,hr⟩
 ·cases hr
  exact toW [((headW (s:Int) t.last:Nat):Int)] h hpc (fun _=>af (af (af (af (af (rE 0 32 (ak es)) (aN (ak es) bg)) (rE (-1) 16 sN)) (fA h (dV bZ) (aQ hq))) (bU (aD (dV bZ) hp) tu)) (bU (aD (bV (dV bZ)) hq) l8)) (fun _ _ _=>k1 (Df (Says.si (ak es)) (Says.si sN) ⟨(by omega),(by omega),(by omega),(by omega)⟩ z1)) (fun _=>oW aR (dV bZ) z1 (C9 l8) (aQ hq) hlen.2) fun _=>(aT h 3).n 3 1
 ·cases hr
  exact toW [((headW (s:Int) t.last:Nat):Int)] h hpc (fun _=>af (af (af (af (rE 0 32 (ak es)) (aN (ak es) bg)) (rE (-1) 16 sN)) (fA h (dV bZ) (aQ hq))) (dU (aD (dV bZ) hp) tu)) (fun _ _ _=>k1 (Df (Says.si (ak es)) (Says.si sN) ⟨(by omega),(by omega),(by omega),(by omega)⟩ z1)) (fun _=>aR) fun _=>aT h 0
 ·cases hr
  exact toW [((headW (s:Int) t.last:Nat):Int)] h hpc (fun _=>af (af (af (af (af (rE 0 32 (ak es)) (aN (ak es) bg)) (rE (-1) 16 sN)) (fA h (dV bZ) (aQ hq))) (bU (aD (dV bZ) hp) tu)) (dU (aD (bV (dV bZ)) hq) l8)) (fun _ _ _=>k1 (Df (Says.si (ak es)) (Says.si sN) ⟨(by omega),(by omega),(by omega),(by omega)⟩ z1)) (fun _=>aR) fun _=>aT h 0
theorem Zr6 (h:bL c mn cp t g)(hpc:t.pc=10)(hs:jq c g t=some (t',g')):cZ 43 c mn cp t g t' g':=by
 unfold jq at hs;rw[hpc]at hs;have ⟨hC,hS,hO,bP,bN,_,ai,hlen,_,aI,aC⟩:=h;unfold uw at hs;obtain⟨x,hx,hs⟩:=rd_some hs;cases hs;exact toW [] h hpc (fun _=>bM h (bV (dV bZ)) (aQ hx)) (fun _ _ _=>k0) (fun _=>aR) fun _=>(aT h 11).u 8 (aD (bV (dV bZ)) hx)
theorem Zr7 (h:bL c mn cp t g)(hpc:t.pc=11)(hs:jq c g t=some (t',g')):cZ 43 c mn cp t g t' g':=by
 unfold jq at hs;rw[hpc]at hs;have ⟨hC,hS,hO,bP,bN,_,ai,hlen,_,aI,aC⟩:=h;obtain⟨x,hx,hs⟩:=rd_some hs;obtain⟨a,b,tK,hs⟩:=SS hs;have eD:=LB tK;obtain⟨hb,hs⟩:=eY hs;split at hs
 ·rename_i hss
  cases hs;exact toW [a,b] h hpc (fun _=>af (af (af (af (af (bM h (dV bZ) (aQ hx)) (rE (-1) 32 z1)) (aN z1 bg)) (rE (-1) 16 z2)) (aN z2 cK)) (bU z1 Jm)) (fun _ _ _=>k1 (Gd (aD (dV bZ) hx) (h.w hx) (by assumption) (Says.si z1) (Says.si z2))) (fun _=>aR) fun _=>((aT h 12).u 7 (aD (dV bZ) hx)).i 12 z2
 ·rename_i hss
  cases hs;exact toW [a,b] h hpc (fun _=>af (af (af (af (af (bM h (dV bZ) (aQ hx)) (rE (-1) 32 z1)) (aN z1 bg)) (rE (-1) 16 z2)) (aN z2 cK)) (dU z1 Jm)) (fun _ _ _=>k1 (Gd (aD (dV bZ) hx) (h.w hx) (by assumption) (Says.si z1) (Says.si z2))) (fun _=>aR) fun _=>(aT h 50).u 7 (aD (dV bZ) hx)
theorem Zr8 (h:bL c mn cp t g)(hpc:t.pc=12)(hs:jq c g t=some (t',g')):cZ 43 c mn cp t g t' g':=by
 unfold jq at hs;rw[hpc]at hs;have ⟨hC,hS,hO,bP,bN,_,ai,hlen,_,aI,aC⟩:=h;obtain⟨s,es,bC,hs⟩:=iZ hs;obtain⟨o,eo,fD,hs⟩:=zq hs;obtain⟨xx,hs⟩:=eY hs;obtain⟨hi,hs⟩:=kR hs;cases hs;exact toW [((fZ t.last (See.keyOf c.key s) o:Nat):Int)] h hpc (fun _=>af (af (af (af (af (rE 0 32 (ak es)) (aN (ak es) bg)) (rE 0 16 (bK eo))) (aN (bK eo) cK)) (bM h (lq h (ak es) (bK eo)) hi)) (rE (-1) 16 sN)) (fun _ _ _=>k1 (EI (Says.si sN) (wI (ak es)) (Nat.mod_lt _ (by omega)) (Says.si (bK eo)) (by omega) (by omega) z1)) (fun _=>jB aR (lq h (ak es) (bK eo)) z1 hi) fun _=>aT h 13
theorem Zr9 (h:bL c mn cp t g)(hpc:t.pc=13)(hs:jq c g t=some (t',g')):cZ 43 c mn cp t g t' g':=by
 unfold jq at hs;rw[hpc]at hs;have ⟨hC,hS,hO,bP,bN,_,ai,hlen,_,aI,aC⟩:=h;obtain⟨s,es,bC,hs⟩:=iZ hs;obtain⟨o,eo,fD,hs⟩:=zq hs;obtain⟨p,q,hp,hq,hs⟩:=o5 hs;rcases hs with⟨rfl,rfl,hr⟩|⟨hne,hr⟩|⟨rfl,hne,hr⟩
 ·cases hr
  exact toW [((headW (s:Int) (o:Int):Nat):Int)] h hpc (fun _=>af (af (af (af (af (af (rE 0 32 (ak es)) (aN (ak es) bg)) (rE 0 16 (bK eo))) (aN (bK eo) cK)) (fA h (dV bZ) (aQ hq))) (bU (aD (dV bZ) hp) tu)) (bU (aD (bV (dV bZ)) hq) l8)) (fun _ _ _=>k1 (Df (Says.si (ak es)) (Says.si (bK eo)) ⟨(by omega),(by omega),(by omega),(by omega)⟩ z1)) (fun _=>oW aR (dV bZ) z1 (C9 l8) (aQ hq) hlen.2) fun _=>(aT h 13).n 3 1
 ·cases hr
  exact toW [((headW (s:Int) (o:Int):Nat):Int)] h hpc (fun _=>af (af (af (af (af (rE 0 32 (ak es)) (aN (ak es) bg)) (rE 0 16 (bK eo))) (aN (bK eo) cK)) (fA h (dV bZ) (aQ hq))) (dU (aD (dV bZ) hp) tu)) (fun _ _ _=>k1 (Df (Says.si (ak es)) (Says.si (bK eo)) ⟨(by omega),(by omega),(by omega),(by omega)⟩ z1)) (fun _=>aR) fun _=>aT h 10
 ·cases hr
  exact toW [((headW (s:Int) (o:Int):Nat):Int)] h hpc (fun _=>af (af (af (af (af (af (rE 0 32 (ak es)) (aN (ak es) bg)) (rE 0 16 (bK eo))) (aN (bK eo) cK)) (fA h (dV bZ) (aQ hq))) (bU (aD (dV bZ) hp) tu)) (dU (aD (bV (dV bZ)) hq) l8)) (fun _ _ _=>k1 (Df (Says.si (ak es)) (Says.si (bK eo)) ⟨(by omega),(by omega),(by omega),(by omega)⟩ z1)) (fun _=>aR) fun _=>aT h 10
theorem fast_ok (h:bL c mn cp t g)(hs:jq c g t=some (t',g')):cZ 43 c mn cp t g t' g':=by
 have cO:=hs;unfold jq at hs;split at hs
 ·exact Ztr h (by assumption) cO
 ·exact Zts h (by assumption) cO
 ·exact Ztt h (by assumption) cO
 ·exact Ztu h (by assumption) cO
 ·exact Zr6 h (by assumption) cO
 ·exact Zr7 h (by assumption) cO
 ·exact Zr8 h (by assumption) cO
 ·exact Zr9 h (by assumption) cO
 ·cases hs
end
end Cw
namespace Cw
open Go Ex Mem See
open Go.RowKit
section
variable {c:Ch}{mn cp:Nat}{t t':Tk}{g g':List Nat}
theorem ZrE (h:bL c mn cp t g)(hpc:t.pc=50)(hs:dZ c mn cp g t=some (t',g')):cZ 45 c mn cp t g t' g':=by
 unfold dZ at hs;rw[hpc]at hs;have ⟨hC,hS,hO,bP,bN,_,ai,hlen,_,aI,aC⟩:=h;obtain⟨s,es,bC,hs⟩:=iZ hs;obtain⟨x,hx,hs⟩:=rd_some hs;obtain⟨hF2,hs⟩:=eY hs;cases hs;exact toW [] h hpc (fun _=>af (af (af (af (rE 0 32 (ak es)) (aN (ak es) bg)) (bM h (aS h (ak es)) (aQ hx))) (rE 0 17 (aD (aS h (ak es)) hx))) (dN (fe cK) (aD (aS h (ak es)) hx))) (fun _ _ _=>k0) (fun _=>aR) fun _=>(aT h 51).u 9 (aD (aS h (ak es)) hx)
theorem ZrF (h:bL c mn cp t g)(hpc:t.pc=51)(hs:dZ c mn cp g t=some (t',g')):cZ 45 c mn cp t g t' g':=by
 unfold dZ at hs;rw[hpc]at hs;have ⟨hC,hS,hO,bP,bN,_,ai,hlen,_,aI,aC⟩:=h;obtain⟨s,es,bC,hs⟩:=iZ hs;obtain⟨x,hx,hs⟩:=rd_some hs;obtain⟨k,hk,hl,h1,h2,h3,hs⟩:=vJ hs;obtain⟨h4,hs⟩:=eY hs;cases hs;exact toW [(k.ay:Int),(k.objects:Int),if k.frozen=true then 1 else 0] h hpc (fun _=>af (af (af (af (rE 0 32 (ak es)) (aN (ak es) bg)) (bM h (bV (aS h (ak es))) (aQ hx))) (rE 1 17 z1)) (rE 1 17 z2)) (fun _ _ _=>k1 (gX (aD (bV (aS h (ak es))) hx) (h.w hx) hk hl (Says.si z1) (Says.si z2) (Ua z3))) (fun _=>aR) fun _=>(aT h 52).u 10 (aD (bV (aS h (ak es))) hx)
theorem ZrG (h:bL c mn cp t g)(hpc:t.pc=52)(hs:dZ c mn cp g t=some (t',g')):cZ 45 c mn cp t g t' g':=by
 unfold dZ at hs;rw[hpc]at hs;have ⟨hC,hS,hO,bP,bN,_,ai,hlen,_,aI,aC⟩:=h;obtain⟨s,es,bC,hs⟩:=iZ hs;obtain⟨o,eo,fD,hs⟩:=zq hs;obtain⟨hF2,hs⟩:=eY hs;obtain⟨k,hk,hl,h1,h2,h3,hs⟩:=vJ hs;obtain⟨h4,hs⟩:=eY hs;obtain⟨hi,hs⟩:=kR hs;by_cases bT:k.frozen=true
 ·rw[if_pos bT]at hs
  cases hs;exact toW [(k.ay:Int),(k.objects:Int),0,((fZ ((t.F:Int) - 1) (See.keyOf c.key s) o:Nat):Int)] h hpc (fun _=>af (af (af (af (af (af (af (af (rE 0 32 (ak es)) (aN (ak es) bg)) (rE 0 16 (bK eo))) (aN (bK eo) cK)) (bM h (lq h (ak es) (bK eo)) hi)) (rE 1 17 z1)) (rE 1 17 z2)) (rE 0 17 aZ)) (dN (fe cK) aZ)) (fun _ _ _=>k2 (gX eO (iY (by assumption)) hk hl (Says.si z1) (Says.si z2) (by rw[bT];exact Says.bool)) (EI (Says.si (tX (tH aZ) (lE 1))) (wI (ak es)) (Nat.mod_lt _ (by omega)) (Says.si (bK eo)) (by omega) (by omega) z4)) (fun _=>jB aR (lq h (ak es) (bK eo)) z4 hi) fun _=>aT h 53
 ·rw[if_neg bT]at hs
  have bT:k.frozen=false:=by simpa using bT
  by_cases pE:t.F=0
  ·rw[if_pos pE]at hs
   cases hs;exact toW [(k.ay:Int),(k.objects:Int),0,((fZ ((t.F:Int) - 1) (See.keyOf c.key s) o:Nat):Int)] h hpc (fun _=>af (af (af (af (af (af (af (af (af (rE 0 32 (ak es)) (aN (ak es) bg)) (rE 0 16 (bK eo))) (aN (bK eo) cK)) (bM h (lq h (ak es) (bK eo)) hi)) (rE 1 17 z1)) (rE 1 17 z2)) (rE 0 17 aZ)) (dN (fe cK) aZ)) (bU aZ (lE 0))) (fun _ _ _=>k2 (gX eO (iY (by assumption)) hk hl (Says.si z1) (Says.si z2) (by rw[bT];exact Says.bool)) (EI (Says.si (tX (tH aZ) (lE 1))) (wI (ak es)) (Nat.mod_lt _ (by omega)) (Says.si (bK eo)) (by omega) (by omega) z4)) (fun _=>jB aR (lq h (ak es) (bK eo)) z4 hi) fun _=>aT h 54
  ·rw[if_neg pE]at hs
   by_cases h1u:1<k.ay
   ·rw[if_pos h1u]at hs
    cases hs;exact toW [(k.ay:Int),(k.objects:Int),0,((fZ ((t.F:Int) - 1) (See.keyOf c.key s) o:Nat):Int)] h hpc (fun _=>af (af (af (af (af (af (af (af (af (af (rE 0 32 (ak es)) (aN (ak es) bg)) (rE 0 16 (bK eo))) (aN (bK eo) cK)) (bM h (lq h (ak es) (bK eo)) hi)) (rE 1 17 z1)) (rE 1 17 z2)) (rE 0 17 aZ)) (dN (fe cK) aZ)) (dU aZ (lE 0))) (aN (lE 1) z1)) (fun _ _ _=>k2 (gX eO (iY (by assumption)) hk hl (Says.si z1) (Says.si z2) (by rw[bT];exact Says.bool)) (EI (Says.si (tX (tH aZ) (lE 1))) (wI (ak es)) (Nat.mod_lt _ (by omega)) (Says.si (bK eo)) (by omega) (by omega) z4)) (fun _=>jB aR (lq h (ak es) (bK eo)) z4 hi) fun _=>aT h 53
   ·rw[if_neg h1u]at hs
    cases hs;exact toW [(k.ay:Int),(k.objects:Int),0,((fZ ((t.F:Int) - 1) (See.keyOf c.key s) o:Nat):Int)] h hpc (fun _=>af (af (af (af (af (af (af (af (af (af (rE 0 32 (ak es)) (aN (ak es) bg)) (rE 0 16 (bK eo))) (aN (bK eo) cK)) (bM h (lq h (ak es) (bK eo)) hi)) (rE 1 17 z1)) (rE 1 17 z2)) (rE 0 17 aZ)) (dN (fe cK) aZ)) (dU aZ (lE 0))) (dN (lE 1) z1)) (fun _ _ _=>k2 (gX eO (iY (by assumption)) hk hl (Says.si z1) (Says.si z2) (by rw[bT];exact Says.bool)) (EI (Says.si (tX (tH aZ) (lE 1))) (wI (ak es)) (Nat.mod_lt _ (by omega)) (Says.si (bK eo)) (by omega) (by omega) z4)) (fun _=>jB aR (lq h (ak es) (bK eo)) z4 hi) fun _=>aT h 55
theorem ZrH (h:bL c mn cp t g)(hpc:t.pc=53)(hs:dZ c mn cp g t=some (t',g')):cZ 45 c mn cp t g t' g':=by
 unfold dZ at hs;rw[hpc]at hs;have ⟨hC,hS,hO,bP,bN,_,ai,hlen,_,aI,aC⟩:=h;obtain⟨s,es,bC,hs⟩:=iZ hs;obtain⟨o,eo,fD,hs⟩:=zq hs;obtain⟨k0,Ii,_,_,_,_,hs⟩:=vJ hs;unfold zH at hs;obtain⟨k,hk,hl,h1,h2,h3,hs⟩:=vJ hs;obtain⟨⟨hf,h4⟩,hs⟩:=eY hs;have ek:k0=k:=ZxZ (Ii.symm.trans hk);subst ek;by_cases bT:k0.frozen=true
 ·rw[bT]at hs
  obtain⟨p,q,hp,hq,hs⟩:=o5 hs;rcases hs with⟨rfl,rfl,hr⟩|⟨hne,hr⟩|⟨rfl,hne,hr⟩
  ·cases hr
   exact toW [(k0.ay:Int),(k0.objects:Int),0,((dF (k0.ay - 1) k0.objects true true:Nat):Int)] h hpc (fun _=>af (af (af (af (af (af (af (af (rE 0 32 (ak es)) (aN (ak es) bg)) (rE 0 16 (bK eo))) (aN (bK eo) cK)) (rE 1 17 z1)) (rE 1 17 z2)) (fA h (aS h (ak es)) (aQ hq))) (bU (aD (aS h (ak es)) hp) aZ)) (bU (aD (bV (aS h (ak es))) hq) eO)) (fun _ _ _=>k2 (gX eO (iY (by assumption)) hk hl (Says.si z1) (Says.si z2) (by rw[bT];exact Says.bool)) (jo (Says.si (jg z1 (lM 1))) (Says.si z2) Says.bool (by omega) (by omega) (by omega) z4)) (fun _=>oW aR (aS h (ak es)) (fe (bV (bK eo))) z4 (aQ hq) hlen.2) fun _=>(aT h 53).n 3 1
  ·cases hr
   exact toW [(k0.ay:Int),(k0.objects:Int),0,((dF (k0.ay - 1) k0.objects true true:Nat):Int)] h hpc (fun _=>af (af (af (af (af (af (af (rE 0 32 (ak es)) (aN (ak es) bg)) (rE 0 16 (bK eo))) (aN (bK eo) cK)) (rE 1 17 z1)) (rE 1 17 z2)) (fA h (aS h (ak es)) (aQ hq))) (dU (aD (aS h (ak es)) hp) aZ)) (fun _ _ _=>k2 (gX eO (iY (by assumption)) hk hl (Says.si z1) (Says.si z2) (by rw[bT];exact Says.bool)) (jo (Says.si (jg z1 (lM 1))) (Says.si z2) Says.bool (by omega) (by omega) (by omega) z4)) (fun _=>aR) fun _=>aT h 50
  ·cases hr
   exact toW [(k0.ay:Int),(k0.objects:Int),0,((dF (k0.ay - 1) k0.objects true true:Nat):Int)] h hpc (fun _=>af (af (af (af (af (af (af (af (rE 0 32 (ak es)) (aN (ak es) bg)) (rE 0 16 (bK eo))) (aN (bK eo) cK)) (rE 1 17 z1)) (rE 1 17 z2)) (fA h (aS h (ak es)) (aQ hq))) (bU (aD (aS h (ak es)) hp) aZ)) (dU (aD (bV (aS h (ak es))) hq) eO)) (fun _ _ _=>k2 (gX eO (iY (by assumption)) hk hl (Says.si z1) (Says.si z2) (by rw[bT];exact Says.bool)) (jo (Says.si (jg z1 (lM 1))) (Says.si z2) Says.bool (by omega) (by omega) (by omega) z4)) (fun _=>aR) fun _=>aT h 50
 ·have bT:k0.frozen=false:=by simpa using bT
  rw[bT]at hs;obtain⟨p,q,hp,hq,hs⟩:=o5 hs;rcases hs with⟨rfl,rfl,hr⟩|⟨hne,hr⟩|⟨rfl,hne,hr⟩
  ·cases hr
   exact toW [(k0.ay:Int),(k0.objects:Int),0,((dF (k0.ay - 1) k0.objects false true:Nat):Int)] h hpc (fun _=>af (af (af (af (af (af (af (af (rE 0 32 (ak es)) (aN (ak es) bg)) (rE 0 16 (bK eo))) (aN (bK eo) cK)) (rE 1 17 z1)) (rE 1 17 z2)) (fA h (aS h (ak es)) (aQ hq))) (bU (aD (aS h (ak es)) hp) aZ)) (bU (aD (bV (aS h (ak es))) hq) eO)) (fun _ _ _=>k2 (gX eO (iY (by assumption)) hk hl (Says.si z1) (Says.si z2) (by rw[bT];exact Says.bool)) (jo (Says.si (jg z1 (lM 1))) (Says.si z2) Says.bool (by omega) (by omega) (by omega) z4)) (fun _=>oW aR (aS h (ak es)) (fe (bV (bK eo))) z4 (aQ hq) hlen.2) fun _=>(aT h 53).n 3 1
  ·cases hr
   exact toW [(k0.ay:Int),(k0.objects:Int),0,((dF (k0.ay - 1) k0.objects false true:Nat):Int)] h hpc (fun _=>af (af (af (af (af (af (af (rE 0 32 (ak es)) (aN (ak es) bg)) (rE 0 16 (bK eo))) (aN (bK eo) cK)) (rE 1 17 z1)) (rE 1 17 z2)) (fA h (aS h (ak es)) (aQ hq))) (dU (aD (aS h (ak es)) hp) aZ)) (fun _ _ _=>k2 (gX eO (iY (by assumption)) hk hl (Says.si z1) (Says.si z2) (by rw[bT];exact Says.bool)) (jo (Says.si (jg z1 (lM 1))) (Says.si z2) Says.bool (by omega) (by omega) (by omega) z4)) (fun _=>aR) fun _=>aT h 50
  ·cases hr
   exact toW [(k0.ay:Int),(k0.objects:Int),0,((dF (k0.ay - 1) k0.objects false true:Nat):Int)] h hpc (fun _=>af (af (af (af (af (af (af (af (rE 0 32 (ak es)) (aN (ak es) bg)) (rE 0 16 (bK eo))) (aN (bK eo) cK)) (rE 1 17 z1)) (rE 1 17 z2)) (fA h (aS h (ak es)) (aQ hq))) (bU (aD (aS h (ak es)) hp) aZ)) (dU (aD (bV (aS h (ak es))) hq) eO)) (fun _ _ _=>k2 (gX eO (iY (by assumption)) hk hl (Says.si z1) (Says.si z2) (by rw[bT];exact Says.bool)) (jo (Says.si (jg z1 (lM 1))) (Says.si z2) Says.bool (by omega) (by omega) (by omega) z4)) (fun _=>aR) fun _=>aT h 50
theorem ZrI (h:bL c mn cp t g)(hpc:t.pc=54)(hs:dZ c mn cp g t=some (t',g')):cZ 45 c mn cp t g t' g':=by
 unfold dZ at hs;rw[hpc]at hs;have ⟨hC,hS,hO,bP,bN,_,ai,hlen,_,aI,aC⟩:=h;obtain⟨s,es,bC,hs⟩:=iZ hs;obtain⟨o,eo,fD,hs⟩:=zq hs;unfold zH at hs;obtain⟨k,hk,hl,h1,h2,h3,hs⟩:=vJ hs;obtain⟨⟨hf,h4⟩,hs⟩:=eY hs;have bT:=hf;obtain⟨p,q,hp,hq,hs⟩:=o5 hs;rcases hs with⟨rfl,rfl,hr⟩|⟨hne,hr⟩|⟨rfl,hne,hr⟩
 ·cases hr
  exact toW [(k.ay:Int),(k.objects:Int),0,((dF (k.ay - 1) k.objects true true:Nat):Int)] h hpc (fun _=>af (af (af (af (af (af (af (af (rE 0 32 (ak es)) (aN (ak es) bg)) (rE 0 16 (bK eo))) (aN (bK eo) cK)) (rE 1 17 z1)) (rE 1 17 z2)) (fA h (aS h (ak es)) (aQ hq))) (bU (aD (aS h (ak es)) hp) aZ)) (bU (aD (bV (aS h (ak es))) hq) eO)) (fun _ _ _=>k2 (gX eO (iY (by assumption)) hk hl (Says.si z1) (Says.si z2) (by rw[bT];exact Says.bool)) (jo (Says.si (jg z1 (lM 1))) (Says.si z2) Says.bool (by omega) (by omega) (by omega) z4)) (fun _=>oW aR (aS h (ak es)) (fe (bV (bK eo))) z4 (aQ hq) hlen.2) fun _=>aT h 60
 ·cases hr
  exact toW [(k.ay:Int),(k.objects:Int),0,((dF (k.ay - 1) k.objects true true:Nat):Int)] h hpc (fun _=>af (af (af (af (af (af (af (rE 0 32 (ak es)) (aN (ak es) bg)) (rE 0 16 (bK eo))) (aN (bK eo) cK)) (rE 1 17 z1)) (rE 1 17 z2)) (fA h (aS h (ak es)) (aQ hq))) (dU (aD (aS h (ak es)) hp) aZ)) (fun _ _ _=>k2 (gX eO (iY (by assumption)) hk hl (Says.si z1) (Says.si z2) (by rw[bT];exact Says.bool)) (jo (Says.si (jg z1 (lM 1))) (Says.si z2) Says.bool (by omega) (by omega) (by omega) z4)) (fun _=>aR) fun _=>aT h 50
 ·cases hr
  exact toW [(k.ay:Int),(k.objects:Int),0,((dF (k.ay - 1) k.objects true true:Nat):Int)] h hpc (fun _=>af (af (af (af (af (af (af (af (rE 0 32 (ak es)) (aN (ak es) bg)) (rE 0 16 (bK eo))) (aN (bK eo) cK)) (rE 1 17 z1)) (rE 1 17 z2)) (fA h (aS h (ak es)) (aQ hq))) (bU (aD (aS h (ak es)) hp) aZ)) (dU (aD (bV (aS h (ak es))) hq) eO)) (fun _ _ _=>k2 (gX eO (iY (by assumption)) hk hl (Says.si z1) (Says.si z2) (by rw[bT];exact Says.bool)) (jo (Says.si (jg z1 (lM 1))) (Says.si z2) Says.bool (by omega) (by omega) (by omega) z4)) (fun _=>aR) fun _=>aT h 50
theorem ZrK (h:bL c mn cp t g)(hpc:t.pc=56)(hs:dZ c mn cp g t=some (t',g')):cZ 45 c mn cp t g t' g':=by
 unfold dZ at hs;rw[hpc]at hs;have ⟨hC,hS,hO,bP,bN,_,ai,hlen,_,aI,aC⟩:=h;obtain⟨s,es,bC,hs⟩:=iZ hs;obtain⟨o,eo,fD,hs⟩:=zq hs;unfold zH at hs;obtain⟨k,hk,hl,h1,h2,h3,hs⟩:=vJ hs;obtain⟨⟨hf,h4⟩,hs⟩:=eY hs;have bT:=hf;obtain⟨p,q,hp,hq,hs⟩:=o5 hs;rcases hs with⟨rfl,rfl,hr⟩|⟨hne,hr⟩|⟨rfl,hne,hr⟩
 ·cases hr
  exact toW [(k.ay:Int),(k.objects:Int),0,((dF (k.ay - 1) k.objects false true:Nat):Int)] h hpc (fun _=>af (af (af (af (af (af (af (af (rE 0 32 (ak es)) (aN (ak es) bg)) (rE 0 16 (bK eo))) (aN (bK eo) cK)) (rE 1 17 z1)) (rE 1 17 z2)) (fA h (aS h (ak es)) (aQ hq))) (bU (aD (aS h (ak es)) hp) aZ)) (bU (aD (bV (aS h (ak es))) hq) eO)) (fun _ _ _=>k2 (gX eO (iY (by assumption)) hk hl (Says.si z1) (Says.si z2) (by rw[bT];exact Says.bool)) (jo (Says.si (jg z1 (lM 1))) (Says.si z2) Says.bool (by omega) (by omega) (by omega) z4)) (fun _=>oW aR (aS h (ak es)) (fe (bV (bK eo))) z4 (aQ hq) hlen.2) fun _=>((aT h 58).u 9 (fe (bV (bK eo)))).u 10 z4
 ·cases hr
  exact toW [(k.ay:Int),(k.objects:Int),0,((dF (k.ay - 1) k.objects false true:Nat):Int)] h hpc (fun _=>af (af (af (af (af (af (af (rE 0 32 (ak es)) (aN (ak es) bg)) (rE 0 16 (bK eo))) (aN (bK eo) cK)) (rE 1 17 z1)) (rE 1 17 z2)) (fA h (aS h (ak es)) (aQ hq))) (dU (aD (aS h (ak es)) hp) aZ)) (fun _ _ _=>k2 (gX eO (iY (by assumption)) hk hl (Says.si z1) (Says.si z2) (by rw[bT];exact Says.bool)) (jo (Says.si (jg z1 (lM 1))) (Says.si z2) Says.bool (by omega) (by omega) (by omega) z4)) (fun _=>aR) fun _=>aT h 57
 ·cases hr
  exact toW [(k.ay:Int),(k.objects:Int),0,((dF (k.ay - 1) k.objects false true:Nat):Int)] h hpc (fun _=>af (af (af (af (af (af (af (af (rE 0 32 (ak es)) (aN (ak es) bg)) (rE 0 16 (bK eo))) (aN (bK eo) cK)) (rE 1 17 z1)) (rE 1 17 z2)) (fA h (aS h (ak es)) (aQ hq))) (bU (aD (aS h (ak es)) hp) aZ)) (dU (aD (bV (aS h (ak es))) hq) eO)) (fun _ _ _=>k2 (gX eO (iY (by assumption)) hk hl (Says.si z1) (Says.si z2) (by rw[bT];exact Says.bool)) (jo (Says.si (jg z1 (lM 1))) (Says.si z2) Says.bool (by omega) (by omega) (by omega) z4)) (fun _=>aR) fun _=>aT h 57
theorem ZrJ (h:bL c mn cp t g)(hpc:t.pc=55)(hs:dZ c mn cp g t=some (t',g')):cZ 45 c mn cp t g t' g':=by
 unfold dZ at hs;rw[hpc]at hs;have ⟨hC,hS,hO,bP,bN,_,ai,hlen,_,aI,aC⟩:=h;obtain⟨x,hx,hs⟩:=rd_some hs;split at hs
 ·rename_i dw
  obtain⟨hi,hs⟩:=kR hs;cases hs;exact toW [] h hpc (fun _=>af (bM h (iD h) (by first|exact hi|exact aQ hx)) (bU (aD (iD h) hx) (lE 0))) (fun _ _ _=>k0) (fun _=>jB aR (iD h) (lM 1) (by first|exact hi|exact aQ hx)) fun _=>aT h 56
 ·rename_i dw
  cases hs;exact toW [] h hpc (fun _=>af (bM h (iD h) (by first|exact hi|exact aQ hx)) (dU (aD (iD h) hx) (lE 0))) (fun _ _ _=>k0) (fun _=>aR) fun _=>Ei h hpc
theorem ZrL (h:bL c mn cp t g)(hpc:t.pc=57)(hs:dZ c mn cp g t=some (t',g')):cZ 45 c mn cp t g t' g':=by
 unfold dZ at hs;rw[hpc]at hs;have ⟨hC,hS,hO,bP,bN,_,ai,hlen,_,aI,aC⟩:=h;obtain⟨hi,hs⟩:=kR hs;cases hs;exact toW [] h hpc (fun _=>bM h (iD h) hi) (fun _ _ _=>k0) (fun _=>jB aR (iD h) (lM 0) hi) fun _=>aT h 50
theorem ZrN (h:bL c mn cp t g)(hpc:t.pc=59)(hs:dZ c mn cp g t=some (t',g')):cZ 45 c mn cp t g t' g':=by
 unfold dZ at hs;rw[hpc]at hs;have ⟨hC,hS,hO,bP,bN,_,ai,hlen,_,aI,aC⟩:=h;obtain⟨hi,hs⟩:=kR hs;cases hs;exact toW [] h hpc (fun _=>bM h (iD h) hi) (fun _ _ _=>k0) (fun _=>jB aR (iD h) (lM 0) hi) fun _=>(aT h 59).n 3 1
theorem ZrM (h:bL c mn cp t g)(hpc:t.pc=58)(hs:dZ c mn cp g t=some (t',g')):cZ 45 c mn cp t g t' g':=by
 unfold dZ at hs;rw[hpc]at hs;have ⟨hC,hS,hO,bP,bN,_,ai,hlen,_,aI,aC⟩:=h;obtain⟨x,hx,hs⟩:=rd_some hs;split at hs
 ·rename_i dw
  cases hs;exact toW [] h hpc (fun _=>af (bM h (pF h) (aQ hx)) (aN (fe QI) (aD (pF h) hx))) (fun _ _ _=>k0) (fun _=>aR) fun _=>aT h 64
 ·rename_i dw
  cases hs;exact toW [] h hpc (fun _=>af (bM h (pF h) (aQ hx)) (dN (fe QI) (aD (pF h) hx))) (fun _ _ _=>k0) (fun _=>aR) fun _=>aT h 59
theorem ZrO (h:bL c mn cp t g)(hpc:t.pc=60)(hs:dZ c mn cp g t=some (t',g')):cZ 45 c mn cp t g t' g':=by
 unfold dZ at hs;rw[hpc]at hs;have ⟨hC,hS,hO,bP,bN,_,ai,hlen,_,aI,aC⟩:=h;unfold uw at hs;obtain⟨x,hx,hs⟩:=rd_some hs;cases hs;exact toW [] h hpc (fun _=>bM h (bV (gP bZ)) (aQ hx)) (fun _ _ _=>k0) (fun _=>aR) fun _=>(aT h 61).u 8 (aD (bV (gP bZ)) hx)
theorem ZrP (h:bL c mn cp t g)(hpc:t.pc=61)(hs:dZ c mn cp g t=some (t',g')):cZ 45 c mn cp t g t' g':=by
 unfold dZ at hs;rw[hpc]at hs;have ⟨hC,hS,hO,bP,bN,_,ai,hlen,_,aI,aC⟩:=h;obtain⟨x,hx,hs⟩:=rd_some hs;obtain⟨a,b,yM,hs⟩:=Je hs;have eD:=Gf yM;obtain⟨hb,hs⟩:=eY hs;split at hs
 ·rename_i dw
  cases hs;exact toW [a,b] h hpc (fun _=>af (af (af (af (bM h (gP bZ) (aQ hx)) (rE (-1) 32 z1)) (aN z1 bg)) (rE 0 64 z2)) (aN z2 Zs3)) (fun _ _ _=>k1 (wT (aD (gP bZ) hx) (h.w hx) (by assumption) (Says.si z1) (Says.si z2))) (fun _=>aR) fun _=>(aT h 62).u 11 (aD (gP bZ) hx)
 ·rename_i dw
  cases hs;exact toW [a,b] h hpc (fun _=>af (af (af (af (bM h (gP bZ) (aQ hx)) (rE (-1) 32 z1)) (aN z1 bg)) (rE 0 64 z2)) (dN z2 Zs3)) (fun _ _ _=>k1 (wT (aD (gP bZ) hx) (h.w hx) (by assumption) (Says.si z1) (Says.si z2))) (fun _=>aR) fun _=>((((aT h 80).n 6 (-1)).u 11 (aD (gP bZ) hx)).n 13 0).n 15 0
theorem ZrQ (h:bL c mn cp t g)(hpc:t.pc=62)(hs:dZ c mn cp g t=some (t',g')):cZ 45 c mn cp t g t' g':=by
 unfold dZ at hs;rw[hpc]at hs;have ⟨hC,hS,hO,bP,bN,_,ai,hlen,_,aI,aC⟩:=h;obtain⟨s,es,bC,hs⟩:=iZ hs;obtain⟨hi,hs⟩:=kR hs;cases hs;exact toW [] h hpc (fun _=>af (af (rE 0 32 (ak es)) (aN (ak es) bg)) (bM h (gT h (ak es)) hi)) (fun _ _ _=>k0) (fun _=>jB aR (gT h (ak es)) oH hi) fun _=>aT h 63
theorem ZrR (h:bL c mn cp t g)(hpc:t.pc=63)(hs:dZ c mn cp g t=some (t',g')):cZ 45 c mn cp t g t' g':=by
 unfold dZ at hs;rw[hpc]at hs;have ⟨hC,hS,hO,bP,bN,_,ai,hlen,_,aI,aC⟩:=h;obtain⟨s,es,bC,hs⟩:=iZ hs;obtain⟨a,b,yM,hs⟩:=Je hs;have eD:=Gf yM;obtain⟨hb,hs⟩:=eY hs;have xI:BM (s:Int) (b+1):=by
  unfold BM;omega
 obtain⟨p,q,hp,hq,hs⟩:=o5 hs;rcases hs with⟨rfl,rfl,hr⟩|⟨hne,hr⟩|⟨rfl,hne,hr⟩
 ·cases hr
  exact toW [a,b,((qF (s:Int) (b+1):Nat):Int)] h hpc (fun _=>af (af (af (af (af (af (af (rE 0 32 (ak es)) (aN (ak es) bg)) (rE (-1) 32 z1)) (aN z1 bg)) (rE 0 64 z2)) (fA h (gP bZ) (aQ hq))) (bU (aD (gP bZ) hp) oH)) (bU (aD (bV (gP bZ)) hq) l8)) (fun _ _ _=>k2 (wT oH (Qq (by assumption)) (by assumption) (Says.si z1) (Says.si z2)) (Ue (Says.si (ak es)) (Says.si (MN z2 (lE 1))) xI z3)) (fun _=>oW aR (gP bZ) z3 (C9 l8) (aQ hq) hlen.2) fun _=>(aT h 63).n 3 1
 ·cases hr
  exact toW [a,b,((qF (s:Int) (b+1):Nat):Int)] h hpc (fun _=>af (af (af (af (af (af (rE 0 32 (ak es)) (aN (ak es) bg)) (rE (-1) 32 z1)) (aN z1 bg)) (rE 0 64 z2)) (fA h (gP bZ) (aQ hq))) (dU (aD (gP bZ) hp) oH)) (fun _ _ _=>k2 (wT oH (Qq (by assumption)) (by assumption) (Says.si z1) (Says.si z2)) (Ue (Says.si (ak es)) (Says.si (MN z2 (lE 1))) xI z3)) (fun _=>aR) fun _=>aT h 60
 ·cases hr
  exact toW [a,b,((qF (s:Int) (b+1):Nat):Int)] h hpc (fun _=>af (af (af (af (af (af (af (rE 0 32 (ak es)) (aN (ak es) bg)) (rE (-1) 32 z1)) (aN z1 bg)) (rE 0 64 z2)) (fA h (gP bZ) (aQ hq))) (bU (aD (gP bZ) hp) oH)) (dU (aD (bV (gP bZ)) hq) l8)) (fun _ _ _=>k2 (wT oH (Qq (by assumption)) (by assumption) (Says.si z1) (Says.si z2)) (Ue (Says.si (ak es)) (Says.si (MN z2 (lE 1))) xI z3)) (fun _=>aR) fun _=>aT h 60
theorem ZrS (h:bL c mn cp t g)(hpc:t.pc=64)(hs:dZ c mn cp g t=some (t',g')):cZ 45 c mn cp t g t' g':=by
 unfold dZ at hs;rw[hpc]at hs;have ⟨hC,hS,hO,bP,bN,_,ai,hlen,_,aI,aC⟩:=h;obtain⟨s,es,bC,hs⟩:=iZ hs;obtain⟨x,hx,hs⟩:=rd_some hs;obtain⟨hb,hs⟩:=eY hs;split at hs
 ·rename_i dw
  cases hs;exact toW [] h hpc (fun _=>af (af (af (af (af (rE 0 32 (ak es)) (aN (ak es) bg)) (bM h (iM h) (aQ hx))) (rE 1 33 (aD (iM h) hx))) (dN (fe bg) (aD (iM h) hx))) (bU (tX (tH (aD (iM h) hx)) (lE 1)) (ak es))) (fun _ _ _=>k0) (fun _=>aR) fun _=>(aT h 66).n 14 (-1)
 ·rename_i dw
  cases hs;exact toW [] h hpc (fun _=>af (af (af (af (af (rE 0 32 (ak es)) (aN (ak es) bg)) (bM h (iM h) (aQ hx))) (rE 1 33 (aD (iM h) hx))) (dN (fe bg) (aD (iM h) hx))) (dU (tX (tH (aD (iM h) hx)) (lE 1)) (ak es))) (fun _ _ _=>k0) (fun _=>aR) fun _=>(aT h 65).i 14 (tX (tH (aD (iM h) hx)) (lE 1))
theorem ZrT (h:bL c mn cp t g)(hpc:t.pc=65)(hs:dZ c mn cp g t=some (t',g')):cZ 45 c mn cp t g t' g':=by
 unfold dZ at hs;rw[hpc]at hs;have ⟨hC,hS,hO,bP,bN,_,ai,hlen,_,aI,aC⟩:=h;obtain⟨s,es,bC,hs⟩:=iZ hs;obtain⟨sD,hs⟩:=eY hs;obtain⟨x,hx,hs⟩:=rd_some hs;obtain⟨hb,hs⟩:=eY hs;split at hs
 ·rename_i dw
  cases hs;exact toW [] h hpc (fun _=>af (af (af (af (af (af (af (rE 0 32 (ak es)) (aN (ak es) bg)) (rE 0 32 (nJ (by omega)))) (aN (nJ (by omega)) bg)) (bM h (gT h (nJ (by omega))) (aQ hx))) (rE 1 33 (aD (gT h (nJ (by omega))) hx))) (dN (fe bg) (aD (gT h (nJ (by omega))) hx))) (bU (tX (tH (aD (gT h (nJ (by omega))) hx)) (lE 1)) (ak es))) (fun _ _ _=>k0) (fun _=>aR) fun _=>aT h 66
 ·rename_i dw
  cases hs;exact toW [] h hpc (fun _=>af (af (af (af (af (af (af (rE 0 32 (ak es)) (aN (ak es) bg)) (rE 0 32 (nJ (by omega)))) (aN (nJ (by omega)) bg)) (bM h (gT h (nJ (by omega))) (aQ hx))) (rE 1 33 (aD (gT h (nJ (by omega))) hx))) (dN (fe bg) (aD (gT h (nJ (by omega))) hx))) (dU (tX (tH (aD (gT h (nJ (by omega))) hx)) (lE 1)) (ak es))) (fun _ _ _=>k0) (fun _=>aR) fun _=>(aT h 65).i 14 (tX (tH (aD (gT h (nJ (by omega))) hx)) (lE 1))
theorem ZrU (h:bL c mn cp t g)(hpc:t.pc=66)(hs:dZ c mn cp g t=some (t',g')):cZ 45 c mn cp t g t' g':=by
 unfold dZ at hs;rw[hpc]at hs;have ⟨hC,hS,hO,bP,bN,_,ai,hlen,_,aI,aC⟩:=h;obtain⟨s,es,bC,hs⟩:=iZ hs;obtain⟨x,hx,hs⟩:=rd_some hs;obtain⟨hb,hs⟩:=eY hs;cases hs;exact toW [] h hpc (fun _=>af (af (af (af (rE 0 32 (ak es)) (aN (ak es) bg)) (bM h (gT h (ak es)) (aQ hx))) (rE 0 33 (aD (gT h (ak es)) hx))) (dN (fe bg) (aD (gT h (ak es)) hx))) (fun _ _ _=>k0) (fun _=>aR) fun _=>(aT h 67).u 11 (aD (gT h (ak es)) hx)
theorem ZrV (h:bL c mn cp t g)(hpc:t.pc=67)(hs:dZ c mn cp g t=some (t',g')):cZ 45 c mn cp t g t' g':=by
 unfold dZ at hs;rw[hpc]at hs;have ⟨hC,hS,hO,bP,bN,_,ai,hlen,_,aI,aC⟩:=h;change(if t.bS = -1 then _ else _)=_ at hs;split at hs
 ·rename_i sD
  obtain⟨hi,hs⟩:=kR hs;cases hs;exact toW [] h hpc (fun _=>af (bM h (iM h) hi) (bU QJ (lE (-1)))) (fun _ _ _=>k0) (fun _=>jB aR (iM h) oH hi) fun _=>aT h 68
 ·rename_i sD
  obtain⟨hb,hs⟩:=eY hs;obtain⟨hi,hs⟩:=kR hs;cases hs;exact toW [] h hpc (fun _=>af (af (af (rE 0 32 (nJ (by omega))) (aN (nJ (by omega)) bg)) (bM h (gT h (nJ (by omega))) hi)) (dU (nJ (by omega)) (lE (-1)))) (fun _ _ _=>k0) (fun _=>jB aR (gT h (nJ (by omega))) oH hi) fun _=>aT h 68
theorem ZrW (h:bL c mn cp t g)(hpc:t.pc=68)(hs:dZ c mn cp g t=some (t',g')):cZ 45 c mn cp t g t' g':=by
 unfold dZ at hs;rw[hpc]at hs;have ⟨hC,hS,hO,bP,bN,_,ai,hlen,_,aI,aC⟩:=h;obtain⟨x,hx,hs⟩:=rd_some hs;obtain⟨hi,hs⟩:=kR hs;cases hs;exact toW [] h hpc (fun _=>bM h (pF h) (by first|exact hi|exact aQ hx)) (fun _ _ _=>k0) (fun _=>jB aR (pF h) (Ug (aD (pF h) hx)) (by first|exact hi|exact aQ hx)) fun _=>(aT h 76).n 15 0
theorem Zp5 (h:bL c mn cp t g)(hs:dZ c mn cp g t=some (t',g')):cZ 45 c mn cp t g t' g':=by
 have cO:=hs;unfold dZ at hs;split at hs
 ·exact ZrE h (by assumption) cO
 ·exact ZrF h (by assumption) cO
 ·exact ZrG h (by assumption) cO
 ·exact ZrH h (by assumption) cO
 ·exact ZrI h (by assumption) cO
 ·exact ZrJ h (by assumption) cO
 ·exact ZrK h (by assumption) cO
 ·exact ZrL h (by assumption) cO
 ·exact ZrM h (by assumption) cO
 ·exact ZrN h (by assumption) cO
 ·exact ZrO h (by assumption) cO
 ·exact ZrP h (by assumption) cO
 ·exact ZrQ h (by assumption) cO
 ·exact ZrR h (by assumption) cO
 ·exact ZrS h (by assumption) cO
 ·exact ZrT h (by assumption) cO
 ·exact ZrU h (by assumption) cO
 ·exact ZrV h (by assumption) cO
 ·exact ZrW h (by assumption) cO
 ·cases hs
end
end Cw
end Go.Proofs.YtfcpdlbkmkhhcaaGreatDoor
