/-
  Texts of this claim, joined. No condition.
-/
import Derived.Test.YtfcpdlbkmkhhcaaGreatDoorCn19
namespace Go.Proofs.YtfcpdlbkmkhhcaaGreatDoor.Cw
open Go Ex Mem See
open Go.RowKit
section
variable {c:Ch}{mn cp:Nat}{t t':Tk}{g g':List Nat}
theorem Zqk (h:ZaU c mn cp t g)(hpc:t.pc=70)(hs:Zaf c mn g t=some (t',g')):Zae 46 c mn cp t g t' g':=by
 unfold Zaf at hs
 rw [hpc] at hs
 have ⟨hC,hS,hO,hmn,hcp,_,hcpu,hlen,_,hfin,hwant⟩:=h
 obtain ⟨hfor,hs⟩:=Zad hs
 unfold ZeO at hs
 obtain ⟨x,hx,hs⟩:=rd_some hs
 cases hs
 exact toW [] h hpc (fun _=>fap (fap (rE 0 8 (eFo hfor.1)) (ltE (eFo hfor.1) ZiN)) (a1E h (p1E (hdE (eFo hfor.1))) (Zaa hx))) (fun _ _ _=>k0) (fun _=>ls0) fun _=>(rs0 h 71).u 8 (Zam (p1E (hdE (eFo hfor.1))) hx)
theorem Zql (h:ZaU c mn cp t g)(hpc:t.pc=71)(hs:Zaf c mn g t=some (t',g')):Zae 46 c mn cp t g t' g':=by
 unfold Zaf at hs
 rw [hpc] at hs
 have ⟨hC,hS,hO,hmn,hcp,_,hcpu,hlen,_,hfin,hwant⟩:=h
 obtain ⟨hfor,hs⟩:=Zad hs
 obtain ⟨x,hx,hs⟩:=rd_some hs
 obtain ⟨a,b,hho,hs⟩:=Zfw hs
 have hge:=ZgE hho
 split at hs
 ·rename_i hx0
  obtain ⟨hb,hs⟩:=Zad hs
  cases hs
  subst hx0 hb
  exact toW [] h hpc (fun _=>fap (fap (rE 0 8 (eFo hfor.1)) (ltE (eFo hfor.1) ZiN)) (a1E h (hdE (eFo hfor.1)) (Zaa hx))) (fun _ _ _=>k1 (ZcB (Zam (hdE (eFo hfor.1)) hx) (h.w hx) (by assumption) Says.li Says.li)) (fun _=>ls0) fun _=>(((rs0 h 73).n 5 (-1)).n 6 (-1)).u 7 (Zam (hdE (eFo hfor.1)) hx)
 ·rename_i hx0
  obtain ⟨hb,hs⟩:=Zad hs
  cases hs
  exact toW [a,b] h hpc (fun _=>fap (fap (fap (fap (fap (fap (rE 0 8 (eFo hfor.1)) (ltE (eFo hfor.1) ZiN)) (a1E h (hdE (eFo hfor.1)) (Zaa hx))) (rE 0 32 z1)) (ltE z1 ZaH)) (rE (-1) 16 z2)) (ltE z2 Za3)) (fun _ _ _=>k1 (ZcB (Zam (hdE (eFo hfor.1)) hx) (h.w hx) (by assumption) (Says.si z1) (Says.si z2))) (fun _=>ls0) fun _=>(((rs0 h 72).i 5 z1).i 6 z2).u 7 (Zam (hdE (eFo hfor.1)) hx)
theorem Zqm (h:ZaU c mn cp t g)(hpc:t.pc=72)(hs:Zaf c mn g t=some (t',g')):Zae 46 c mn cp t g t' g':=by
 unfold Zaf at hs
 rw [hpc] at hs
 have ⟨hC,hS,hO,hmn,hcp,_,hcpu,hlen,_,hfin,hwant⟩:=h
 obtain ⟨hfor,hs⟩:=Zad hs
 obtain ⟨p,q,hp,hq,hs⟩:=ZaI hs
 rcases hs with ⟨rfl,rfl,hr⟩ | ⟨hne,hr⟩ | ⟨rfl,hne,hr⟩
 ·cases hr
  exact toW [] h hpc (fun _=>fap (fap (fap (fap (rE 0 8 (eFo hfor.1)) (ltE (eFo hfor.1) ZiN)) (a2E h (hdE (eFo hfor.1)) (Zaa hq))) (eqE (Zam (hdE (eFo hfor.1)) hp) Zkn)) (eqE (Zam (p1E (hdE (eFo hfor.1))) hq) Zf0)) (fun _ _ _=>k0) (fun _=>s2E ls0 (hdE (eFo hfor.1)) (lM 0) (ZdA Zf0) (Zaa hq) hlen.2) fun _=>((rs0 h 80).n 13 0).n 15 73
 ·cases hr
  exact toW [] h hpc (fun _=>fap (fap (fap (rE 0 8 (eFo hfor.1)) (ltE (eFo hfor.1) ZiN)) (a2E h (hdE (eFo hfor.1)) (Zaa hq))) (neE (Zam (hdE (eFo hfor.1)) hp) Zkn)) (fun _ _ _=>k0) (fun _=>ls0) fun _=>rs0 h 70
 ·cases hr
  exact toW [] h hpc (fun _=>fap (fap (fap (fap (rE 0 8 (eFo hfor.1)) (ltE (eFo hfor.1) ZiN)) (a2E h (hdE (eFo hfor.1)) (Zaa hq))) (eqE (Zam (hdE (eFo hfor.1)) hp) Zkn)) (neE (Zam (p1E (hdE (eFo hfor.1))) hq) Zf0)) (fun _ _ _=>k0) (fun _=>ls0) fun _=>rs0 h 70
theorem Zqn (h:ZaU c mn cp t g)(hpc:t.pc=73)(hs:Zaf c mn g t=some (t',g')):Zae 46 c mn cp t g t' g':=by
 unfold Zaf at hs
 rw [hpc] at hs
 have ⟨hC,hS,hO,hmn,hcp,_,hcpu,hlen,_,hfin,hwant⟩:=h
 obtain ⟨hfor,hs⟩:=Zad hs
 unfold ZeO at hs
 obtain ⟨x,hx,hs⟩:=rd_some hs
 cases hs
 exact toW [] h hpc (fun _=>fap (fap (rE 0 8 (eFo hfor.1)) (ltE (eFo hfor.1) ZiN)) (a1E h (p1E (ptE (eFo hfor.1))) (Zaa hx))) (fun _ _ _=>k0) (fun _=>ls0) fun _=>(rs0 h 74).u 8 (Zam (p1E (ptE (eFo hfor.1))) hx)
theorem Zqo (h:ZaU c mn cp t g)(hpc:t.pc=74)(hs:Zaf c mn g t=some (t',g')):Zae 46 c mn cp t g t' g':=by
 unfold Zaf at hs
 rw [hpc] at hs
 have ⟨hC,hS,hO,hmn,hcp,_,hcpu,hlen,_,hfin,hwant⟩:=h
 obtain ⟨hfor,hs⟩:=Zad hs
 obtain ⟨x,hx,hs⟩:=rd_some hs
 obtain ⟨a,b,hpo,hs⟩:=Zcs hs
 have hge:=ZcI hpo
 split at hs
 ·rename_i hx0
  obtain ⟨hb,hs⟩:=Zad hs
  cases hs
  subst hx0 hb
  exact toW [] h hpc (fun _=>fap (fap (rE 0 8 (eFo hfor.1)) (ltE (eFo hfor.1) ZiN)) (a1E h (ptE (eFo hfor.1)) (Zaa hx))) (fun _ _ _=>k1 (Zbf (Zam (ptE (eFo hfor.1)) hx) (h.w hx) (by assumption) Says.li Says.li)) (fun _=>ls0) fun _=>((rs0 h 74).n 3 1).u 11 (Zam (ptE (eFo hfor.1)) hx)
 ·rename_i hx0
  obtain ⟨hb,hs⟩:=Zad hs
  cases hs
  exact toW [a,b] h hpc (fun _=>fap (fap (fap (fap (fap (rE 0 8 (eFo hfor.1)) (ltE (eFo hfor.1) ZiN)) (a1E h (ptE (eFo hfor.1)) (Zaa hx))) (rE 0 32 z1)) (ltE z1 ZaH)) (rE 0 64 z2)) (fun _ _ _=>k1 (Zbf (Zam (ptE (eFo hfor.1)) hx) (h.w hx) (by assumption) (Says.si z1) (Says.si z2))) (fun _=>ls0) fun _=>(rs0 h 75).u 11 (Zam (ptE (eFo hfor.1)) hx)
theorem Zqp (h:ZaU c mn cp t g)(hpc:t.pc=75)(hs:Zaf c mn g t=some (t',g')):Zae 46 c mn cp t g t' g':=by
 unfold Zaf at hs
 rw [hpc] at hs
 have ⟨hC,hS,hO,hmn,hcp,_,hcpu,hlen,_,hfin,hwant⟩:=h
 obtain ⟨hfor,hs⟩:=Zad hs
 obtain ⟨p,q,hp,hq,hs⟩:=ZaI hs
 rcases hs with ⟨rfl,rfl,hr⟩ | ⟨hne,hr⟩ | ⟨rfl,hne,hr⟩
 ·cases hr
  exact toW [] h hpc (fun _=>fap (fap (fap (fap (rE 0 8 (eFo hfor.1)) (ltE (eFo hfor.1) ZiN)) (a2E h (ptE (eFo hfor.1)) (Zaa hq))) (eqE (Zam (ptE (eFo hfor.1)) hp) Zhp)) (eqE (Zam (p1E (ptE (eFo hfor.1))) hq) Zf0)) (fun _ _ _=>k0) (fun _=>s2E ls0 (ptE (eFo hfor.1)) (lM 0) (ZdA Zf0) (Zaa hq) hlen.2) fun _=>(rs0 h 79).u 7 Zhp
 ·cases hr
  exact toW [] h hpc (fun _=>fap (fap (fap (rE 0 8 (eFo hfor.1)) (ltE (eFo hfor.1) ZiN)) (a2E h (ptE (eFo hfor.1)) (Zaa hq))) (neE (Zam (ptE (eFo hfor.1)) hp) Zhp)) (fun _ _ _=>k0) (fun _=>ls0) fun _=>rs0 h 73
 ·cases hr
  exact toW [] h hpc (fun _=>fap (fap (fap (fap (rE 0 8 (eFo hfor.1)) (ltE (eFo hfor.1) ZiN)) (a2E h (ptE (eFo hfor.1)) (Zaa hq))) (eqE (Zam (ptE (eFo hfor.1)) hp) Zhp)) (neE (Zam (p1E (ptE (eFo hfor.1))) hq) Zf0)) (fun _ _ _=>k0) (fun _=>ls0) fun _=>rs0 h 73
theorem Zqs (h:ZaU c mn cp t g)(hpc:t.pc=79)(hs:Zaf c mn g t=some (t',g')):Zae 46 c mn cp t g t' g':=by
 unfold Zaf at hs
 rw [hpc] at hs
 have ⟨hC,hS,hO,hmn,hcp,_,hcpu,hlen,_,hfin,hwant⟩:=h
 obtain ⟨a,b,hpo,hs⟩:=Zcs hs
 have hge:=ZcI hpo
 obtain ⟨hb,hs⟩:=Zad hs
 obtain ⟨s,rfl⟩:=Int.eq_ofNat_of_zero_le hb.1
 rw [Int.toNat_natCast] at hs
 obtain ⟨x,hx,hs⟩:=rd_some hs
 obtain ⟨a',b',hpo',hs⟩:=Zcs hs
 have hge':=ZcI hpo'
 obtain ⟨hb',hs⟩:=Zad hs
 cases hs
 exact toW [(s:Int),b,0,0,a',b'] h hpc (fun _=>fap (fap (fap (fap (fap (fap (rE 0 32 z1) (ltE z1 ZaH)) (rE 0 64 z2)) (a1E h (nxE h z1) (Zaa hx))) (rE (-1) 32 z5)) (ltE z5 ZaH)) (rE 0 64 z6)) (fun _ _ _=>k2 (Zbf Zkn (ZlQ (by assumption)) (by assumption) (Says.si z1) (Says.si z2)) (Zbf (Zam (nxE h z1) hx) (h.w hx) (by assumption) (Says.si z5) (Says.si z6))) (fun _=>ls0) fun _=>(((((rs0 h 80).i 5 z1).n 6 (-1)).u 7 (Zam (nxE h z1) hx)).n 13 0).n 15 79
theorem Zqt (h:ZaU c mn cp t g)(hpc:t.pc=80)(hs:Zaf c mn g t=some (t',g')):Zae 46 c mn cp t g t' g':=by
 unfold Zaf at hs
 rw [hpc] at hs
 have ⟨hC,hS,hO,hmn,hcp,_,hcpu,hlen,_,hfin,hwant⟩:=h
 obtain ⟨x,hx,hs⟩:=rd_some hs
 split at hs
 ·rename_i hx0
  split at hs
  ·rename_i hob
   obtain ⟨hi,hs⟩:=ZaM hs
   cases hs
   exact toW [] h hpc (fun _=>fap (fap (a1E h (baE h) (by first | exact hi | exact Zaa hx)) (eqE (Zam (baE h) hx) (lE 0))) (ltE ZaT (lE 0))) (fun _ _ _=>k0) (fun _=>s1E ls0 (baE h) (lM 1) (by first | exact hi | exact Zaa hx)) fun _=>rs0 h 84
  ·rename_i hob
   obtain ⟨hi,hs⟩:=ZaM hs
   cases hs
   exact toW [] h hpc (fun _=>fap (fap (a1E h (baE h) (by first | exact hi | exact Zaa hx)) (eqE (Zam (baE h) hx) (lE 0))) (geE ZaT (lE 0))) (fun _ _ _=>k0) (fun _=>s1E ls0 (baE h) (lM 1) (by first | exact hi | exact Zaa hx)) fun _=>(rs0 h 81).i 12 ZaT
 ·rename_i hx0
  cases hs
  exact toW [] h hpc (fun _=>fap (a1E h (baE h) (by first | exact hi | exact Zaa hx)) (neE (Zam (baE h) hx) (lE 0))) (fun _ _ _=>k0) (fun _=>ls0) fun _=>rsS h hpc
theorem Zqu (h:ZaU c mn cp t g)(hpc:t.pc=81)(hs:Zaf c mn g t=some (t',g')):Zae 46 c mn cp t g t' g':=by
 unfold Zaf at hs
 rw [hpc] at hs
 have ⟨hC,hS,hO,hmn,hcp,_,hcpu,hlen,_,hfin,hwant⟩:=h
 obtain ⟨s,es,hsl,hs⟩:=Zaj hs
 obtain ⟨o,eo,hol,hs⟩:=Zbv hs
 obtain ⟨hmy,hs⟩:=Zad hs
 obtain ⟨x,hx,hs⟩:=rd_some hs
 split at hs
 ·cases hs
 ·rename_i y hsh
  have hy:=Zfg hsh
  split at hs
  ·rename_i hx0
   cases hs
   subst hx0
   exact toW [] h hpc (fun _=>fap (fap (fap (fap (fap (rE 0 32 (eSl es)) (ltE (eSl es) ZaH)) (rE 0 16 (eLa eo))) (ltE (eLa eo) Za3)) (rE 0 16 ZcN)) (a1E h (liE h (eSl es) (eLa eo)) (Zaa hx))) (fun _ _ _=>k1 (ZgL (Zam (liE h (eSl es) (eLa eo)) hx) (h.w hx) (kyE (eSl es)) (Nat.mod_lt _ (by omega)) (eLa eo) (by omega) (by assumption) Says.li)) (fun _=>ls0) fun _=>(rs0 h 84).i 13 (adE ZcN (lE 1))
  ·rename_i hx0
   obtain ⟨hb,hs⟩:=Zad hs
   cases hs
   exact toW [y] h hpc (fun _=>fap (fap (fap (fap (fap (fap (fap (rE 0 32 (eSl es)) (ltE (eSl es) ZaH)) (rE 0 16 (eLa eo))) (ltE (eLa eo) Za3)) (rE 0 16 ZcN)) (a1E h (liE h (eSl es) (eLa eo)) (Zaa hx))) (rE 0 16 z1)) (ltE z1 Za3)) (fun _ _ _=>k1 (ZgL (Zam (liE h (eSl es) (eLa eo)) hx) (h.w hx) (kyE (eSl es)) (Nat.mod_lt _ (by omega)) (eLa eo) (by omega) (by assumption) (Says.si z1))) (fun _=>ls0) fun _=>((rs0 h 81).i 12 z1).i 13 (adE ZcN (lE 1))
theorem Zqv (h:ZaU c mn cp t g)(hpc:t.pc=84)(hs:Zaf c mn g t=some (t',g')):Zae 46 c mn cp t g t' g':=by
 unfold Zaf at hs
 rw [hpc] at hs
 have ⟨hC,hS,hO,hmn,hcp,_,hcpu,hlen,_,hfin,hwant⟩:=h
 obtain ⟨s,es,hsl,hs⟩:=Zaj hs
 obtain ⟨x,hx,hs⟩:=rd_some hs
 obtain ⟨hb,hs⟩:=Zad hs
 cases hs
 exact toW [] h hpc (fun _=>fap (fap (fap (fap (rE 0 32 (eSl es)) (ltE (eSl es) ZaH)) (a1E h (fiE h (eSl es)) (Zaa hx))) (rE 0 17 (Zam (fiE h (eSl es)) hx))) (geE (cuE Za3) (Zam (fiE h (eSl es)) hx))) (fun _ _ _=>k0) (fun _=>ls0) fun _=>(rs0 h 85).u 9 (Zam (fiE h (eSl es)) hx)
theorem Zqw (h:ZaU c mn cp t g)(hpc:t.pc=85)(hs:Zaf c mn g t=some (t',g')):Zae 46 c mn cp t g t' g':=by
 unfold Zaf at hs
 rw [hpc] at hs
 have ⟨hC,hS,hO,hmn,hcp,_,hcpu,hlen,_,hfin,hwant⟩:=h
 obtain ⟨s,es,hsl,hs⟩:=Zaj hs
 obtain ⟨x,hx,hs⟩:=rd_some hs
 obtain ⟨k,hk,hl,h1,h2,h3,hs⟩:=Za5 hs
 obtain ⟨⟨hfz,hmy⟩,hs⟩:=Zad hs
 by_cases hx0:t.obj<0
 ·rw [if_pos hx0] at hs
  cases hs
  exact toW [(k.inuse:Int),(k.objects:Int)] h hpc (fun _=>fap (fap (fap (fap (fap (fap (fap (rE 0 32 (eSl es)) (ltE (eSl es) ZaH)) (a1E h (p1E (fiE h (eSl es))) (Zaa hx))) (rE 0 17 z1)) (rE 1 17 z2)) (rE 0 17 ZcN)) (geE z1 ZcN)) (ltE ZaT (lE 0))) (fun _ _ _=>k1 (Zah (Zam (p1E (fiE h (eSl es))) hx) (h.w hx) hk hl (Says.si z1) (Says.si z2) (by rw [hfz]; exact Says.bool))) (fun _=>ls0) fun _=>(rs0 h 87).u 10 (Zam (p1E (fiE h (eSl es))) hx)
 ·rw [if_neg hx0] at hs
  cases hs
  exact toW [(k.inuse:Int),(k.objects:Int)] h hpc (fun _=>fap (fap (fap (fap (fap (fap (fap (rE 0 32 (eSl es)) (ltE (eSl es) ZaH)) (a1E h (p1E (fiE h (eSl es))) (Zaa hx))) (rE 0 17 z1)) (rE 1 17 z2)) (rE 0 17 ZcN)) (geE z1 ZcN)) (geE ZaT (lE 0))) (fun _ _ _=>k1 (Zah (Zam (p1E (fiE h (eSl es))) hx) (h.w hx) hk hl (Says.si z1) (Says.si z2) (by rw [hfz]; exact Says.bool))) (fun _=>ls0) fun _=>(rs0 h 86).u 10 (Zam (p1E (fiE h (eSl es))) hx)
theorem Zqx (h:ZaU c mn cp t g)(hpc:t.pc=86)(hs:Zaf c mn g t=some (t',g')):Zae 46 c mn cp t g t' g':=by
 unfold Zaf at hs
 rw [hpc] at hs
 have ⟨hC,hS,hO,hmn,hcp,_,hcpu,hlen,_,hfin,hwant⟩:=h
 obtain ⟨s,es,hsl,hs⟩:=Zaj hs
 obtain ⟨o,eo,hol,hs⟩:=Zbv hs
 obtain ⟨hF2,hs⟩:=Zad hs
 obtain ⟨hi,hs⟩:=ZaM hs
 cases hs
 exact toW [0,0,0,((ZaR ((t.F:Int) - 1) (See.keyOf c.key s) o:Nat):Int)] h hpc (fun _=>fap (fap (fap (fap (fap (fap (rE 0 32 (eSl es)) (ltE (eSl es) ZaH)) (rE 0 16 (eLa eo))) (ltE (eLa eo) Za3)) (a1E h (liE h (eSl es) (eLa eo)) hi)) (rE 0 17 ZaG)) (geE (cuE Za3) ZaG)) (fun _ _ _=>k1 (ZdO (Says.si (sbE (ciE ZaG) (lE 1))) (kyE (eSl es)) (Nat.mod_lt _ (by omega)) (Says.si (eLa eo)) (by omega) (by omega) z4)) (fun _=>s1E ls0 (liE h (eSl es) (eLa eo)) z4 hi) fun _=>rs0 h 87
theorem Zqy (h:ZaU c mn cp t g)(hpc:t.pc=87)(hs:Zaf c mn g t=some (t',g')):Zae 46 c mn cp t g t' g':=by
 unfold Zaf at hs
 rw [hpc] at hs
 have ⟨hC,hS,hO,hmn,hcp,_,hcpu,hlen,_,hfin,hwant⟩:=h
 obtain ⟨s,es,hsl,hs⟩:=Zaj hs
 obtain ⟨k,hk,hl,h1,h2,h3,hs⟩:=Za5 hs
 obtain ⟨⟨hfz,hm0,hm1,ho0,ho1,hF2⟩,hs⟩:=Zad hs
 by_cases hob:t.obj<0
 ·simp only [if_pos hob] at hs
  by_cases hF0:t.F=0
  ·rw [if_pos ⟨hob,hF0⟩] at hs
   obtain ⟨p,q,hp,hq,hs⟩:=ZaI hs
   rcases hs with ⟨rfl,rfl,hr⟩ | ⟨hne,hr⟩ | ⟨rfl,hne,hr⟩
   ·cases hr
    exact toW [(k.inuse:Int),(k.objects:Int),0,((Zat (k.inuse - t.many.toNat) k.objects false true:Nat):Int)] h hpc (fun _=>fap (fap (fap (fap (fap (fap (fap (fap (fap (fap (fap (fap (fap (fap (rE 0 32 (eSl es)) (ltE (eSl es) ZaH)) (rE 0 17 z1)) (rE 1 17 z2)) (rE 0 17 (eMm hm0))) (rE (-1) 16 ZaT)) (ltE ZaT Za3)) (geE z1 (eMm hm0))) (rE 0 17 ZaG)) (geE (cuE Za3) ZaG)) (ltE ZaT (lE 0))) (eqE ZaG (lE 0))) (a2E h (fiE h (eSl es)) (Zaa hq))) (eqE (Zam (fiE h (eSl es)) hp) ZaG)) (eqE (Zam (p1E (fiE h (eSl es))) hq) ZbH)) (fun _ _ _=>k2 (Zah ZbH (ZaJ (by assumption)) hk hl (Says.si z1) (Says.si z2) (by rw [hfz]; exact Says.bool)) (Zaz (Says.si (sbN z1 (eMm hm0))) (Says.si z2) Says.bool (by omega) (by omega) (by omega) z4)) (fun _=>s2E ls0 (fiE h (eSl es)) ZaG z4 (Zaa hq) hlen.2) fun _=>(rs0 h 94).u 10 z4
   ·cases hr
    exact toW [(k.inuse:Int),(k.objects:Int),0,((Zat (k.inuse - t.many.toNat) k.objects false true:Nat):Int)] h hpc (fun _=>fap (fap (fap (fap (fap (fap (fap (fap (fap (fap (fap (fap (fap (rE 0 32 (eSl es)) (ltE (eSl es) ZaH)) (rE 0 17 z1)) (rE 1 17 z2)) (rE 0 17 (eMm hm0))) (rE (-1) 16 ZaT)) (ltE ZaT Za3)) (geE z1 (eMm hm0))) (rE 0 17 ZaG)) (geE (cuE Za3) ZaG)) (ltE ZaT (lE 0))) (eqE ZaG (lE 0))) (a2E h (fiE h (eSl es)) (Zaa hq))) (neE (Zam (fiE h (eSl es)) hp) ZaG)) (fun _ _ _=>k2 (Zah ZbH (ZaJ (by assumption)) hk hl (Says.si z1) (Says.si z2) (by rw [hfz]; exact Says.bool)) (Zaz (Says.si (sbN z1 (eMm hm0))) (Says.si z2) Says.bool (by omega) (by omega) (by omega) z4)) (fun _=>ls0) fun _=>rs0 h 84
   ·cases hr
    exact toW [(k.inuse:Int),(k.objects:Int),0,((Zat (k.inuse - t.many.toNat) k.objects false true:Nat):Int)] h hpc (fun _=>fap (fap (fap (fap (fap (fap (fap (fap (fap (fap (fap (fap (fap (fap (rE 0 32 (eSl es)) (ltE (eSl es) ZaH)) (rE 0 17 z1)) (rE 1 17 z2)) (rE 0 17 (eMm hm0))) (rE (-1) 16 ZaT)) (ltE ZaT Za3)) (geE z1 (eMm hm0))) (rE 0 17 ZaG)) (geE (cuE Za3) ZaG)) (ltE ZaT (lE 0))) (eqE ZaG (lE 0))) (a2E h (fiE h (eSl es)) (Zaa hq))) (eqE (Zam (fiE h (eSl es)) hp) ZaG)) (neE (Zam (p1E (fiE h (eSl es))) hq) ZbH)) (fun _ _ _=>k2 (Zah ZbH (ZaJ (by assumption)) hk hl (Says.si z1) (Says.si z2) (by rw [hfz]; exact Says.bool)) (Zaz (Says.si (sbN z1 (eMm hm0))) (Says.si z2) Says.bool (by omega) (by omega) (by omega) z4)) (fun _=>ls0) fun _=>rs0 h 84
  ·rw [if_neg (fun hh=>hF0 hh.2)] at hs
   by_cases hx0:k.inuse - t.many.toNat=0
   ·rw [if_pos hx0] at hs
    obtain ⟨p,q,hp,hq,hs⟩:=ZaI hs
    rcases hs with ⟨rfl,rfl,hr⟩ | ⟨hne,hr⟩ | ⟨rfl,hne,hr⟩
    ·cases hr
     exact toW [(k.inuse:Int),(k.objects:Int),0,((Zat (k.inuse - t.many.toNat) k.objects false true:Nat):Int)] h hpc (fun _=>fap (fap (fap (fap (fap (fap (fap (fap (fap (fap (fap (fap (fap (fap (fap (rE 0 32 (eSl es)) (ltE (eSl es) ZaH)) (rE 0 17 z1)) (rE 1 17 z2)) (rE 0 17 (eMm hm0))) (rE (-1) 16 ZaT)) (ltE ZaT Za3)) (geE z1 (eMm hm0))) (rE 0 17 ZaG)) (geE (cuE Za3) ZaG)) (ltE ZaT (lE 0))) (neE ZaG (lE 0))) (eqE (sbN z1 (eMm hm0)) (lE 0))) (a2E h (fiE h (eSl es)) (Zaa hq))) (eqE (Zam (fiE h (eSl es)) hp) ZaG)) (eqE (Zam (p1E (fiE h (eSl es))) hq) ZbH)) (fun _ _ _=>k2 (Zah ZbH (ZaJ (by assumption)) hk hl (Says.si z1) (Says.si z2) (by rw [hfz]; exact Says.bool)) (Zaz (Says.si (sbN z1 (eMm hm0))) (Says.si z2) Says.bool (by omega) (by omega) (by omega) z4)) (fun _=>s2E ls0 (fiE h (eSl es)) ZaG z4 (Zaa hq) hlen.2) fun _=>(rs0 h 88).u 10 z4
    ·cases hr
     exact toW [(k.inuse:Int),(k.objects:Int),0,((Zat (k.inuse - t.many.toNat) k.objects false true:Nat):Int)] h hpc (fun _=>fap (fap (fap (fap (fap (fap (fap (fap (fap (fap (fap (fap (fap (fap (rE 0 32 (eSl es)) (ltE (eSl es) ZaH)) (rE 0 17 z1)) (rE 1 17 z2)) (rE 0 17 (eMm hm0))) (rE (-1) 16 ZaT)) (ltE ZaT Za3)) (geE z1 (eMm hm0))) (rE 0 17 ZaG)) (geE (cuE Za3) ZaG)) (ltE ZaT (lE 0))) (neE ZaG (lE 0))) (eqE (sbN z1 (eMm hm0)) (lE 0))) (a2E h (fiE h (eSl es)) (Zaa hq))) (neE (Zam (fiE h (eSl es)) hp) ZaG)) (fun _ _ _=>k2 (Zah ZbH (ZaJ (by assumption)) hk hl (Says.si z1) (Says.si z2) (by rw [hfz]; exact Says.bool)) (Zaz (Says.si (sbN z1 (eMm hm0))) (Says.si z2) Says.bool (by omega) (by omega) (by omega) z4)) (fun _=>ls0) fun _=>rs0 h 84
    ·cases hr
     exact toW [(k.inuse:Int),(k.objects:Int),0,((Zat (k.inuse - t.many.toNat) k.objects false true:Nat):Int)] h hpc (fun _=>fap (fap (fap (fap (fap (fap (fap (fap (fap (fap (fap (fap (fap (fap (fap (rE 0 32 (eSl es)) (ltE (eSl es) ZaH)) (rE 0 17 z1)) (rE 1 17 z2)) (rE 0 17 (eMm hm0))) (rE (-1) 16 ZaT)) (ltE ZaT Za3)) (geE z1 (eMm hm0))) (rE 0 17 ZaG)) (geE (cuE Za3) ZaG)) (ltE ZaT (lE 0))) (neE ZaG (lE 0))) (eqE (sbN z1 (eMm hm0)) (lE 0))) (a2E h (fiE h (eSl es)) (Zaa hq))) (eqE (Zam (fiE h (eSl es)) hp) ZaG)) (neE (Zam (p1E (fiE h (eSl es))) hq) ZbH)) (fun _ _ _=>k2 (Zah ZbH (ZaJ (by assumption)) hk hl (Says.si z1) (Says.si z2) (by rw [hfz]; exact Says.bool)) (Zaz (Says.si (sbN z1 (eMm hm0))) (Says.si z2) Says.bool (by omega) (by omega) (by omega) z4)) (fun _=>ls0) fun _=>rs0 h 84
   ·rw [if_neg hx0] at hs
    obtain ⟨p,q,hp,hq,hs⟩:=ZaI hs
    rcases hs with ⟨rfl,rfl,hr⟩ | ⟨hne,hr⟩ | ⟨rfl,hne,hr⟩
    ·cases hr
     exact toW [(k.inuse:Int),(k.objects:Int),0,((Zat (k.inuse - t.many.toNat) k.objects false true:Nat):Int)] h hpc (fun _=>fap (fap (fap (fap (fap (fap (fap (fap (fap (fap (fap (fap (fap (fap (fap (rE 0 32 (eSl es)) (ltE (eSl es) ZaH)) (rE 0 17 z1)) (rE 1 17 z2)) (rE 0 17 (eMm hm0))) (rE (-1) 16 ZaT)) (ltE ZaT Za3)) (geE z1 (eMm hm0))) (rE 0 17 ZaG)) (geE (cuE Za3) ZaG)) (ltE ZaT (lE 0))) (neE ZaG (lE 0))) (neE (sbN z1 (eMm hm0)) (lE 0))) (a2E h (fiE h (eSl es)) (Zaa hq))) (eqE (Zam (fiE h (eSl es)) hp) ZaG)) (eqE (Zam (p1E (fiE h (eSl es))) hq) ZbH)) (fun _ _ _=>k2 (Zah ZbH (ZaJ (by assumption)) hk hl (Says.si z1) (Says.si z2) (by rw [hfz]; exact Says.bool)) (Zaz (Says.si (sbN z1 (eMm hm0))) (Says.si z2) Says.bool (by omega) (by omega) (by omega) z4)) (fun _=>s2E ls0 (fiE h (eSl es)) ZaG z4 (Zaa hq) hlen.2) fun _=>(rs0 h 90).u 10 z4
    ·cases hr
     exact toW [(k.inuse:Int),(k.objects:Int),0,((Zat (k.inuse - t.many.toNat) k.objects false true:Nat):Int)] h hpc (fun _=>fap (fap (fap (fap (fap (fap (fap (fap (fap (fap (fap (fap (fap (fap (rE 0 32 (eSl es)) (ltE (eSl es) ZaH)) (rE 0 17 z1)) (rE 1 17 z2)) (rE 0 17 (eMm hm0))) (rE (-1) 16 ZaT)) (ltE ZaT Za3)) (geE z1 (eMm hm0))) (rE 0 17 ZaG)) (geE (cuE Za3) ZaG)) (ltE ZaT (lE 0))) (neE ZaG (lE 0))) (neE (sbN z1 (eMm hm0)) (lE 0))) (a2E h (fiE h (eSl es)) (Zaa hq))) (neE (Zam (fiE h (eSl es)) hp) ZaG)) (fun _ _ _=>k2 (Zah ZbH (ZaJ (by assumption)) hk hl (Says.si z1) (Says.si z2) (by rw [hfz]; exact Says.bool)) (Zaz (Says.si (sbN z1 (eMm hm0))) (Says.si z2) Says.bool (by omega) (by omega) (by omega) z4)) (fun _=>ls0) fun _=>rs0 h 84
    ·cases hr
     exact toW [(k.inuse:Int),(k.objects:Int),0,((Zat (k.inuse - t.many.toNat) k.objects false true:Nat):Int)] h hpc (fun _=>fap (fap (fap (fap (fap (fap (fap (fap (fap (fap (fap (fap (fap (fap (fap (rE 0 32 (eSl es)) (ltE (eSl es) ZaH)) (rE 0 17 z1)) (rE 1 17 z2)) (rE 0 17 (eMm hm0))) (rE (-1) 16 ZaT)) (ltE ZaT Za3)) (geE z1 (eMm hm0))) (rE 0 17 ZaG)) (geE (cuE Za3) ZaG)) (ltE ZaT (lE 0))) (neE ZaG (lE 0))) (neE (sbN z1 (eMm hm0)) (lE 0))) (a2E h (fiE h (eSl es)) (Zaa hq))) (eqE (Zam (fiE h (eSl es)) hp) ZaG)) (neE (Zam (p1E (fiE h (eSl es))) hq) ZbH)) (fun _ _ _=>k2 (Zah ZbH (ZaJ (by assumption)) hk hl (Says.si z1) (Says.si z2) (by rw [hfz]; exact Says.bool)) (Zaz (Says.si (sbN z1 (eMm hm0))) (Says.si z2) Says.bool (by omega) (by omega) (by omega) z4)) (fun _=>ls0) fun _=>rs0 h 84
 ·simp only [if_neg hob] at hs
  rw [if_neg (fun hh=>hob hh.1)] at hs
  obtain ⟨o,eo⟩:∃ o:Nat,t.obj=(o:Int):=⟨t.obj.toNat,by omega⟩
  rw [show (t.obj+1).toNat=o+1 by omega] at hs
  by_cases hx0:k.inuse - t.many.toNat=0
  ·rw [if_pos hx0] at hs
   obtain ⟨p,q,hp,hq,hs⟩:=ZaI hs
   rcases hs with ⟨rfl,rfl,hr⟩ | ⟨hne,hr⟩ | ⟨rfl,hne,hr⟩
   ·cases hr
    exact toW [(k.inuse:Int),(k.objects:Int),0,((Zat (k.inuse - t.many.toNat) k.objects false true:Nat):Int)] h hpc (fun _=>fap (fap (fap (fap (fap (fap (fap (fap (fap (fap (fap (fap (fap (fap (rE 0 32 (eSl es)) (ltE (eSl es) ZaH)) (rE 0 17 z1)) (rE 1 17 z2)) (rE 0 17 (eMm hm0))) (rE (-1) 16 (eOb eo))) (ltE (eOb eo) Za3)) (geE z1 (eMm hm0))) (rE 0 17 ZaG)) (geE (cuE Za3) ZaG)) (geE (eOb eo) (lE 0))) (eqE (sbN z1 (eMm hm0)) (lE 0))) (a2E h (fiE h (eSl es)) (Zaa hq))) (eqE (Zam (fiE h (eSl es)) hp) ZaG)) (eqE (Zam (p1E (fiE h (eSl es))) hq) ZbH)) (fun _ _ _=>k2 (Zah ZbH (ZaJ (by assumption)) hk hl (Says.si z1) (Says.si z2) (by rw [hfz]; exact Says.bool)) (Zaz (Says.si (sbN z1 (eMm hm0))) (Says.si z2) Says.bool (by omega) (by omega) (by omega) z4)) (fun _=>s2E ls0 (fiE h (eSl es)) (cuE (p1E (eOb eo))) z4 (Zaa hq) hlen.2) fun _=>((rs0 h 88).u 9 (cuE (p1E (eOb eo)))).u 10 z4
   ·cases hr
    exact toW [(k.inuse:Int),(k.objects:Int),0,((Zat (k.inuse - t.many.toNat) k.objects false true:Nat):Int)] h hpc (fun _=>fap (fap (fap (fap (fap (fap (fap (fap (fap (fap (fap (fap (fap (rE 0 32 (eSl es)) (ltE (eSl es) ZaH)) (rE 0 17 z1)) (rE 1 17 z2)) (rE 0 17 (eMm hm0))) (rE (-1) 16 (eOb eo))) (ltE (eOb eo) Za3)) (geE z1 (eMm hm0))) (rE 0 17 ZaG)) (geE (cuE Za3) ZaG)) (geE (eOb eo) (lE 0))) (eqE (sbN z1 (eMm hm0)) (lE 0))) (a2E h (fiE h (eSl es)) (Zaa hq))) (neE (Zam (fiE h (eSl es)) hp) ZaG)) (fun _ _ _=>k2 (Zah ZbH (ZaJ (by assumption)) hk hl (Says.si z1) (Says.si z2) (by rw [hfz]; exact Says.bool)) (Zaz (Says.si (sbN z1 (eMm hm0))) (Says.si z2) Says.bool (by omega) (by omega) (by omega) z4)) (fun _=>ls0) fun _=>rs0 h 84
   ·cases hr
    exact toW [(k.inuse:Int),(k.objects:Int),0,((Zat (k.inuse - t.many.toNat) k.objects false true:Nat):Int)] h hpc (fun _=>fap (fap (fap (fap (fap (fap (fap (fap (fap (fap (fap (fap (fap (fap (rE 0 32 (eSl es)) (ltE (eSl es) ZaH)) (rE 0 17 z1)) (rE 1 17 z2)) (rE 0 17 (eMm hm0))) (rE (-1) 16 (eOb eo))) (ltE (eOb eo) Za3)) (geE z1 (eMm hm0))) (rE 0 17 ZaG)) (geE (cuE Za3) ZaG)) (geE (eOb eo) (lE 0))) (eqE (sbN z1 (eMm hm0)) (lE 0))) (a2E h (fiE h (eSl es)) (Zaa hq))) (eqE (Zam (fiE h (eSl es)) hp) ZaG)) (neE (Zam (p1E (fiE h (eSl es))) hq) ZbH)) (fun _ _ _=>k2 (Zah ZbH (ZaJ (by assumption)) hk hl (Says.si z1) (Says.si z2) (by rw [hfz]; exact Says.bool)) (Zaz (Says.si (sbN z1 (eMm hm0))) (Says.si z2) Says.bool (by omega) (by omega) (by omega) z4)) (fun _=>ls0) fun _=>rs0 h 84
  ·rw [if_neg hx0] at hs
   obtain ⟨p,q,hp,hq,hs⟩:=ZaI hs
   rcases hs with ⟨rfl,rfl,hr⟩ | ⟨hne,hr⟩ | ⟨rfl,hne,hr⟩
   ·cases hr
    exact toW [(k.inuse:Int),(k.objects:Int),0,((Zat (k.inuse - t.many.toNat) k.objects false true:Nat):Int)] h hpc (fun _=>fap (fap (fap (fap (fap (fap (fap (fap (fap (fap (fap (fap (fap (fap (rE 0 32 (eSl es)) (ltE (eSl es) ZaH)) (rE 0 17 z1)) (rE 1 17 z2)) (rE 0 17 (eMm hm0))) (rE (-1) 16 (eOb eo))) (ltE (eOb eo) Za3)) (geE z1 (eMm hm0))) (rE 0 17 ZaG)) (geE (cuE Za3) ZaG)) (geE (eOb eo) (lE 0))) (neE (sbN z1 (eMm hm0)) (lE 0))) (a2E h (fiE h (eSl es)) (Zaa hq))) (eqE (Zam (fiE h (eSl es)) hp) ZaG)) (eqE (Zam (p1E (fiE h (eSl es))) hq) ZbH)) (fun _ _ _=>k2 (Zah ZbH (ZaJ (by assumption)) hk hl (Says.si z1) (Says.si z2) (by rw [hfz]; exact Says.bool)) (Zaz (Says.si (sbN z1 (eMm hm0))) (Says.si z2) Says.bool (by omega) (by omega) (by omega) z4)) (fun _=>s2E ls0 (fiE h (eSl es)) (cuE (p1E (eOb eo))) z4 (Zaa hq) hlen.2) fun _=>((rs0 h 90).u 9 (cuE (p1E (eOb eo)))).u 10 z4
   ·cases hr
    exact toW [(k.inuse:Int),(k.objects:Int),0,((Zat (k.inuse - t.many.toNat) k.objects false true:Nat):Int)] h hpc (fun _=>fap (fap (fap (fap (fap (fap (fap (fap (fap (fap (fap (fap (fap (rE 0 32 (eSl es)) (ltE (eSl es) ZaH)) (rE 0 17 z1)) (rE 1 17 z2)) (rE 0 17 (eMm hm0))) (rE (-1) 16 (eOb eo))) (ltE (eOb eo) Za3)) (geE z1 (eMm hm0))) (rE 0 17 ZaG)) (geE (cuE Za3) ZaG)) (geE (eOb eo) (lE 0))) (neE (sbN z1 (eMm hm0)) (lE 0))) (a2E h (fiE h (eSl es)) (Zaa hq))) (neE (Zam (fiE h (eSl es)) hp) ZaG)) (fun _ _ _=>k2 (Zah ZbH (ZaJ (by assumption)) hk hl (Says.si z1) (Says.si z2) (by rw [hfz]; exact Says.bool)) (Zaz (Says.si (sbN z1 (eMm hm0))) (Says.si z2) Says.bool (by omega) (by omega) (by omega) z4)) (fun _=>ls0) fun _=>rs0 h 84
   ·cases hr
    exact toW [(k.inuse:Int),(k.objects:Int),0,((Zat (k.inuse - t.many.toNat) k.objects false true:Nat):Int)] h hpc (fun _=>fap (fap (fap (fap (fap (fap (fap (fap (fap (fap (fap (fap (fap (fap (rE 0 32 (eSl es)) (ltE (eSl es) ZaH)) (rE 0 17 z1)) (rE 1 17 z2)) (rE 0 17 (eMm hm0))) (rE (-1) 16 (eOb eo))) (ltE (eOb eo) Za3)) (geE z1 (eMm hm0))) (rE 0 17 ZaG)) (geE (cuE Za3) ZaG)) (geE (eOb eo) (lE 0))) (neE (sbN z1 (eMm hm0)) (lE 0))) (a2E h (fiE h (eSl es)) (Zaa hq))) (eqE (Zam (fiE h (eSl es)) hp) ZaG)) (neE (Zam (p1E (fiE h (eSl es))) hq) ZbH)) (fun _ _ _=>k2 (Zah ZbH (ZaJ (by assumption)) hk hl (Says.si z1) (Says.si z2) (by rw [hfz]; exact Says.bool)) (Zaz (Says.si (sbN z1 (eMm hm0))) (Says.si z2) Says.bool (by omega) (by omega) (by omega) z4)) (fun _=>ls0) fun _=>rs0 h 84
theorem Zqz (h:ZaU c mn cp t g)(hpc:t.pc=88)(hs:Zaf c mn g t=some (t',g')):Zae 46 c mn cp t g t' g':=by
 unfold Zaf at hs
 rw [hpc] at hs
 have ⟨hC,hS,hO,hmn,hcp,_,hcpu,hlen,_,hfin,hwant⟩:=h
 obtain ⟨x,hx,hs⟩:=rd_some hs
 split at hs
 ·rename_i hx0
  cases hs
  exact toW [] h hpc (fun _=>fap (a1E h (heE h) (Zaa hx)) (ltE (Zam (heE h) hx) (cuE Zpt))) (fun _ _ _=>k0) (fun _=>ls0) fun _=>rs0 h 90
 ·rename_i hx0
  cases hs
  exact toW [] h hpc (fun _=>fap (a1E h (heE h) (Zaa hx)) (geE (Zam (heE h) hx) (cuE Zpt))) (fun _ _ _=>k0) (fun _=>ls0) fun _=>rs0 h 76
theorem ZqA (h:ZaU c mn cp t g)(hpc:t.pc=90)(hs:Zaf c mn g t=some (t',g')):Zae 46 c mn cp t g t' g':=by
 unfold Zaf at hs
 rw [hpc] at hs
 have ⟨hC,hS,hO,hmn,hcp,_,hcpu,hlen,_,hfin,hwant⟩:=h
 obtain ⟨x,hx,hs⟩:=rd_some hs
 obtain ⟨hb,hs⟩:=Zad hs
 cases hs
 exact toW [] h hpc (fun _=>fap (fap (a1E h (shE h) (Zaa hx)) (rE 0 33 (Zam (shE h) hx))) (geE (cuE ZaH) (Zam (shE h) hx))) (fun _ _ _=>k0) (fun _=>ls0) fun _=>(rs0 h 91).u 11 (Zam (shE h) hx)
theorem ZqB (h:ZaU c mn cp t g)(hpc:t.pc=91)(hs:Zaf c mn g t=some (t',g')):Zae 46 c mn cp t g t' g':=by
 unfold Zaf at hs
 rw [hpc] at hs
 have ⟨hC,hS,hO,hmn,hcp,_,hcpu,hlen,_,hfin,hwant⟩:=h
 obtain ⟨s,es,hsl,hs⟩:=Zaj hs
 obtain ⟨hi,hs⟩:=ZaM hs
 cases hs
 exact toW [] h hpc (fun _=>fap (fap (rE 0 32 (eSl es)) (ltE (eSl es) ZaH)) (a1E h (nxE h (eSl es)) hi)) (fun _ _ _=>k0) (fun _=>s1E ls0 (nxE h (eSl es)) Zhp hi) fun _=>rs0 h 92
theorem ZqC (h:ZaU c mn cp t g)(hpc:t.pc=92)(hs:Zaf c mn g t=some (t',g')):Zae 46 c mn cp t g t' g':=by
 unfold Zaf at hs
 rw [hpc] at hs
 have ⟨hC,hS,hO,hmn,hcp,_,hcpu,hlen,_,hfin,hwant⟩:=h
 obtain ⟨s,es,hsl,hs⟩:=Zaj hs
 obtain ⟨hi,hs⟩:=ZaM hs
 cases hs
 exact toW [] h hpc (fun _=>fap (fap (rE 0 32 (eSl es)) (ltE (eSl es) ZaH)) (a1E h (shE h) hi)) (fun _ _ _=>k0) (fun _=>s1E ls0 (shE h) (cuE (p1E (eSl es))) hi) fun _=>rs0 h 93
theorem ZqD (h:ZaU c mn cp t g)(hpc:t.pc=93)(hs:Zaf c mn g t=some (t',g')):Zae 46 c mn cp t g t' g':=by
 unfold Zaf at hs
 rw [hpc] at hs
 have ⟨hC,hS,hO,hmn,hcp,_,hcpu,hlen,_,hfin,hwant⟩:=h
 obtain ⟨x,hx,hs⟩:=rd_some hs
 obtain ⟨hi,hs⟩:=ZaM hs
 cases hs
 exact toW [] h hpc (fun _=>a1E h (heE h) (by first | exact hi | exact Zaa hx)) (fun _ _ _=>k0) (fun _=>s1E ls0 (heE h) (ZdA (Zam (heE h) hx)) (by first | exact hi | exact Zaa hx)) fun _=>rs0 h 94
theorem ZqE (h:ZaU c mn cp t g)(hpc:t.pc=94)(hs:Zaf c mn g t=some (t',g')):Zae 46 c mn cp t g t' g':=by
 unfold Zaf at hs
 rw [hpc] at hs
 have ⟨hC,hS,hO,hmn,hcp,_,hcpu,hlen,_,hfin,hwant⟩:=h
 change (match Zb2 t with
  | some t'=>wr g (Zbl c) 0 t'
  | none=>none)=_ at hs
 split at hs
 ·rename_i t2 ht
  obtain ⟨hi,hs⟩:=ZaM hs
  unfold Zb2 at ht
  split at ht
  ·rename_i hbk
   cases ht
   cases hs
   exact toW [] h hpc (fun _=>fap (a1E h (baE h) hi) (eqE ZdB (lE 0))) (fun _ _ _=>k0) (fun _=>s1E ls0 (baE h) (lM 0) hi) fun _=>(rsS h hpc).n 3 1
  ·split at ht
   ·rename_i hbk
    cases ht
    cases hs
    exact toW [] h hpc (fun _=>fap (a1E h (baE h) hi) (eqE ZdB (lE 73))) (fun _ _ _=>k0) (fun _=>s1E ls0 (baE h) (lM 0) hi) fun _=>(rsS h hpc).i 2 (ZdB.trans hbk)
   ·split at ht
    ·rename_i hbk
     cases ht
     cases hs
     exact toW [] h hpc (fun _=>fap (a1E h (baE h) hi) (eqE ZdB (lE 95))) (fun _ _ _=>k0) (fun _=>s1E ls0 (baE h) (lM 0) hi) fun _=>(rsS h hpc).i 2 (ZdB.trans hbk)
    ·split at ht
     ·rename_i hbk
      split at ht
      ·rename_i hH
       cases ht
       cases hs
       exact toW [] h hpc (fun _=>fap (fap (a1E h (baE h) hi) (eqE ZdB (lE 79))) (eqE Zkn (lE 0))) (fun _ _ _=>k0) (fun _=>s1E ls0 (baE h) (lM 0) hi) fun _=>(rsS h hpc).n 3 1
      ·rename_i hH
       cases ht
       cases hs
       exact toW [] h hpc (fun _=>fap (fap (a1E h (baE h) hi) (eqE ZdB (lE 79))) (neE Zkn (lE 0))) (fun _ _ _=>k0) (fun _=>s1E ls0 (baE h) (lM 0) hi) fun _=>(rsS h hpc).i 2 (ZdB.trans hbk)
     ·cases ht
 ·cases hs
theorem Zqq (h:ZaU c mn cp t g)(hpc:t.pc=76)(hs:Zaf c mn g t=some (t',g')):Zae 46 c mn cp t g t' g':=by
 unfold Zaf at hs
 rw [hpc] at hs
 have ⟨hC,hS,hO,hmn,hcp,_,hcpu,hlen,_,hfin,hwant⟩:=h
 obtain ⟨s,es,hsl,hs⟩:=Zaj hs
 obtain ⟨p,hp,hs⟩:=rd_some hs
 obtain ⟨q,hq,hs⟩:=rd_some hs
 obtain ⟨⟨hpF,hqK⟩,hs⟩:=Zad hs
 cases hs
 exact toW [] h hpc (fun _=>fap (fap (fap (fap (rE 0 32 (eSl es)) (ltE (eSl es) ZaH)) (a2E h (fiE h (eSl es)) (Zaa hq))) (eqE (Zam (fiE h (eSl es)) hp) ZaG)) (eqE (Zam (p1E (fiE h (eSl es))) hq) ZbH)) (fun _ _ _=>k0) (fun _=>s2E ls0 (fiE h (eSl es)) (lM 0) (lM 0) (Zaa hq) hlen.2) fun _=>rs0 h 77
theorem Zqr (h:ZaU c mn cp t g)(hpc:t.pc=77)(hs:Zaf c mn g t=some (t',g')):Zae 46 c mn cp t g t' g':=by
 unfold Zaf at hs
 rw [hpc] at hs
 have ⟨hC,hS,hO,hmn,hcp,_,hcpu,hlen,_,hfin,hwant⟩:=h
 obtain ⟨hi,hs⟩:=ZaM hs
 cases hs
 exact toW [] h hpc (fun _=>a1E h (baE h) hi) (fun _ _ _=>k0) (fun _=>s1E ls0 (baE h) (lM 0) hi) fun _=>(rs0 h 78).n 4 2
theorem ZqF (h:ZaU c mn cp t g)(hpc:t.pc=95)(hs:Zaf c mn g t=some (t',g')):Zae 46 c mn cp t g t' g':=by
 unfold Zaf at hs
 rw [hpc] at hs
 have ⟨hC,hS,hO,hmn,hcp,_,hcpu,hlen,_,hfin,hwant⟩:=h
 obtain ⟨x,hx,hs⟩:=rd_some hs
 split at hs
 ·rename_i hx0
  obtain ⟨hi,hs⟩:=ZaM hs
  cases hs
  exact toW [] h hpc (fun _=>fap (a1E h (baE h) (by first | exact hi | exact Zaa hx)) (eqE (Zam (baE h) hx) (lE 0))) (fun _ _ _=>k0) (fun _=>s1E ls0 (baE h) (lM 1) (by first | exact hi | exact Zaa hx)) fun _=>rs0 h 96
 ·rename_i hx0
  cases hs
  exact toW [] h hpc (fun _=>fap (a1E h (baE h) (by first | exact hi | exact Zaa hx)) (neE (Zam (baE h) hx) (lE 0))) (fun _ _ _=>k0) (fun _=>ls0) fun _=>rsS h hpc
theorem ZqG (h:ZaU c mn cp t g)(hpc:t.pc=96)(hs:Zaf c mn g t=some (t',g')):Zae 46 c mn cp t g t' g':=by
 unfold Zaf at hs
 rw [hpc] at hs
 have ⟨hC,hS,hO,hmn,hcp,_,hcpu,hlen,_,hfin,hwant⟩:=h
 obtain ⟨x,hx,hs⟩:=rd_some hs
 obtain ⟨hb,hs⟩:=Zad hs
 split at hs
 ·rename_i hx0
  cases hs
  exact toW [] h hpc (fun _=>fap (fap (fap (a1E h (shE h) (Zaa hx)) (rE 0 33 (Zam (shE h) hx))) (geE (cuE ZaH) (Zam (shE h) hx))) (eqE (Zam (shE h) hx) (lE 0))) (fun _ _ _=>k0) (fun _=>ls0) fun _=>((rs0 h 99).u 11 (Zam (shE h) hx)).n 14 (-1)
 ·rename_i hx0
  cases hs
  exact toW [] h hpc (fun _=>fap (fap (fap (a1E h (shE h) (Zaa hx)) (rE 0 33 (Zam (shE h) hx))) (geE (cuE ZaH) (Zam (shE h) hx))) (neE (Zam (shE h) hx) (lE 0))) (fun _ _ _=>k0) (fun _=>ls0) fun _=>(((rs0 h 97).i 5 (sbE (ciE (Zam (shE h) hx)) (lE 1))).u 11 (Zam (shE h) hx)).n 14 (-1)
theorem ZqH (h:ZaU c mn cp t g)(hpc:t.pc=97)(hs:Zaf c mn g t=some (t',g')):Zae 46 c mn cp t g t' g':=by
 unfold Zaf at hs
 rw [hpc] at hs
 have ⟨hC,hS,hO,hmn,hcp,_,hcpu,hlen,_,hfin,hwant⟩:=h
 obtain ⟨s,es,hsl,hs⟩:=Zaj hs
 obtain ⟨x,hx,hs⟩:=rd_some hs
 obtain ⟨k,hk,hl,h1,h2,h3,hs⟩:=Za5 hs
 by_cases hx0:k.inuse=0
 ·rw [if_pos hx0] at hs
  cases hs
  exact toW [(k.inuse:Int),(k.objects:Int),if k.frozen=true then 1 else 0] h hpc (fun _=>fap (fap (fap (fap (fap (rE 0 32 (eSl es)) (ltE (eSl es) ZaH)) (a1E h (p1E (fiE h (eSl es))) (Zaa hx))) (rE 0 17 z1)) (rE 1 17 z2)) (eqE z1 (lE 0))) (fun _ _ _=>k1 (Zah (Zam (p1E (fiE h (eSl es))) hx) (h.w hx) hk hl (Says.si z1) (Says.si z2) (ZkH z3))) (fun _=>ls0) fun _=>(rs0 h 100).u 10 (Zam (p1E (fiE h (eSl es))) hx)
 ·rw [if_neg hx0] at hs
  cases hs
  exact toW [(k.inuse:Int),(k.objects:Int),if k.frozen=true then 1 else 0] h hpc (fun _=>fap (fap (fap (fap (fap (rE 0 32 (eSl es)) (ltE (eSl es) ZaH)) (a1E h (p1E (fiE h (eSl es))) (Zaa hx))) (rE 0 17 z1)) (rE 1 17 z2)) (neE z1 (lE 0))) (fun _ _ _=>k1 (Zah (Zam (p1E (fiE h (eSl es))) hx) (h.w hx) hk hl (Says.si z1) (Says.si z2) (ZkH z3))) (fun _=>ls0) fun _=>(rs0 h 98).u 10 (Zam (p1E (fiE h (eSl es))) hx)
theorem ZqI (h:ZaU c mn cp t g)(hpc:t.pc=98)(hs:Zaf c mn g t=some (t',g')):Zae 46 c mn cp t g t' g':=by
 unfold Zaf at hs
 rw [hpc] at hs
 have ⟨hC,hS,hO,hmn,hcp,_,hcpu,hlen,_,hfin,hwant⟩:=h
 obtain ⟨s,es,hsl,hs⟩:=Zaj hs
 obtain ⟨x,hx,hs⟩:=rd_some hs
 obtain ⟨hb,hs⟩:=Zad hs
 split at hs
 ·rename_i hx0
  cases hs
  exact toW [] h hpc (fun _=>fap (fap (fap (fap (fap (rE 0 32 (eSl es)) (ltE (eSl es) ZaH)) (a1E h (nxE h (eSl es)) (Zaa hx))) (rE 0 33 (Zam (nxE h (eSl es)) hx))) (geE (cuE ZaH) (Zam (nxE h (eSl es)) hx))) (eqE (Zam (nxE h (eSl es)) hx) (lE 0))) (fun _ _ _=>k0) (fun _=>ls0) fun _=>((rs0 h 99).u 11 (Zam (nxE h (eSl es)) hx)).i 14 ZfE
 ·rename_i hx0
  cases hs
  exact toW [] h hpc (fun _=>fap (fap (fap (fap (fap (rE 0 32 (eSl es)) (ltE (eSl es) ZaH)) (a1E h (nxE h (eSl es)) (Zaa hx))) (rE 0 33 (Zam (nxE h (eSl es)) hx))) (geE (cuE ZaH) (Zam (nxE h (eSl es)) hx))) (neE (Zam (nxE h (eSl es)) hx) (lE 0))) (fun _ _ _=>k0) (fun _=>ls0) fun _=>(((rs0 h 97).i 5 (sbE (ciE (Zam (nxE h (eSl es)) hx)) (lE 1))).u 11 (Zam (nxE h (eSl es)) hx)).i 14 ZfE
theorem ZqJ (h:ZaU c mn cp t g)(hpc:t.pc=99)(hs:Zaf c mn g t=some (t',g')):Zae 46 c mn cp t g t' g':=by
 unfold Zaf at hs
 rw [hpc] at hs
 have ⟨hC,hS,hO,hmn,hcp,_,hcpu,hlen,_,hfin,hwant⟩:=h
 obtain ⟨hi,hs⟩:=ZaM hs
 cases hs
 exact toW [] h hpc (fun _=>a1E h (baE h) hi) (fun _ _ _=>k0) (fun _=>s1E ls0 (baE h) (lM 0) hi) fun _=>(rs0 h 99).n 3 1
theorem ZoJ (h:ZaU c mn cp t g)(hpc:t.pc=100)(hs:Zaf c mn g t=some (t',g')):Zae 46 c mn cp t g t' g':=by
 unfold Zaf at hs
 rw [hpc] at hs
 have ⟨hC,hS,hO,hmn,hcp,_,hcpu,hlen,_,hfin,hwant⟩:=h
 obtain ⟨s,es,hsl,hs⟩:=Zaj hs
 obtain ⟨x,hx,hs⟩:=rd_some hs
 cases hs
 exact toW [] h hpc (fun _=>fap (fap (rE 0 32 (eSl es)) (ltE (eSl es) ZaH)) (a1E h (fiE h (eSl es)) (Zaa hx))) (fun _ _ _=>k0) (fun _=>ls0) fun _=>(rs0 h 101).u 9 (Zam (fiE h (eSl es)) hx)
theorem ZoK (h:ZaU c mn cp t g)(hpc:t.pc=101)(hs:Zaf c mn g t=some (t',g')):Zae 46 c mn cp t g t' g':=by
 unfold Zaf at hs
 rw [hpc] at hs
 have ⟨hC,hS,hO,hmn,hcp,_,hcpu,hlen,_,hfin,hwant⟩:=h
 obtain ⟨s,es,hsl,hs⟩:=Zaj hs
 obtain ⟨x,hx,hs⟩:=rd_some hs
 obtain ⟨hb,hs⟩:=Zad hs
 cases hs
 exact toW [] h hpc (fun _=>fap (fap (fap (fap (rE 0 32 (eSl es)) (ltE (eSl es) ZaH)) (a1E h (nxE h (eSl es)) (Zaa hx))) (rE 0 33 (Zam (nxE h (eSl es)) hx))) (geE (cuE ZaH) (Zam (nxE h (eSl es)) hx))) (fun _ _ _=>k0) (fun _=>ls0) fun _=>(rs0 h 102).u 11 (Zam (nxE h (eSl es)) hx)
theorem ZoL (h:ZaU c mn cp t g)(hpc:t.pc=102)(hs:Zaf c mn g t=some (t',g')):Zae 46 c mn cp t g t' g':=by
 unfold Zaf at hs
 rw [hpc] at hs
 have ⟨hC,hS,hO,hmn,hcp,_,hcpu,hlen,_,hfin,hwant⟩:=h
 change (if t.to_ = -1 then _ else _)=_ at hs
 split at hs
 ·rename_i hto
  obtain ⟨hi,hs⟩:=ZaM hs
  cases hs
  exact toW [] h hpc (fun _=>fap (a1E h (shE h) hi) (eqE Zpu (lE (-1)))) (fun _ _ _=>k0) (fun _=>s1E ls0 (shE h) Zhp hi) fun _=>rs0 h 103
 ·rename_i hto
  obtain ⟨hb,hs⟩:=Zad hs
  obtain ⟨hi,hs⟩:=ZaM hs
  cases hs
  exact toW [] h hpc (fun _=>fap (fap (fap (rE 0 32 (eTo (by omega))) (ltE (eTo (by omega)) ZaH)) (a1E h (nxE h (eTo (by omega))) hi)) (neE (eTo (by omega)) (lE (-1)))) (fun _ _ _=>k0) (fun _=>s1E ls0 (nxE h (eTo (by omega))) Zhp hi) fun _=>rs0 h 103
theorem ZoM (h:ZaU c mn cp t g)(hpc:t.pc=103)(hs:Zaf c mn g t=some (t',g')):Zae 46 c mn cp t g t' g':=by
 unfold Zaf at hs
 rw [hpc] at hs
 have ⟨hC,hS,hO,hmn,hcp,_,hcpu,hlen,_,hfin,hwant⟩:=h
 obtain ⟨x,hx,hs⟩:=rd_some hs
 obtain ⟨hi,hs⟩:=ZaM hs
 cases hs
 exact toW [] h hpc (fun _=>a1E h (heE h) (by first | exact hi | exact Zaa hx)) (fun _ _ _=>k0) (fun _=>s1E ls0 (heE h) (ZkP (Zam (heE h) hx)) (by first | exact hi | exact Zaa hx)) fun _=>(rs0 h 76).n 15 95
theorem ZoN (h:ZaU c mn cp t g)(hs:Zaf c mn g t=some (t',g')):Zae 46 c mn cp t g t' g':=by
 have hs0:=hs
 unfold Zaf at hs
 split at hs
 ·exact Zqk h (by assumption) hs0
 ·exact Zql h (by assumption) hs0
 ·exact Zqm h (by assumption) hs0
 ·exact Zqn h (by assumption) hs0
 ·exact Zqo h (by assumption) hs0
 ·exact Zqp h (by assumption) hs0
 ·exact Zqs h (by assumption) hs0
 ·exact Zqt h (by assumption) hs0
 ·exact Zqu h (by assumption) hs0
 ·exact Zqv h (by assumption) hs0
 ·exact Zqw h (by assumption) hs0
 ·exact Zqx h (by assumption) hs0
 ·exact Zqy h (by assumption) hs0
 ·exact Zqz h (by assumption) hs0
 ·exact ZqA h (by assumption) hs0
 ·exact ZqB h (by assumption) hs0
 ·exact ZqC h (by assumption) hs0
 ·exact ZqD h (by assumption) hs0
 ·exact ZqE h (by assumption) hs0
 ·exact Zqq h (by assumption) hs0
 ·exact Zqr h (by assumption) hs0
 ·exact ZqF h (by assumption) hs0
 ·exact ZqG h (by assumption) hs0
 ·exact ZqH h (by assumption) hs0
 ·exact ZqI h (by assumption) hs0
 ·exact ZqJ h (by assumption) hs0
 ·exact ZoJ h (by assumption) hs0
 ·exact ZoK h (by assumption) hs0
 ·exact ZoL h (by assumption) hs0
 ·exact ZoM h (by assumption) hs0
 ·cases hs
end
end Go.Proofs.YtfcpdlbkmkhhcaaGreatDoor.Cw
