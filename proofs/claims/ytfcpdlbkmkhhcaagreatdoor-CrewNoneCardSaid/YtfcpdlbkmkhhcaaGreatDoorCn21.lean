/-
  Texts of this claim, joined. No condition.
-/
import Derived.Test.YtfcpdlbkmkhhcaaGreatDoorCn19
namespace Go.Proofs.YtfcpdlbkmkhhcaaGreatDoor.Cw
open Go Ex Mem See
open Go.RowKit
section
variable {c:Ch}{mn cp:Nat}{t t':Tk}{g g':List Nat}
theorem Zsa (h:ZaU c mn cp t g)(hpc:t.pc=20)(hs:Zas c g t=some (t',g')):Zae 44 c mn cp t g t' g':=by
 unfold Zas at hs
 rw [hpc] at hs
 have ⟨hC,hS,hO,hmn,hcp,_,hcpu,hlen,_,hfin,hwant⟩:=h
 obtain ⟨p,q,hp,hq,hs⟩:=ZaI hs
 rcases hs with ⟨rfl,rfl,hr⟩ | ⟨hne,hr⟩ | ⟨rfl,hne,hr⟩
 ·cases hr
  exact toW [] h hpc (fun _=>fap (fap (a2E h (hdE Zak) (Zaa hq)) (eqE (Zam (hdE Zak) hp) Zkn)) (eqE (Zam (p1E (hdE Zak)) hq) Zf0)) (fun _ _ _=>k0) (fun _=>s2E ls0 (hdE Zak) (lM 0) (ZdA Zf0) (Zaa hq) hlen.2) fun _=>rs0 h 21
 ·cases hr
  exact toW [] h hpc (fun _=>fap (a2E h (hdE Zak) (Zaa hq)) (neE (Zam (hdE Zak) hp) Zkn)) (fun _ _ _=>k0) (fun _=>ls0) fun _=>rs0 h 0
 ·cases hr
  exact toW [] h hpc (fun _=>fap (fap (a2E h (hdE Zak) (Zaa hq)) (eqE (Zam (hdE Zak) hp) Zkn)) (neE (Zam (p1E (hdE Zak)) hq) Zf0)) (fun _ _ _=>k0) (fun _=>ls0) fun _=>rs0 h 0
theorem Zsb (h:ZaU c mn cp t g)(hpc:t.pc=21)(hs:Zas c g t=some (t',g')):Zae 44 c mn cp t g t' g':=by
 unfold Zas at hs
 rw [hpc] at hs
 have ⟨hC,hS,hO,hmn,hcp,_,hcpu,hlen,_,hfin,hwant⟩:=h
 obtain ⟨s,es,hsl,hs⟩:=Zaj hs
 obtain ⟨x,hx,hs⟩:=rd_some hs
 obtain ⟨hb,hs⟩:=Zad hs
 by_cases hx0:0<x
 ·cases hs
  exact toW [] h hpc (fun _=>fap (fap (fap (fap (fap (rE 0 32 (eSl es)) (ltE (eSl es) ZaH)) (a1E h (fiE h (eSl es)) (Zaa hx))) (rE 0 17 (Zam (fiE h (eSl es)) hx))) (geE (cuE Za3) (Zam (fiE h (eSl es)) hx))) (ltE (lE 0) (Zam (fiE h (eSl es)) hx))) (fun _ _ _=>k0) (fun _=>ls0) fun _=>(rs0 h 22).u 9 (Zam (fiE h (eSl es)) hx)
 ·cases hs
  exact toW [] h hpc (fun _=>fap (fap (fap (fap (fap (rE 0 32 (eSl es)) (ltE (eSl es) ZaH)) (a1E h (fiE h (eSl es)) (Zaa hx))) (rE 0 17 (Zam (fiE h (eSl es)) hx))) (geE (cuE Za3) (Zam (fiE h (eSl es)) hx))) (geE (lE 0) (Zam (fiE h (eSl es)) hx))) (fun _ _ _=>k0) (fun _=>ls0) fun _=>(rs0 h 22).u 9 (Zam (fiE h (eSl es)) hx)
theorem Zsc (h:ZaU c mn cp t g)(hpc:t.pc=22)(hs:Zas c g t=some (t',g')):Zae 44 c mn cp t g t' g':=by
 unfold Zas at hs
 rw [hpc] at hs
 have ⟨hC,hS,hO,hmn,hcp,_,hcpu,hlen,_,hfin,hwant⟩:=h
 obtain ⟨s,es,hsl,hs⟩:=Zaj hs
 obtain ⟨x,hx,hs⟩:=rd_some hs
 obtain ⟨k,hk,hl,h1,h2,h3,hs⟩:=Za5 hs
 obtain ⟨hfz,hs⟩:=Zad hs
 by_cases hx0:t.F=0
 ·rw [if_pos hx0] at hs
  cases hs
  exact toW [(k.inuse:Int),(k.objects:Int)] h hpc (fun _=>fap (fap (fap (fap (fap (rE 0 32 (eSl es)) (ltE (eSl es) ZaH)) (a1E h (p1E (fiE h (eSl es))) (Zaa hx))) (rE 0 17 z1)) (rE 1 17 z2)) (eqE ZaG (lE 0))) (fun _ _ _=>k1 (Zah (Zam (p1E (fiE h (eSl es))) hx) (h.w hx) hk hl (Says.si z1) (Says.si z2) (by rw [hfz]; exact Says.bool))) (fun _=>ls0) fun _=>(rs0 h 24).u 10 (Zam (p1E (fiE h (eSl es))) hx)
 ·rw [if_neg hx0] at hs
  cases hs
  exact toW [(k.inuse:Int),(k.objects:Int)] h hpc (fun _=>fap (fap (fap (fap (fap (rE 0 32 (eSl es)) (ltE (eSl es) ZaH)) (a1E h (p1E (fiE h (eSl es))) (Zaa hx))) (rE 0 17 z1)) (rE 1 17 z2)) (neE ZaG (lE 0))) (fun _ _ _=>k1 (Zah (Zam (p1E (fiE h (eSl es))) hx) (h.w hx) hk hl (Says.si z1) (Says.si z2) (by rw [hfz]; exact Says.bool))) (fun _=>ls0) fun _=>(rs0 h 23).u 10 (Zam (p1E (fiE h (eSl es))) hx)
theorem Zsd (h:ZaU c mn cp t g)(hpc:t.pc=23)(hs:Zas c g t=some (t',g')):Zae 44 c mn cp t g t' g':=by
 unfold Zas at hs
 rw [hpc] at hs
 have ⟨hC,hS,hO,hmn,hcp,_,hcpu,hlen,_,hfin,hwant⟩:=h
 obtain ⟨s,es,hsl,hs⟩:=Zaj hs
 obtain ⟨hF,hs⟩:=Zad hs
 unfold Zhn at hs
 obtain ⟨k,hk,hl,h1,h2,h3,hs⟩:=Za5 hs
 obtain ⟨hfz,hs⟩:=Zad hs
 rw [if_pos rfl] at hs
 obtain ⟨p,q,hp,hq,hs⟩:=ZaI hs
 rcases hs with ⟨rfl,rfl,hr⟩ | ⟨hne,hr⟩ | ⟨rfl,hne,hr⟩
 ·cases hr
  exact toW [(k.inuse:Int),(k.objects:Int),0,((Zat k.objects k.objects true true:Nat):Int)] h hpc (fun _=>fap (fap (fap (fap (fap (fap (fap (fap (fap (rE 0 32 (eSl es)) (ltE (eSl es) ZaH)) (rE 0 17 z1)) (rE 1 17 z2)) (rE 0 17 ZaG)) (geE (cuE Za3) ZaG)) (neE ZaG (lE 0))) (a2E h (fiE h (eSl es)) (Zaa hq))) (eqE (Zam (fiE h (eSl es)) hp) ZaG)) (eqE (Zam (p1E (fiE h (eSl es))) hq) ZbH)) (fun _ _ _=>k2 (Zah ZbH (ZaJ (by assumption)) hk hl (Says.si z1) (Says.si z2) (by rw [hfz]; exact Says.bool)) (Zaz (Says.si z2) (Says.si z2) Says.bool (by omega) (by omega) (by omega) z4)) (fun _=>s2E ls0 (fiE h (eSl es)) (lM 0) z4 (Zaa hq) hlen.2) fun _=>(rs0 h 40).i 6 (sbE (ciE ZaG) (lE 1))
 ·cases hr
  exact toW [(k.inuse:Int),(k.objects:Int),0,((Zat k.objects k.objects true true:Nat):Int)] h hpc (fun _=>fap (fap (fap (fap (fap (fap (fap (fap (rE 0 32 (eSl es)) (ltE (eSl es) ZaH)) (rE 0 17 z1)) (rE 1 17 z2)) (rE 0 17 ZaG)) (geE (cuE Za3) ZaG)) (neE ZaG (lE 0))) (a2E h (fiE h (eSl es)) (Zaa hq))) (neE (Zam (fiE h (eSl es)) hp) ZaG)) (fun _ _ _=>k2 (Zah ZbH (ZaJ (by assumption)) hk hl (Says.si z1) (Says.si z2) (by rw [hfz]; exact Says.bool)) (Zaz (Says.si z2) (Says.si z2) Says.bool (by omega) (by omega) (by omega) z4)) (fun _=>ls0) fun _=>rs0 h 21
 ·cases hr
  exact toW [(k.inuse:Int),(k.objects:Int),0,((Zat k.objects k.objects true true:Nat):Int)] h hpc (fun _=>fap (fap (fap (fap (fap (fap (fap (fap (fap (rE 0 32 (eSl es)) (ltE (eSl es) ZaH)) (rE 0 17 z1)) (rE 1 17 z2)) (rE 0 17 ZaG)) (geE (cuE Za3) ZaG)) (neE ZaG (lE 0))) (a2E h (fiE h (eSl es)) (Zaa hq))) (eqE (Zam (fiE h (eSl es)) hp) ZaG)) (neE (Zam (p1E (fiE h (eSl es))) hq) ZbH)) (fun _ _ _=>k2 (Zah ZbH (ZaJ (by assumption)) hk hl (Says.si z1) (Says.si z2) (by rw [hfz]; exact Says.bool)) (Zaz (Says.si z2) (Says.si z2) Says.bool (by omega) (by omega) (by omega) z4)) (fun _=>ls0) fun _=>rs0 h 21
theorem Zse (h:ZaU c mn cp t g)(hpc:t.pc=24)(hs:Zas c g t=some (t',g')):Zae 44 c mn cp t g t' g':=by
 unfold Zas at hs
 rw [hpc] at hs
 have ⟨hC,hS,hO,hmn,hcp,_,hcpu,hlen,_,hfin,hwant⟩:=h
 obtain ⟨s,es,hsl,hs⟩:=Zaj hs
 obtain ⟨hF,hs⟩:=Zad hs
 unfold Zhn at hs
 obtain ⟨k,hk,hl,h1,h2,h3,hs⟩:=Za5 hs
 obtain ⟨hfz,hs⟩:=Zad hs
 rw [if_neg (by decide)] at hs
 obtain ⟨p,q,hp,hq,hs⟩:=ZaI hs
 rcases hs with ⟨rfl,rfl,hr⟩ | ⟨hne,hr⟩ | ⟨rfl,hne,hr⟩
 ·cases hr
  exact toW [(k.inuse:Int),(k.objects:Int),0,((Zat k.inuse k.objects false true:Nat):Int)] h hpc (fun _=>fap (fap (fap (fap (fap (fap (fap (fap (fap (rE 0 32 (eSl es)) (ltE (eSl es) ZaH)) (rE 0 17 z1)) (rE 1 17 z2)) (rE 0 17 ZaG)) (geE (cuE Za3) ZaG)) (eqE ZaG (lE 0))) (a2E h (fiE h (eSl es)) (Zaa hq))) (eqE (Zam (fiE h (eSl es)) hp) ZaG)) (eqE (Zam (p1E (fiE h (eSl es))) hq) ZbH)) (fun _ _ _=>k2 (Zah ZbH (ZaJ (by assumption)) hk hl (Says.si z1) (Says.si z2) (by rw [hfz]; exact Says.bool)) (Zaz (Says.si z1) (Says.si z2) Says.bool (by omega) (by omega) (by omega) z4)) (fun _=>s2E ls0 (fiE h (eSl es)) (lM 0) z4 (Zaa hq) hlen.2) fun _=>rs0 h 30
 ·cases hr
  exact toW [(k.inuse:Int),(k.objects:Int),0,((Zat k.inuse k.objects false true:Nat):Int)] h hpc (fun _=>fap (fap (fap (fap (fap (fap (fap (fap (rE 0 32 (eSl es)) (ltE (eSl es) ZaH)) (rE 0 17 z1)) (rE 1 17 z2)) (rE 0 17 ZaG)) (geE (cuE Za3) ZaG)) (eqE ZaG (lE 0))) (a2E h (fiE h (eSl es)) (Zaa hq))) (neE (Zam (fiE h (eSl es)) hp) ZaG)) (fun _ _ _=>k2 (Zah ZbH (ZaJ (by assumption)) hk hl (Says.si z1) (Says.si z2) (by rw [hfz]; exact Says.bool)) (Zaz (Says.si z1) (Says.si z2) Says.bool (by omega) (by omega) (by omega) z4)) (fun _=>ls0) fun _=>rs0 h 21
 ·cases hr
  exact toW [(k.inuse:Int),(k.objects:Int),0,((Zat k.inuse k.objects false true:Nat):Int)] h hpc (fun _=>fap (fap (fap (fap (fap (fap (fap (fap (fap (rE 0 32 (eSl es)) (ltE (eSl es) ZaH)) (rE 0 17 z1)) (rE 1 17 z2)) (rE 0 17 ZaG)) (geE (cuE Za3) ZaG)) (eqE ZaG (lE 0))) (a2E h (fiE h (eSl es)) (Zaa hq))) (eqE (Zam (fiE h (eSl es)) hp) ZaG)) (neE (Zam (p1E (fiE h (eSl es))) hq) ZbH)) (fun _ _ _=>k2 (Zah ZbH (ZaJ (by assumption)) hk hl (Says.si z1) (Says.si z2) (by rw [hfz]; exact Says.bool)) (Zaz (Says.si z1) (Says.si z2) Says.bool (by omega) (by omega) (by omega) z4)) (fun _=>ls0) fun _=>rs0 h 21
theorem Zso (h:ZaU c mn cp t g)(hpc:t.pc=39)(hs:Zas c g t=some (t',g')):Zae 44 c mn cp t g t' g':=by
 unfold Zas at hs
 rw [hpc] at hs
 have ⟨hC,hS,hO,hmn,hcp,_,hcpu,hlen,_,hfin,hwant⟩:=h
 obtain ⟨s,es,hsl,hs⟩:=Zaj hs
 obtain ⟨hF,hs⟩:=Zad hs
 unfold Zhn at hs
 obtain ⟨k,hk,hl,h1,h2,h3,hs⟩:=Za5 hs
 obtain ⟨hfz,hs⟩:=Zad hs
 rw [if_pos rfl] at hs
 obtain ⟨p,q,hp,hq,hs⟩:=ZaI hs
 rcases hs with ⟨rfl,rfl,hr⟩ | ⟨hne,hr⟩ | ⟨rfl,hne,hr⟩
 ·cases hr
  exact toW [(k.inuse:Int),(k.objects:Int),0,((Zat k.objects k.objects true true:Nat):Int)] h hpc (fun _=>fap (fap (fap (fap (fap (fap (fap (fap (fap (rE 0 32 (eSl es)) (ltE (eSl es) ZaH)) (rE 0 17 z1)) (rE 1 17 z2)) (rE 0 17 ZaG)) (geE (cuE Za3) ZaG)) (neE ZaG (lE 0))) (a2E h (fiE h (eSl es)) (Zaa hq))) (eqE (Zam (fiE h (eSl es)) hp) ZaG)) (eqE (Zam (p1E (fiE h (eSl es))) hq) ZbH)) (fun _ _ _=>k2 (Zah ZbH (ZaJ (by assumption)) hk hl (Says.si z1) (Says.si z2) (by rw [hfz]; exact Says.bool)) (Zaz (Says.si z2) (Says.si z2) Says.bool (by omega) (by omega) (by omega) z4)) (fun _=>s2E ls0 (fiE h (eSl es)) (lM 0) z4 (Zaa hq) hlen.2) fun _=>(rs0 h 46).i 6 (sbE (ciE ZaG) (lE 1))
 ·cases hr
  exact toW [(k.inuse:Int),(k.objects:Int),0,((Zat k.objects k.objects true true:Nat):Int)] h hpc (fun _=>fap (fap (fap (fap (fap (fap (fap (fap (rE 0 32 (eSl es)) (ltE (eSl es) ZaH)) (rE 0 17 z1)) (rE 1 17 z2)) (rE 0 17 ZaG)) (geE (cuE Za3) ZaG)) (neE ZaG (lE 0))) (a2E h (fiE h (eSl es)) (Zaa hq))) (neE (Zam (fiE h (eSl es)) hp) ZaG)) (fun _ _ _=>k2 (Zah ZbH (ZaJ (by assumption)) hk hl (Says.si z1) (Says.si z2) (by rw [hfz]; exact Says.bool)) (Zaz (Says.si z2) (Says.si z2) Says.bool (by omega) (by omega) (by omega) z4)) (fun _=>ls0) fun _=>rs0 h 37
 ·cases hr
  exact toW [(k.inuse:Int),(k.objects:Int),0,((Zat k.objects k.objects true true:Nat):Int)] h hpc (fun _=>fap (fap (fap (fap (fap (fap (fap (fap (fap (rE 0 32 (eSl es)) (ltE (eSl es) ZaH)) (rE 0 17 z1)) (rE 1 17 z2)) (rE 0 17 ZaG)) (geE (cuE Za3) ZaG)) (neE ZaG (lE 0))) (a2E h (fiE h (eSl es)) (Zaa hq))) (eqE (Zam (fiE h (eSl es)) hp) ZaG)) (neE (Zam (p1E (fiE h (eSl es))) hq) ZbH)) (fun _ _ _=>k2 (Zah ZbH (ZaJ (by assumption)) hk hl (Says.si z1) (Says.si z2) (by rw [hfz]; exact Says.bool)) (Zaz (Says.si z2) (Says.si z2) Says.bool (by omega) (by omega) (by omega) z4)) (fun _=>ls0) fun _=>rs0 h 37
theorem Zsf (h:ZaU c mn cp t g)(hpc:t.pc=30)(hs:Zas c g t=some (t',g')):Zae 44 c mn cp t g t' g':=by
 unfold Zas at hs
 rw [hpc] at hs
 have ⟨hC,hS,hO,hmn,hcp,_,hcpu,hlen,_,hfin,hwant⟩:=h
 unfold ZeO at hs
 obtain ⟨x,hx,hs⟩:=rd_some hs
 cases hs
 exact toW [] h hpc (fun _=>a1E h (p1E (ptE Zak)) (Zaa hx)) (fun _ _ _=>k0) (fun _=>ls0) fun _=>(rs0 h 31).u 8 (Zam (p1E (ptE Zak)) hx)
theorem Zsg (h:ZaU c mn cp t g)(hpc:t.pc=31)(hs:Zas c g t=some (t',g')):Zae 44 c mn cp t g t' g':=by
 unfold Zas at hs
 rw [hpc] at hs
 have ⟨hC,hS,hO,hmn,hcp,_,hcpu,hlen,_,hfin,hwant⟩:=h
 obtain ⟨x,hx,hs⟩:=rd_some hs
 obtain ⟨a,b,hpo,hs⟩:=Zcs hs
 have hge:=ZcI hpo
 split at hs
 ·rename_i hx0
  obtain ⟨hb,hs⟩:=Zad hs
  cases hs
  subst hx0 hb
  exact toW [] h hpc (fun _=>a1E h (ptE Zak) (Zaa hx)) (fun _ _ _=>k1 (Zbf (Zam (ptE Zak) hx) (h.w hx) (by assumption) Says.li Says.li)) (fun _=>ls0) fun _=>(rs0 h 34).u 11 (Zam (ptE Zak) hx)
 ·rename_i hx0
  obtain ⟨hb,hs⟩:=Zad hs
  cases hs
  exact toW [a,b] h hpc (fun _=>fap (fap (fap (a1E h (ptE Zak) (Zaa hx)) (rE 0 32 z1)) (ltE z1 ZaH)) (rE 0 64 z2)) (fun _ _ _=>k1 (Zbf (Zam (ptE Zak) hx) (h.w hx) (by assumption) (Says.si z1) (Says.si z2))) (fun _=>ls0) fun _=>((rs0 h 32).i 5 z1).u 11 (Zam (ptE Zak) hx)
theorem Zsh (h:ZaU c mn cp t g)(hpc:t.pc=32)(hs:Zas c g t=some (t',g')):Zae 44 c mn cp t g t' g':=by
 unfold Zas at hs
 rw [hpc] at hs
 have ⟨hC,hS,hO,hmn,hcp,_,hcpu,hlen,_,hfin,hwant⟩:=h
 obtain ⟨s,es,hsl,hs⟩:=Zaj hs
 obtain ⟨x,hx,hs⟩:=rd_some hs
 split at hs
 ·rename_i hpo
  cases hs
  exact toW [] h hpc (fun _=>fap (fap (rE 0 32 (eSl es)) (ltE (eSl es) ZaH)) (a1E h (nxE h (eSl es)) (Zaa hx))) (fun _ _ _=>k1 (Znu (Zam (nxE h (eSl es)) hx) (h.w hx) (by assumption))) (fun _=>ls0) fun _=>rs0 h 30
 ·rename_i a b hpo
  have hge:=ZcI hpo
  split at hs
  ·rename_i hx0
   cases hs
   exact toW [a,b] h hpc (fun _=>fap (fap (fap (fap (fap (rE 0 32 (eSl es)) (ltE (eSl es) ZaH)) (a1E h (nxE h (eSl es)) (Zaa hx))) (rE (-1) 32 z1)) (ltE z1 ZaH)) (rE 0 64 z2)) (fun _ _ _=>k1 (Zbf (Zam (nxE h (eSl es)) hx) (h.w hx) (by assumption) (Says.si z1) (Says.si z2))) (fun _=>ls0) fun _=>(rs0 h 33).u 9 (Zam (nxE h (eSl es)) hx)
  ·rename_i hx0
   cases hs
   exact toW [a,b] h hpc (fun _=>fap (fap (fap (fap (fap (rE 0 32 (eSl es)) (ltE (eSl es) ZaH)) (a1E h (nxE h (eSl es)) (Zaa hx))) (rE 0 33 z1)) (geE z1 ZaH)) (rE 0 64 z2)) (fun _ _ _=>k1 (Zbf (Zam (nxE h (eSl es)) hx) (h.w hx) (by assumption) (Says.si z1) (Says.si z2))) (fun _=>ls0) fun _=>rs0 h 30
theorem Zsi (h:ZaU c mn cp t g)(hpc:t.pc=33)(hs:Zas c g t=some (t',g')):Zae 44 c mn cp t g t' g':=by
 unfold Zas at hs
 rw [hpc] at hs
 have ⟨hC,hS,hO,hmn,hcp,_,hcpu,hlen,_,hfin,hwant⟩:=h
 obtain ⟨p,q,hp,hq,hs⟩:=ZaI hs
 rcases hs with ⟨rfl,rfl,hr⟩ | ⟨hne,hr⟩ | ⟨rfl,hne,hr⟩
 ·cases hr
  exact toW [] h hpc (fun _=>fap (fap (a2E h (ptE Zak) (Zaa hq)) (eqE (Zam (ptE Zak) hp) Zhp)) (eqE (Zam (p1E (ptE Zak)) hq) Zf0)) (fun _ _ _=>k0) (fun _=>s2E ls0 (ptE Zak) ZaG (ZdA Zf0) (Zaa hq) hlen.2) fun _=>rs0 h 21
 ·cases hr
  exact toW [] h hpc (fun _=>fap (a2E h (ptE Zak) (Zaa hq)) (neE (Zam (ptE Zak) hp) Zhp)) (fun _ _ _=>k0) (fun _=>ls0) fun _=>rs0 h 30
 ·cases hr
  exact toW [] h hpc (fun _=>fap (fap (a2E h (ptE Zak) (Zaa hq)) (eqE (Zam (ptE Zak) hp) Zhp)) (neE (Zam (p1E (ptE Zak)) hq) Zf0)) (fun _ _ _=>k0) (fun _=>ls0) fun _=>rs0 h 30
theorem Zsj (h:ZaU c mn cp t g)(hpc:t.pc=34)(hs:Zas c g t=some (t',g')):Zae 44 c mn cp t g t' g':=by
 unfold Zas at hs
 rw [hpc] at hs
 have ⟨hC,hS,hO,hmn,hcp,_,hcpu,hlen,_,hfin,hwant⟩:=h
 obtain ⟨x,hx,hs⟩:=rd_some hs
 split at hs
 ·rename_i hx0
  obtain ⟨hi,hs⟩:=ZaM hs
  cases hs
  exact toW [] h hpc (fun _=>fap (a1E h (baE h) (by first | exact hi | exact Zaa hx)) (eqE (Zam (baE h) hx) (lE 0))) (fun _ _ _=>k0) (fun _=>s1E ls0 (baE h) (lM 1) (by first | exact hi | exact Zaa hx)) fun _=>rs0 h 35
 ·rename_i hx0
  cases hs
  exact toW [] h hpc (fun _=>fap (a1E h (baE h) (by first | exact hi | exact Zaa hx)) (neE (Zam (baE h) hx) (lE 0))) (fun _ _ _=>k0) (fun _=>ls0) fun _=>rsS h hpc
theorem Zsk (h:ZaU c mn cp t g)(hpc:t.pc=35)(hs:Zas c g t=some (t',g')):Zae 44 c mn cp t g t' g':=by
 unfold Zas at hs
 rw [hpc] at hs
 have ⟨hC,hS,hO,hmn,hcp,_,hcpu,hlen,_,hfin,hwant⟩:=h
 obtain ⟨x,hx,hs⟩:=rd_some hs
 obtain ⟨hb,hs⟩:=Zad hs
 split at hs
 ·rename_i hx0
  cases hs
  exact toW [] h hpc (fun _=>fap (fap (fap (a1E h (shE h) (Zaa hx)) (rE 0 33 (Zam (shE h) hx))) (geE (cuE ZaH) (Zam (shE h) hx))) (eqE (Zam (shE h) hx) (lE 0))) (fun _ _ _=>k0) (fun _=>ls0) fun _=>(rs0 h 36).u 11 (Zam (shE h) hx)
 ·rename_i hx0
  cases hs
  exact toW [] h hpc (fun _=>fap (fap (fap (a1E h (shE h) (Zaa hx)) (rE 0 33 (Zam (shE h) hx))) (geE (cuE ZaH) (Zam (shE h) hx))) (neE (Zam (shE h) hx) (lE 0))) (fun _ _ _=>k0) (fun _=>ls0) fun _=>((rs0 h 37).i 5 (sbE (ciE (Zam (shE h) hx)) (lE 1))).u 11 (Zam (shE h) hx)
theorem Zsl (h:ZaU c mn cp t g)(hpc:t.pc=36)(hs:Zas c g t=some (t',g')):Zae 44 c mn cp t g t' g':=by
 unfold Zas at hs
 rw [hpc] at hs
 have ⟨hC,hS,hO,hmn,hcp,_,hcpu,hlen,_,hfin,hwant⟩:=h
 obtain ⟨hi,hs⟩:=ZaM hs
 cases hs
 exact toW [] h hpc (fun _=>a1E h (baE h) hi) (fun _ _ _=>k0) (fun _=>s1E ls0 (baE h) (lM 0) hi) fun _=>(rs0 h 43).n 4 1
theorem Zsm (h:ZaU c mn cp t g)(hpc:t.pc=37)(hs:Zas c g t=some (t',g')):Zae 44 c mn cp t g t' g':=by
 unfold Zas at hs
 rw [hpc] at hs
 have ⟨hC,hS,hO,hmn,hcp,_,hcpu,hlen,_,hfin,hwant⟩:=h
 obtain ⟨s,es,hsl,hs⟩:=Zaj hs
 obtain ⟨x,hx,hs⟩:=rd_some hs
 obtain ⟨hb,hs⟩:=Zad hs
 cases hs
 exact toW [] h hpc (fun _=>fap (fap (fap (fap (fap (rE 0 32 (eSl es)) (ltE (eSl es) ZaH)) (a1E h (fiE h (eSl es)) (Zaa hx))) (rE 0 17 (Zam (fiE h (eSl es)) hx))) (geE (cuE Za3) (Zam (fiE h (eSl es)) hx))) (ltE (lE 0) (Zam (fiE h (eSl es)) hx))) (fun _ _ _=>k0) (fun _=>ls0) fun _=>(rs0 h 38).u 9 (Zam (fiE h (eSl es)) hx)
theorem Zsn (h:ZaU c mn cp t g)(hpc:t.pc=38)(hs:Zas c g t=some (t',g')):Zae 44 c mn cp t g t' g':=by
 unfold Zas at hs
 rw [hpc] at hs
 have ⟨hC,hS,hO,hmn,hcp,_,hcpu,hlen,_,hfin,hwant⟩:=h
 obtain ⟨s,es,hsl,hs⟩:=Zaj hs
 obtain ⟨x,hx,hs⟩:=rd_some hs
 obtain ⟨k,hk,hl,h1,h2,h3,hs⟩:=Za5 hs
 obtain ⟨hfz,hs⟩:=Zad hs
 cases hs
 exact toW [(k.inuse:Int),(k.objects:Int)] h hpc (fun _=>fap (fap (fap (fap (rE 0 32 (eSl es)) (ltE (eSl es) ZaH)) (a1E h (p1E (fiE h (eSl es))) (Zaa hx))) (rE 0 17 z1)) (rE 1 17 z2)) (fun _ _ _=>k1 (Zah (Zam (p1E (fiE h (eSl es))) hx) (h.w hx) hk hl (Says.si z1) (Says.si z2) (by rw [hfz]; exact Says.bool))) (fun _=>ls0) fun _=>(rs0 h 39).u 10 (Zam (p1E (fiE h (eSl es))) hx)
theorem Zsu (h:ZaU c mn cp t g)(hpc:t.pc=46)(hs:Zas c g t=some (t',g')):Zae 44 c mn cp t g t' g':=by
 unfold Zas at hs
 rw [hpc] at hs
 have ⟨hC,hS,hO,hmn,hcp,_,hcpu,hlen,_,hfin,hwant⟩:=h
 obtain ⟨s,es,hsl,hs⟩:=Zaj hs
 obtain ⟨x,hx,hs⟩:=rd_some hs
 obtain ⟨hb,hs⟩:=Zad hs
 cases hs
 exact toW [] h hpc (fun _=>fap (fap (fap (fap (rE 0 32 (eSl es)) (ltE (eSl es) ZaH)) (a1E h (nxE h (eSl es)) (Zaa hx))) (rE 0 33 (Zam (nxE h (eSl es)) hx))) (geE (cuE ZaH) (Zam (nxE h (eSl es)) hx))) (fun _ _ _=>k0) (fun _=>ls0) fun _=>(rs0 h 47).u 11 (Zam (nxE h (eSl es)) hx)
theorem Zsv (h:ZaU c mn cp t g)(hpc:t.pc=47)(hs:Zas c g t=some (t',g')):Zae 44 c mn cp t g t' g':=by
 unfold Zas at hs
 rw [hpc] at hs
 have ⟨hC,hS,hO,hmn,hcp,_,hcpu,hlen,_,hfin,hwant⟩:=h
 obtain ⟨hi,hs⟩:=ZaM hs
 cases hs
 exact toW [] h hpc (fun _=>a1E h (shE h) hi) (fun _ _ _=>k0) (fun _=>s1E ls0 (shE h) Zhp hi) fun _=>rs0 h 48
theorem Zsw (h:ZaU c mn cp t g)(hpc:t.pc=48)(hs:Zas c g t=some (t',g')):Zae 44 c mn cp t g t' g':=by
 unfold Zas at hs
 rw [hpc] at hs
 have ⟨hC,hS,hO,hmn,hcp,_,hcpu,hlen,_,hfin,hwant⟩:=h
 obtain ⟨x,hx,hs⟩:=rd_some hs
 obtain ⟨hi,hs⟩:=ZaM hs
 cases hs
 exact toW [] h hpc (fun _=>a1E h (heE h) (by first | exact hi | exact Zaa hx)) (fun _ _ _=>k0) (fun _=>s1E ls0 (heE h) (ZkP (Zam (heE h) hx)) (by first | exact hi | exact Zaa hx)) fun _=>rs0 h 49
theorem Zsx (h:ZaU c mn cp t g)(hpc:t.pc=49)(hs:Zas c g t=some (t',g')):Zae 44 c mn cp t g t' g':=by
 unfold Zas at hs
 rw [hpc] at hs
 have ⟨hC,hS,hO,hmn,hcp,_,hcpu,hlen,_,hfin,hwant⟩:=h
 obtain ⟨hi,hs⟩:=ZaM hs
 cases hs
 exact toW [] h hpc (fun _=>a1E h (baE h) hi) (fun _ _ _=>k0) (fun _=>s1E ls0 (baE h) (lM 0) hi) fun _=>rs0 h 40
theorem Zsp (h:ZaU c mn cp t g)(hpc:t.pc=40)(hs:Zas c g t=some (t',g')):Zae 44 c mn cp t g t' g':=by
 unfold Zas at hs
 rw [hpc] at hs
 have ⟨hC,hS,hO,hmn,hcp,_,hcpu,hlen,_,hfin,hwant⟩:=h
 obtain ⟨s,es,hsl,hs⟩:=Zaj hs
 obtain ⟨o,eo,hol,hs⟩:=Zbv hs
 obtain ⟨x,hx,hs⟩:=rd_some hs
 split at hs
 ·cases hs
 ·rename_i y hsh
  have hy:=Zfg hsh
  obtain ⟨hb,hs⟩:=Zad hs
  cases hs
  exact toW [y] h hpc (fun _=>fap (fap (fap (fap (fap (fap (rE 0 32 (eSl es)) (ltE (eSl es) ZaH)) (rE 0 16 (eOb eo))) (ltE (eOb eo) Za3)) (a1E h (liE h (eSl es) (eOb eo)) (Zaa hx))) (rE (-1) 16 z1)) (ltE z1 Za3)) (fun _ _ _=>k1 (ZgL (Zam (liE h (eSl es) (eOb eo)) hx) (h.w hx) (kyE (eSl es)) (Nat.mod_lt _ (by omega)) (eOb eo) (by omega) (by assumption) (Says.si z1))) (fun _=>ls0) fun _=>(rs0 h 41).i 12 z1
theorem Zsq (h:ZaU c mn cp t g)(hpc:t.pc=41)(hs:Zas c g t=some (t',g')):Zae 44 c mn cp t g t' g':=by
 unfold Zas at hs
 rw [hpc] at hs
 have ⟨hC,hS,hO,hmn,hcp,_,hcpu,hlen,_,hfin,hwant⟩:=h
 unfold ZeO at hs
 obtain ⟨x,hx,hs⟩:=rd_some hs
 cases hs
 exact toW [] h hpc (fun _=>a1E h (p1E (hdE Zak)) (Zaa hx)) (fun _ _ _=>k0) (fun _=>ls0) fun _=>(rs0 h 42).u 8 (Zam (p1E (hdE Zak)) hx)
theorem Zsr (h:ZaU c mn cp t g)(hpc:t.pc=42)(hs:Zas c g t=some (t',g')):Zae 44 c mn cp t g t' g':=by
 unfold Zas at hs
 rw [hpc] at hs
 have ⟨hC,hS,hO,hmn,hcp,_,hcpu,hlen,_,hfin,hwant⟩:=h
 obtain ⟨s,es,hsl,hs⟩:=Zaj hs
 obtain ⟨hla,hs⟩:=Zad hs
 obtain ⟨p,q,hp,hq,hs⟩:=ZaI hs
 rcases hs with ⟨rfl,rfl,hr⟩ | ⟨hne,hr⟩ | ⟨rfl,hne,hr⟩
 ·cases hr
  exact toW [((headW (s:Int) t.last:Nat):Int)] h hpc (fun _=>fap (fap (fap (fap (fap (rE 0 32 (eSl es)) (ltE (eSl es) ZaH)) (rE (-1) 16 ZbF)) (a2E h (hdE Zak) (Zaa hq))) (eqE (Zam (hdE Zak) hp) (lE 0))) (eqE (Zam (p1E (hdE Zak)) hq) Zf0)) (fun _ _ _=>k1 (Zdq (Says.si (eSl es)) (Says.si ZbF) ⟨(by omega),(by omega),(by omega),(by omega)⟩ z1)) (fun _=>s2E ls0 (hdE Zak) z1 (ZdA Zf0) (Zaa hq) hlen.2) fun _=>(rs0 h 42).n 3 1
 ·cases hr
  exact toW [((headW (s:Int) t.last:Nat):Int)] h hpc (fun _=>fap (fap (fap (fap (rE 0 32 (eSl es)) (ltE (eSl es) ZaH)) (rE (-1) 16 ZbF)) (a2E h (hdE Zak) (Zaa hq))) (neE (Zam (hdE Zak) hp) (lE 0))) (fun _ _ _=>k1 (Zdq (Says.si (eSl es)) (Says.si ZbF) ⟨(by omega),(by omega),(by omega),(by omega)⟩ z1)) (fun _=>ls0) fun _=>rs0 h 41
 ·cases hr
  exact toW [((headW (s:Int) t.last:Nat):Int)] h hpc (fun _=>fap (fap (fap (fap (fap (rE 0 32 (eSl es)) (ltE (eSl es) ZaH)) (rE (-1) 16 ZbF)) (a2E h (hdE Zak) (Zaa hq))) (eqE (Zam (hdE Zak) hp) (lE 0))) (neE (Zam (p1E (hdE Zak)) hq) Zf0)) (fun _ _ _=>k1 (Zdq (Says.si (eSl es)) (Says.si ZbF) ⟨(by omega),(by omega),(by omega),(by omega)⟩ z1)) (fun _=>ls0) fun _=>rs0 h 41
theorem Zss (h:ZaU c mn cp t g)(hpc:t.pc=43)(hs:Zas c g t=some (t',g')):Zae 44 c mn cp t g t' g':=by
 unfold Zas at hs
 rw [hpc] at hs
 have ⟨hC,hS,hO,hmn,hcp,_,hcpu,hlen,_,hfin,hwant⟩:=h
 obtain ⟨s,es,hsl,hs⟩:=Zaj hs
 obtain ⟨o,eo,hol,hs⟩:=Zbv hs
 have em:t.many+1=((o+1:Nat):Int):=by omega
 rw [em] at hs
 obtain ⟨hi,hs⟩:=ZaM hs
 by_cases hx0:((o+1:Nat):Int)<c.O
 ·rw [if_pos hx0,if_pos hx0] at hs
  cases hs
  exact toW [0,0,0,((ZaR ((o+1:Nat):Int) (See.keyOf c.key s) o:Nat):Int)] h hpc (fun _=>fap (fap (fap (fap (fap (rE 0 32 (eSl es)) (ltE (eSl es) ZaH)) (rE 0 16 (eMy eo))) (ltE (eMy eo) Za3)) (a1E h (liE h (eSl es) (eMy eo)) hi)) (ltE (p1E (eMy eo)) Za3)) (fun _ _ _=>k1 (ZdO (Says.si (p1E (eMy eo))) (kyE (eSl es)) (Nat.mod_lt _ (by omega)) (Says.si (eMy eo)) (by omega) (by omega) z4)) (fun _=>s1E ls0 (liE h (eSl es) (eMy eo)) z4 hi) fun _=>(rs0 h 43).i 13 (p1E (eMy eo))
 ·rw [if_neg hx0,if_neg hx0] at hs
  cases hs
  exact toW [0,0,0,((ZaR (-1) (See.keyOf c.key s) o:Nat):Int)] h hpc (fun _=>fap (fap (fap (fap (fap (rE 0 32 (eSl es)) (ltE (eSl es) ZaH)) (rE 0 16 (eMy eo))) (ltE (eMy eo) Za3)) (a1E h (liE h (eSl es) (eMy eo)) hi)) (geE (p1E (eMy eo)) Za3)) (fun _ _ _=>k1 (ZdO Says.li (kyE (eSl es)) (Nat.mod_lt _ (by omega)) (Says.si (eMy eo)) (by omega) (by omega) z4)) (fun _=>s1E ls0 (liE h (eSl es) (eMy eo)) z4 hi) fun _=>(rs0 h 44).i 13 (p1E (eMy eo))
theorem Zst (h:ZaU c mn cp t g)(hpc:t.pc=44)(hs:Zas c g t=some (t',g')):Zae 44 c mn cp t g t' g':=by
 unfold Zas at hs
 rw [hpc] at hs
 have ⟨hC,hS,hO,hmn,hcp,_,hcpu,hlen,_,hfin,hwant⟩:=h
 obtain ⟨s,es,hsl,hs⟩:=Zaj hs
 obtain ⟨hi,hs⟩:=ZaM hs
 cases hs
 exact toW [0,0,0,((Zat c.O c.O true true:Nat):Int)] h hpc (fun _=>fap (fap (rE 0 32 (eSl es)) (ltE (eSl es) ZaH)) (a1E h (p1E (fiE h (eSl es))) hi)) (fun _ _ _=>k1 (Zaz (Says.si Za3) (Says.si Za3) Says.bool (by omega) (by omega) (by omega) z4)) (fun _=>s1E ls0 (p1E (fiE h (eSl es))) z4 hi) fun _=>(rs0 h 40).n 6 0
theorem Zqj (h:ZaU c mn cp t g)(hs:Zas c g t=some (t',g')):Zae 44 c mn cp t g t' g':=by
 have hs0:=hs
 unfold Zas at hs
 split at hs
 ·exact Zsa h (by assumption) hs0
 ·exact Zsb h (by assumption) hs0
 ·exact Zsc h (by assumption) hs0
 ·exact Zsd h (by assumption) hs0
 ·exact Zse h (by assumption) hs0
 ·exact Zsf h (by assumption) hs0
 ·exact Zsg h (by assumption) hs0
 ·exact Zsh h (by assumption) hs0
 ·exact Zsi h (by assumption) hs0
 ·exact Zsj h (by assumption) hs0
 ·exact Zsk h (by assumption) hs0
 ·exact Zsl h (by assumption) hs0
 ·exact Zsm h (by assumption) hs0
 ·exact Zsn h (by assumption) hs0
 ·exact Zso h (by assumption) hs0
 ·exact Zsu h (by assumption) hs0
 ·exact Zsv h (by assumption) hs0
 ·exact Zsw h (by assumption) hs0
 ·exact Zsx h (by assumption) hs0
 ·exact Zsp h (by assumption) hs0
 ·exact Zsq h (by assumption) hs0
 ·exact Zsr h (by assumption) hs0
 ·exact Zss h (by assumption) hs0
 ·exact Zst h (by assumption) hs0
 ·cases hs
end
end Go.Proofs.YtfcpdlbkmkhhcaaGreatDoor.Cw
