/-
  Texts of this claim, joined. No condition.
-/
import Derived.Test.YtfcpdlbkmkhhcaaGreatDoorCn19
namespace Go.Proofs.YtfcpdlbkmkhhcaaGreatDoor.Cw
open Go Ex Mem See
open Go.RowKit
section
variable {c:Ch}{mn cp:Nat}{t t':Tk}{g g':List Nat}
theorem Ztr (h:ZaU c mn cp t g)(hpc:t.pc=0)(hs:Zbq c g t=some (t',g')):Zae 43 c mn cp t g t' g':=by
 unfold Zbq at hs
 rw [hpc] at hs
 have ⟨hC,hS,hO,hmn,hcp,_,hcpu,hlen,_,hfin,hwant⟩:=h
 unfold ZeO at hs
 obtain ⟨x,hx,hs⟩:=rd_some hs
 cases hs
 exact toW [] h hpc (fun _=>a1E h (p1E (hdE Zak)) (Zaa hx)) (fun _ _ _=>k0) (fun _=>ls0) fun _=>(rs0 h 1).u 8 (Zam (p1E (hdE Zak)) hx)
theorem Zts (h:ZaU c mn cp t g)(hpc:t.pc=1)(hs:Zbq c g t=some (t',g')):Zae 43 c mn cp t g t' g':=by
 unfold Zbq at hs
 rw [hpc] at hs
 have ⟨hC,hS,hO,hmn,hcp,_,hcpu,hlen,_,hfin,hwant⟩:=h
 obtain ⟨x,hx,hs⟩:=rd_some hs
 obtain ⟨a,b,hho,hs⟩:=Zfw hs
 have hge:=ZgE hho
 split at hs
 ·rename_i hx0
  obtain ⟨hb,hs⟩:=Zad hs
  cases hs
  subst hx0 hb
  exact toW [] h hpc (fun _=>a1E h (hdE Zak) (Zaa hx)) (fun _ _ _=>k1 (ZcB (Zam (hdE Zak) hx) (h.w hx) (by assumption) Says.li Says.li)) (fun _=>ls0) fun _=>(((rs0 h 30).n 5 (-1)).n 6 (-1)).u 7 (Zam (hdE Zak) hx)
 ·obtain ⟨hb,hs⟩:=Zad hs
  split at hs
  ·rename_i ho
   cases hs
   subst ho
   exact toW [a] h hpc (fun _=>fap (fap (a1E h (hdE Zak) (Zaa hx)) (rE 0 32 z1)) (ltE z1 ZaH)) (fun _ _ _=>k1 (ZcB (Zam (hdE Zak) hx) (h.w hx) (by assumption) (Says.si z1) Says.li)) (fun _=>ls0) fun _=>(((rs0 h 20).i 5 z1).n 6 (-1)).u 7 (Zam (hdE Zak) hx)
  ·obtain ⟨hb2,hs⟩:=Zad hs
   cases hs
   exact toW [a,b] h hpc (fun _=>fap (fap (fap (fap (a1E h (hdE Zak) (Zaa hx)) (rE 0 32 z1)) (ltE z1 ZaH)) (rE 0 16 z2)) (ltE z2 Za3)) (fun _ _ _=>k1 (ZcB (Zam (hdE Zak) hx) (h.w hx) (by assumption) (Says.si z1) (Says.si z2))) (fun _=>ls0) fun _=>(((rs0 h 2).i 5 z1).i 6 z2).u 7 (Zam (hdE Zak) hx)
theorem Ztt (h:ZaU c mn cp t g)(hpc:t.pc=2)(hs:Zbq c g t=some (t',g')):Zae 43 c mn cp t g t' g':=by
 unfold Zbq at hs
 rw [hpc] at hs
 have ⟨hC,hS,hO,hmn,hcp,_,hcpu,hlen,_,hfin,hwant⟩:=h
 obtain ⟨s,es,hsl,hs⟩:=Zaj hs
 obtain ⟨o,eo,hol,hs⟩:=Zbv hs
 obtain ⟨x,hx,hs⟩:=rd_some hs
 split at hs
 ·rename_i hsh
  cases hs
  exact toW [0] h hpc (fun _=>fap (fap (fap (fap (rE 0 32 (eSl es)) (ltE (eSl es) ZaH)) (rE 0 16 (eOb eo))) (ltE (eOb eo) Za3)) (a1E h (liE h (eSl es) (eOb eo)) (Zaa hx))) (fun _ _ _=>k1 (Znv (Zam (liE h (eSl es) (eOb eo)) hx) (h.w hx) (kyE (eSl es)) (Nat.mod_lt _ (by omega)) (eOb eo) (by omega) (by assumption) (Says.si z1))) (fun _=>ls0) fun _=>rs0 h 0
 ·rename_i y hsh
  have hy:=Zfg hsh
  split at hs
  ·rename_i hyl
   cases hs
   exact toW [y] h hpc (fun _=>fap (fap (fap (fap (fap (fap (rE 0 32 (eSl es)) (ltE (eSl es) ZaH)) (rE 0 16 (eOb eo))) (ltE (eOb eo) Za3)) (a1E h (liE h (eSl es) (eOb eo)) (Zaa hx))) (rE (-1) 16 z1)) (ltE z1 Za3)) (fun _ _ _=>k1 (ZgL (Zam (liE h (eSl es) (eOb eo)) hx) (h.w hx) (kyE (eSl es)) (Nat.mod_lt _ (by omega)) (eOb eo) (by omega) (by assumption) (Says.si z1))) (fun _=>ls0) fun _=>(rs0 h 3).i 12 z1
  ·rename_i hyl
   cases hs
   exact toW [y] h hpc (fun _=>fap (fap (fap (fap (fap (fap (rE 0 32 (eSl es)) (ltE (eSl es) ZaH)) (rE 0 16 (eOb eo))) (ltE (eOb eo) Za3)) (a1E h (liE h (eSl es) (eOb eo)) (Zaa hx))) (rE (-1) 17 z1)) (geE z1 Za3)) (fun _ _ _=>k1 (ZgL (Zam (liE h (eSl es) (eOb eo)) hx) (h.w hx) (kyE (eSl es)) (Nat.mod_lt _ (by omega)) (eOb eo) (by omega) (by assumption) (Says.si z1))) (fun _=>ls0) fun _=>rs0 h 0
theorem Ztu (h:ZaU c mn cp t g)(hpc:t.pc=3)(hs:Zbq c g t=some (t',g')):Zae 43 c mn cp t g t' g':=by
 unfold Zbq at hs
 rw [hpc] at hs
 have ⟨hC,hS,hO,hmn,hcp,_,hcpu,hlen,_,hfin,hwant⟩:=h
 obtain ⟨s,es,hsl,hs⟩:=Zaj hs
 obtain ⟨hla,hs⟩:=Zad hs
 obtain ⟨p,q,hp,hq,hs⟩:=ZaI hs
 rcases hs with ⟨rfl,rfl,hr⟩ | ⟨hne,hr⟩ | ⟨rfl,hne,hr⟩
 ·cases hr
  exact toW [((headW (s:Int) t.last:Nat):Int)] h hpc (fun _=>fap (fap (fap (fap (fap (rE 0 32 (eSl es)) (ltE (eSl es) ZaH)) (rE (-1) 16 ZbF)) (a2E h (hdE Zak) (Zaa hq))) (eqE (Zam (hdE Zak) hp) Zkn)) (eqE (Zam (p1E (hdE Zak)) hq) Zf0)) (fun _ _ _=>k1 (Zdq (Says.si (eSl es)) (Says.si ZbF) ⟨(by omega),(by omega),(by omega),(by omega)⟩ z1)) (fun _=>s2E ls0 (hdE Zak) z1 (ZdA Zf0) (Zaa hq) hlen.2) fun _=>(rs0 h 3).n 3 1
 ·cases hr
  exact toW [((headW (s:Int) t.last:Nat):Int)] h hpc (fun _=>fap (fap (fap (fap (rE 0 32 (eSl es)) (ltE (eSl es) ZaH)) (rE (-1) 16 ZbF)) (a2E h (hdE Zak) (Zaa hq))) (neE (Zam (hdE Zak) hp) Zkn)) (fun _ _ _=>k1 (Zdq (Says.si (eSl es)) (Says.si ZbF) ⟨(by omega),(by omega),(by omega),(by omega)⟩ z1)) (fun _=>ls0) fun _=>rs0 h 0
 ·cases hr
  exact toW [((headW (s:Int) t.last:Nat):Int)] h hpc (fun _=>fap (fap (fap (fap (fap (rE 0 32 (eSl es)) (ltE (eSl es) ZaH)) (rE (-1) 16 ZbF)) (a2E h (hdE Zak) (Zaa hq))) (eqE (Zam (hdE Zak) hp) Zkn)) (neE (Zam (p1E (hdE Zak)) hq) Zf0)) (fun _ _ _=>k1 (Zdq (Says.si (eSl es)) (Says.si ZbF) ⟨(by omega),(by omega),(by omega),(by omega)⟩ z1)) (fun _=>ls0) fun _=>rs0 h 0
theorem Zr6 (h:ZaU c mn cp t g)(hpc:t.pc=10)(hs:Zbq c g t=some (t',g')):Zae 43 c mn cp t g t' g':=by
 unfold Zbq at hs
 rw [hpc] at hs
 have ⟨hC,hS,hO,hmn,hcp,_,hcpu,hlen,_,hfin,hwant⟩:=h
 unfold ZeO at hs
 obtain ⟨x,hx,hs⟩:=rd_some hs
 cases hs
 exact toW [] h hpc (fun _=>a1E h (p1E (hdE Zak)) (Zaa hx)) (fun _ _ _=>k0) (fun _=>ls0) fun _=>(rs0 h 11).u 8 (Zam (p1E (hdE Zak)) hx)
theorem Zr7 (h:ZaU c mn cp t g)(hpc:t.pc=11)(hs:Zbq c g t=some (t',g')):Zae 43 c mn cp t g t' g':=by
 unfold Zbq at hs
 rw [hpc] at hs
 have ⟨hC,hS,hO,hmn,hcp,_,hcpu,hlen,_,hfin,hwant⟩:=h
 obtain ⟨x,hx,hs⟩:=rd_some hs
 obtain ⟨a,b,hho,hs⟩:=Zfw hs
 have hge:=ZgE hho
 obtain ⟨hb,hs⟩:=Zad hs
 split at hs
 ·rename_i hss
  cases hs
  exact toW [a,b] h hpc (fun _=>fap (fap (fap (fap (fap (a1E h (hdE Zak) (Zaa hx)) (rE (-1) 32 z1)) (ltE z1 ZaH)) (rE (-1) 16 z2)) (ltE z2 Za3)) (eqE z1 ZfE)) (fun _ _ _=>k1 (ZcB (Zam (hdE Zak) hx) (h.w hx) (by assumption) (Says.si z1) (Says.si z2))) (fun _=>ls0) fun _=>((rs0 h 12).u 7 (Zam (hdE Zak) hx)).i 12 z2
 ·rename_i hss
  cases hs
  exact toW [a,b] h hpc (fun _=>fap (fap (fap (fap (fap (a1E h (hdE Zak) (Zaa hx)) (rE (-1) 32 z1)) (ltE z1 ZaH)) (rE (-1) 16 z2)) (ltE z2 Za3)) (neE z1 ZfE)) (fun _ _ _=>k1 (ZcB (Zam (hdE Zak) hx) (h.w hx) (by assumption) (Says.si z1) (Says.si z2))) (fun _=>ls0) fun _=>(rs0 h 50).u 7 (Zam (hdE Zak) hx)
theorem Zr8 (h:ZaU c mn cp t g)(hpc:t.pc=12)(hs:Zbq c g t=some (t',g')):Zae 43 c mn cp t g t' g':=by
 unfold Zbq at hs
 rw [hpc] at hs
 have ⟨hC,hS,hO,hmn,hcp,_,hcpu,hlen,_,hfin,hwant⟩:=h
 obtain ⟨s,es,hsl,hs⟩:=Zaj hs
 obtain ⟨o,eo,hol,hs⟩:=Zbv hs
 obtain ⟨hla,hs⟩:=Zad hs
 obtain ⟨hi,hs⟩:=ZaM hs
 cases hs
 exact toW [((ZaR t.last (See.keyOf c.key s) o:Nat):Int)] h hpc (fun _=>fap (fap (fap (fap (fap (rE 0 32 (eSl es)) (ltE (eSl es) ZaH)) (rE 0 16 (eOb eo))) (ltE (eOb eo) Za3)) (a1E h (liE h (eSl es) (eOb eo)) hi)) (rE (-1) 16 ZbF)) (fun _ _ _=>k1 (ZdO (Says.si ZbF) (kyE (eSl es)) (Nat.mod_lt _ (by omega)) (Says.si (eOb eo)) (by omega) (by omega) z1)) (fun _=>s1E ls0 (liE h (eSl es) (eOb eo)) z1 hi) fun _=>rs0 h 13
theorem Zr9 (h:ZaU c mn cp t g)(hpc:t.pc=13)(hs:Zbq c g t=some (t',g')):Zae 43 c mn cp t g t' g':=by
 unfold Zbq at hs
 rw [hpc] at hs
 have ⟨hC,hS,hO,hmn,hcp,_,hcpu,hlen,_,hfin,hwant⟩:=h
 obtain ⟨s,es,hsl,hs⟩:=Zaj hs
 obtain ⟨o,eo,hol,hs⟩:=Zbv hs
 obtain ⟨p,q,hp,hq,hs⟩:=ZaI hs
 rcases hs with ⟨rfl,rfl,hr⟩ | ⟨hne,hr⟩ | ⟨rfl,hne,hr⟩
 ·cases hr
  exact toW [((headW (s:Int) (o:Int):Nat):Int)] h hpc (fun _=>fap (fap (fap (fap (fap (fap (rE 0 32 (eSl es)) (ltE (eSl es) ZaH)) (rE 0 16 (eOb eo))) (ltE (eOb eo) Za3)) (a2E h (hdE Zak) (Zaa hq))) (eqE (Zam (hdE Zak) hp) Zkn)) (eqE (Zam (p1E (hdE Zak)) hq) Zf0)) (fun _ _ _=>k1 (Zdq (Says.si (eSl es)) (Says.si (eOb eo)) ⟨(by omega),(by omega),(by omega),(by omega)⟩ z1)) (fun _=>s2E ls0 (hdE Zak) z1 (ZdA Zf0) (Zaa hq) hlen.2) fun _=>(rs0 h 13).n 3 1
 ·cases hr
  exact toW [((headW (s:Int) (o:Int):Nat):Int)] h hpc (fun _=>fap (fap (fap (fap (fap (rE 0 32 (eSl es)) (ltE (eSl es) ZaH)) (rE 0 16 (eOb eo))) (ltE (eOb eo) Za3)) (a2E h (hdE Zak) (Zaa hq))) (neE (Zam (hdE Zak) hp) Zkn)) (fun _ _ _=>k1 (Zdq (Says.si (eSl es)) (Says.si (eOb eo)) ⟨(by omega),(by omega),(by omega),(by omega)⟩ z1)) (fun _=>ls0) fun _=>rs0 h 10
 ·cases hr
  exact toW [((headW (s:Int) (o:Int):Nat):Int)] h hpc (fun _=>fap (fap (fap (fap (fap (fap (rE 0 32 (eSl es)) (ltE (eSl es) ZaH)) (rE 0 16 (eOb eo))) (ltE (eOb eo) Za3)) (a2E h (hdE Zak) (Zaa hq))) (eqE (Zam (hdE Zak) hp) Zkn)) (neE (Zam (p1E (hdE Zak)) hq) Zf0)) (fun _ _ _=>k1 (Zdq (Says.si (eSl es)) (Says.si (eOb eo)) ⟨(by omega),(by omega),(by omega),(by omega)⟩ z1)) (fun _=>ls0) fun _=>rs0 h 10
theorem fast_ok (h:ZaU c mn cp t g)(hs:Zbq c g t=some (t',g')):Zae 43 c mn cp t g t' g':=by
 have hs0:=hs
 unfold Zbq at hs
 split at hs
 ·exact Ztr h (by assumption) hs0
 ·exact Zts h (by assumption) hs0
 ·exact Ztt h (by assumption) hs0
 ·exact Ztu h (by assumption) hs0
 ·exact Zr6 h (by assumption) hs0
 ·exact Zr7 h (by assumption) hs0
 ·exact Zr8 h (by assumption) hs0
 ·exact Zr9 h (by assumption) hs0
 ·cases hs
end
end Go.Proofs.YtfcpdlbkmkhhcaaGreatDoor.Cw

namespace Go.Proofs.YtfcpdlbkmkhhcaaGreatDoor.Cw
open Go Ex Mem See
open Go.RowKit
section
variable {c:Ch}{mn cp:Nat}{t t':Tk}{g g':List Nat}
theorem ZrE (h:ZaU c mn cp t g)(hpc:t.pc=50)(hs:ZaD c mn cp g t=some (t',g')):Zae 45 c mn cp t g t' g':=by
 unfold ZaD at hs
 rw [hpc] at hs
 have ⟨hC,hS,hO,hmn,hcp,_,hcpu,hlen,_,hfin,hwant⟩:=h
 obtain ⟨s,es,hsl,hs⟩:=Zaj hs
 obtain ⟨x,hx,hs⟩:=rd_some hs
 obtain ⟨hF2,hs⟩:=Zad hs
 cases hs
 exact toW [] h hpc (fun _=>fap (fap (fap (fap (rE 0 32 (eSl es)) (ltE (eSl es) ZaH)) (a1E h (fiE h (eSl es)) (Zaa hx))) (rE 0 17 (Zam (fiE h (eSl es)) hx))) (geE (cuE Za3) (Zam (fiE h (eSl es)) hx))) (fun _ _ _=>k0) (fun _=>ls0) fun _=>(rs0 h 51).u 9 (Zam (fiE h (eSl es)) hx)
theorem ZrF (h:ZaU c mn cp t g)(hpc:t.pc=51)(hs:ZaD c mn cp g t=some (t',g')):Zae 45 c mn cp t g t' g':=by
 unfold ZaD at hs
 rw [hpc] at hs
 have ⟨hC,hS,hO,hmn,hcp,_,hcpu,hlen,_,hfin,hwant⟩:=h
 obtain ⟨s,es,hsl,hs⟩:=Zaj hs
 obtain ⟨x,hx,hs⟩:=rd_some hs
 obtain ⟨k,hk,hl,h1,h2,h3,hs⟩:=Za5 hs
 obtain ⟨h4,hs⟩:=Zad hs
 cases hs
 exact toW [(k.inuse:Int),(k.objects:Int),if k.frozen=true then 1 else 0] h hpc (fun _=>fap (fap (fap (fap (rE 0 32 (eSl es)) (ltE (eSl es) ZaH)) (a1E h (p1E (fiE h (eSl es))) (Zaa hx))) (rE 1 17 z1)) (rE 1 17 z2)) (fun _ _ _=>k1 (Zah (Zam (p1E (fiE h (eSl es))) hx) (h.w hx) hk hl (Says.si z1) (Says.si z2) (ZkH z3))) (fun _=>ls0) fun _=>(rs0 h 52).u 10 (Zam (p1E (fiE h (eSl es))) hx)
theorem ZrG (h:ZaU c mn cp t g)(hpc:t.pc=52)(hs:ZaD c mn cp g t=some (t',g')):Zae 45 c mn cp t g t' g':=by
 unfold ZaD at hs
 rw [hpc] at hs
 have ⟨hC,hS,hO,hmn,hcp,_,hcpu,hlen,_,hfin,hwant⟩:=h
 obtain ⟨s,es,hsl,hs⟩:=Zaj hs
 obtain ⟨o,eo,hol,hs⟩:=Zbv hs
 obtain ⟨hF2,hs⟩:=Zad hs
 obtain ⟨k,hk,hl,h1,h2,h3,hs⟩:=Za5 hs
 obtain ⟨h4,hs⟩:=Zad hs
 obtain ⟨hi,hs⟩:=ZaM hs
 by_cases hfz:k.frozen=true
 ·rw [if_pos hfz] at hs
  cases hs
  exact toW [(k.inuse:Int),(k.objects:Int),0,((ZaR ((t.F:Int) - 1) (See.keyOf c.key s) o:Nat):Int)] h hpc (fun _=>fap (fap (fap (fap (fap (fap (fap (fap (rE 0 32 (eSl es)) (ltE (eSl es) ZaH)) (rE 0 16 (eOb eo))) (ltE (eOb eo) Za3)) (a1E h (liE h (eSl es) (eOb eo)) hi)) (rE 1 17 z1)) (rE 1 17 z2)) (rE 0 17 ZaG)) (geE (cuE Za3) ZaG)) (fun _ _ _=>k2 (Zah ZbH (ZaJ (by assumption)) hk hl (Says.si z1) (Says.si z2) (by rw [hfz]; exact Says.bool)) (ZdO (Says.si (sbE (ciE ZaG) (lE 1))) (kyE (eSl es)) (Nat.mod_lt _ (by omega)) (Says.si (eOb eo)) (by omega) (by omega) z4)) (fun _=>s1E ls0 (liE h (eSl es) (eOb eo)) z4 hi) fun _=>rs0 h 53
 ·rw [if_neg hfz] at hs
  have hfz:k.frozen=false:=by simpa using hfz
  by_cases hF0:t.F=0
  ·rw [if_pos hF0] at hs
   cases hs
   exact toW [(k.inuse:Int),(k.objects:Int),0,((ZaR ((t.F:Int) - 1) (See.keyOf c.key s) o:Nat):Int)] h hpc (fun _=>fap (fap (fap (fap (fap (fap (fap (fap (fap (rE 0 32 (eSl es)) (ltE (eSl es) ZaH)) (rE 0 16 (eOb eo))) (ltE (eOb eo) Za3)) (a1E h (liE h (eSl es) (eOb eo)) hi)) (rE 1 17 z1)) (rE 1 17 z2)) (rE 0 17 ZaG)) (geE (cuE Za3) ZaG)) (eqE ZaG (lE 0))) (fun _ _ _=>k2 (Zah ZbH (ZaJ (by assumption)) hk hl (Says.si z1) (Says.si z2) (by rw [hfz]; exact Says.bool)) (ZdO (Says.si (sbE (ciE ZaG) (lE 1))) (kyE (eSl es)) (Nat.mod_lt _ (by omega)) (Says.si (eOb eo)) (by omega) (by omega) z4)) (fun _=>s1E ls0 (liE h (eSl es) (eOb eo)) z4 hi) fun _=>rs0 h 54
  ·rw [if_neg hF0] at hs
   by_cases h1u:1<k.inuse
   ·rw [if_pos h1u] at hs
    cases hs
    exact toW [(k.inuse:Int),(k.objects:Int),0,((ZaR ((t.F:Int) - 1) (See.keyOf c.key s) o:Nat):Int)] h hpc (fun _=>fap (fap (fap (fap (fap (fap (fap (fap (fap (fap (rE 0 32 (eSl es)) (ltE (eSl es) ZaH)) (rE 0 16 (eOb eo))) (ltE (eOb eo) Za3)) (a1E h (liE h (eSl es) (eOb eo)) hi)) (rE 1 17 z1)) (rE 1 17 z2)) (rE 0 17 ZaG)) (geE (cuE Za3) ZaG)) (neE ZaG (lE 0))) (ltE (lE 1) z1)) (fun _ _ _=>k2 (Zah ZbH (ZaJ (by assumption)) hk hl (Says.si z1) (Says.si z2) (by rw [hfz]; exact Says.bool)) (ZdO (Says.si (sbE (ciE ZaG) (lE 1))) (kyE (eSl es)) (Nat.mod_lt _ (by omega)) (Says.si (eOb eo)) (by omega) (by omega) z4)) (fun _=>s1E ls0 (liE h (eSl es) (eOb eo)) z4 hi) fun _=>rs0 h 53
   ·rw [if_neg h1u] at hs
    cases hs
    exact toW [(k.inuse:Int),(k.objects:Int),0,((ZaR ((t.F:Int) - 1) (See.keyOf c.key s) o:Nat):Int)] h hpc (fun _=>fap (fap (fap (fap (fap (fap (fap (fap (fap (fap (rE 0 32 (eSl es)) (ltE (eSl es) ZaH)) (rE 0 16 (eOb eo))) (ltE (eOb eo) Za3)) (a1E h (liE h (eSl es) (eOb eo)) hi)) (rE 1 17 z1)) (rE 1 17 z2)) (rE 0 17 ZaG)) (geE (cuE Za3) ZaG)) (neE ZaG (lE 0))) (geE (lE 1) z1)) (fun _ _ _=>k2 (Zah ZbH (ZaJ (by assumption)) hk hl (Says.si z1) (Says.si z2) (by rw [hfz]; exact Says.bool)) (ZdO (Says.si (sbE (ciE ZaG) (lE 1))) (kyE (eSl es)) (Nat.mod_lt _ (by omega)) (Says.si (eOb eo)) (by omega) (by omega) z4)) (fun _=>s1E ls0 (liE h (eSl es) (eOb eo)) z4 hi) fun _=>rs0 h 55
theorem ZrH (h:ZaU c mn cp t g)(hpc:t.pc=53)(hs:ZaD c mn cp g t=some (t',g')):Zae 45 c mn cp t g t' g':=by
 unfold ZaD at hs
 rw [hpc] at hs
 have ⟨hC,hS,hO,hmn,hcp,_,hcpu,hlen,_,hfin,hwant⟩:=h
 obtain ⟨s,es,hsl,hs⟩:=Zaj hs
 obtain ⟨o,eo,hol,hs⟩:=Zbv hs
 obtain ⟨k0,hk0,_,_,_,_,hs⟩:=Za5 hs
 unfold ZgD at hs
 obtain ⟨k,hk,hl,h1,h2,h3,hs⟩:=Za5 hs
 obtain ⟨⟨hf,h4⟩,hs⟩:=Zad hs
 have ek:k0=k:=Option.some.inj (hk0.symm.trans hk)
 subst ek
 by_cases hfz:k0.frozen=true
 ·rw [hfz] at hs
  obtain ⟨p,q,hp,hq,hs⟩:=ZaI hs
  rcases hs with ⟨rfl,rfl,hr⟩ | ⟨hne,hr⟩ | ⟨rfl,hne,hr⟩
  ·cases hr
   exact toW [(k0.inuse:Int),(k0.objects:Int),0,((Zat (k0.inuse - 1) k0.objects true true:Nat):Int)] h hpc (fun _=>fap (fap (fap (fap (fap (fap (fap (fap (rE 0 32 (eSl es)) (ltE (eSl es) ZaH)) (rE 0 16 (eOb eo))) (ltE (eOb eo) Za3)) (rE 1 17 z1)) (rE 1 17 z2)) (a2E h (fiE h (eSl es)) (Zaa hq))) (eqE (Zam (fiE h (eSl es)) hp) ZaG)) (eqE (Zam (p1E (fiE h (eSl es))) hq) ZbH)) (fun _ _ _=>k2 (Zah ZbH (ZaJ (by assumption)) hk hl (Says.si z1) (Says.si z2) (by rw [hfz]; exact Says.bool)) (Zaz (Says.si (sbN z1 (lM 1))) (Says.si z2) Says.bool (by omega) (by omega) (by omega) z4)) (fun _=>s2E ls0 (fiE h (eSl es)) (cuE (p1E (eOb eo))) z4 (Zaa hq) hlen.2) fun _=>(rs0 h 53).n 3 1
  ·cases hr
   exact toW [(k0.inuse:Int),(k0.objects:Int),0,((Zat (k0.inuse - 1) k0.objects true true:Nat):Int)] h hpc (fun _=>fap (fap (fap (fap (fap (fap (fap (rE 0 32 (eSl es)) (ltE (eSl es) ZaH)) (rE 0 16 (eOb eo))) (ltE (eOb eo) Za3)) (rE 1 17 z1)) (rE 1 17 z2)) (a2E h (fiE h (eSl es)) (Zaa hq))) (neE (Zam (fiE h (eSl es)) hp) ZaG)) (fun _ _ _=>k2 (Zah ZbH (ZaJ (by assumption)) hk hl (Says.si z1) (Says.si z2) (by rw [hfz]; exact Says.bool)) (Zaz (Says.si (sbN z1 (lM 1))) (Says.si z2) Says.bool (by omega) (by omega) (by omega) z4)) (fun _=>ls0) fun _=>rs0 h 50
  ·cases hr
   exact toW [(k0.inuse:Int),(k0.objects:Int),0,((Zat (k0.inuse - 1) k0.objects true true:Nat):Int)] h hpc (fun _=>fap (fap (fap (fap (fap (fap (fap (fap (rE 0 32 (eSl es)) (ltE (eSl es) ZaH)) (rE 0 16 (eOb eo))) (ltE (eOb eo) Za3)) (rE 1 17 z1)) (rE 1 17 z2)) (a2E h (fiE h (eSl es)) (Zaa hq))) (eqE (Zam (fiE h (eSl es)) hp) ZaG)) (neE (Zam (p1E (fiE h (eSl es))) hq) ZbH)) (fun _ _ _=>k2 (Zah ZbH (ZaJ (by assumption)) hk hl (Says.si z1) (Says.si z2) (by rw [hfz]; exact Says.bool)) (Zaz (Says.si (sbN z1 (lM 1))) (Says.si z2) Says.bool (by omega) (by omega) (by omega) z4)) (fun _=>ls0) fun _=>rs0 h 50
 ·have hfz:k0.frozen=false:=by simpa using hfz
  rw [hfz] at hs
  obtain ⟨p,q,hp,hq,hs⟩:=ZaI hs
  rcases hs with ⟨rfl,rfl,hr⟩ | ⟨hne,hr⟩ | ⟨rfl,hne,hr⟩
  ·cases hr
   exact toW [(k0.inuse:Int),(k0.objects:Int),0,((Zat (k0.inuse - 1) k0.objects false true:Nat):Int)] h hpc (fun _=>fap (fap (fap (fap (fap (fap (fap (fap (rE 0 32 (eSl es)) (ltE (eSl es) ZaH)) (rE 0 16 (eOb eo))) (ltE (eOb eo) Za3)) (rE 1 17 z1)) (rE 1 17 z2)) (a2E h (fiE h (eSl es)) (Zaa hq))) (eqE (Zam (fiE h (eSl es)) hp) ZaG)) (eqE (Zam (p1E (fiE h (eSl es))) hq) ZbH)) (fun _ _ _=>k2 (Zah ZbH (ZaJ (by assumption)) hk hl (Says.si z1) (Says.si z2) (by rw [hfz]; exact Says.bool)) (Zaz (Says.si (sbN z1 (lM 1))) (Says.si z2) Says.bool (by omega) (by omega) (by omega) z4)) (fun _=>s2E ls0 (fiE h (eSl es)) (cuE (p1E (eOb eo))) z4 (Zaa hq) hlen.2) fun _=>(rs0 h 53).n 3 1
  ·cases hr
   exact toW [(k0.inuse:Int),(k0.objects:Int),0,((Zat (k0.inuse - 1) k0.objects false true:Nat):Int)] h hpc (fun _=>fap (fap (fap (fap (fap (fap (fap (rE 0 32 (eSl es)) (ltE (eSl es) ZaH)) (rE 0 16 (eOb eo))) (ltE (eOb eo) Za3)) (rE 1 17 z1)) (rE 1 17 z2)) (a2E h (fiE h (eSl es)) (Zaa hq))) (neE (Zam (fiE h (eSl es)) hp) ZaG)) (fun _ _ _=>k2 (Zah ZbH (ZaJ (by assumption)) hk hl (Says.si z1) (Says.si z2) (by rw [hfz]; exact Says.bool)) (Zaz (Says.si (sbN z1 (lM 1))) (Says.si z2) Says.bool (by omega) (by omega) (by omega) z4)) (fun _=>ls0) fun _=>rs0 h 50
  ·cases hr
   exact toW [(k0.inuse:Int),(k0.objects:Int),0,((Zat (k0.inuse - 1) k0.objects false true:Nat):Int)] h hpc (fun _=>fap (fap (fap (fap (fap (fap (fap (fap (rE 0 32 (eSl es)) (ltE (eSl es) ZaH)) (rE 0 16 (eOb eo))) (ltE (eOb eo) Za3)) (rE 1 17 z1)) (rE 1 17 z2)) (a2E h (fiE h (eSl es)) (Zaa hq))) (eqE (Zam (fiE h (eSl es)) hp) ZaG)) (neE (Zam (p1E (fiE h (eSl es))) hq) ZbH)) (fun _ _ _=>k2 (Zah ZbH (ZaJ (by assumption)) hk hl (Says.si z1) (Says.si z2) (by rw [hfz]; exact Says.bool)) (Zaz (Says.si (sbN z1 (lM 1))) (Says.si z2) Says.bool (by omega) (by omega) (by omega) z4)) (fun _=>ls0) fun _=>rs0 h 50
theorem ZrI (h:ZaU c mn cp t g)(hpc:t.pc=54)(hs:ZaD c mn cp g t=some (t',g')):Zae 45 c mn cp t g t' g':=by
 unfold ZaD at hs
 rw [hpc] at hs
 have ⟨hC,hS,hO,hmn,hcp,_,hcpu,hlen,_,hfin,hwant⟩:=h
 obtain ⟨s,es,hsl,hs⟩:=Zaj hs
 obtain ⟨o,eo,hol,hs⟩:=Zbv hs
 unfold ZgD at hs
 obtain ⟨k,hk,hl,h1,h2,h3,hs⟩:=Za5 hs
 obtain ⟨⟨hf,h4⟩,hs⟩:=Zad hs
 have hfz:=hf
 obtain ⟨p,q,hp,hq,hs⟩:=ZaI hs
 rcases hs with ⟨rfl,rfl,hr⟩ | ⟨hne,hr⟩ | ⟨rfl,hne,hr⟩
 ·cases hr
  exact toW [(k.inuse:Int),(k.objects:Int),0,((Zat (k.inuse - 1) k.objects true true:Nat):Int)] h hpc (fun _=>fap (fap (fap (fap (fap (fap (fap (fap (rE 0 32 (eSl es)) (ltE (eSl es) ZaH)) (rE 0 16 (eOb eo))) (ltE (eOb eo) Za3)) (rE 1 17 z1)) (rE 1 17 z2)) (a2E h (fiE h (eSl es)) (Zaa hq))) (eqE (Zam (fiE h (eSl es)) hp) ZaG)) (eqE (Zam (p1E (fiE h (eSl es))) hq) ZbH)) (fun _ _ _=>k2 (Zah ZbH (ZaJ (by assumption)) hk hl (Says.si z1) (Says.si z2) (by rw [hfz]; exact Says.bool)) (Zaz (Says.si (sbN z1 (lM 1))) (Says.si z2) Says.bool (by omega) (by omega) (by omega) z4)) (fun _=>s2E ls0 (fiE h (eSl es)) (cuE (p1E (eOb eo))) z4 (Zaa hq) hlen.2) fun _=>rs0 h 60
 ·cases hr
  exact toW [(k.inuse:Int),(k.objects:Int),0,((Zat (k.inuse - 1) k.objects true true:Nat):Int)] h hpc (fun _=>fap (fap (fap (fap (fap (fap (fap (rE 0 32 (eSl es)) (ltE (eSl es) ZaH)) (rE 0 16 (eOb eo))) (ltE (eOb eo) Za3)) (rE 1 17 z1)) (rE 1 17 z2)) (a2E h (fiE h (eSl es)) (Zaa hq))) (neE (Zam (fiE h (eSl es)) hp) ZaG)) (fun _ _ _=>k2 (Zah ZbH (ZaJ (by assumption)) hk hl (Says.si z1) (Says.si z2) (by rw [hfz]; exact Says.bool)) (Zaz (Says.si (sbN z1 (lM 1))) (Says.si z2) Says.bool (by omega) (by omega) (by omega) z4)) (fun _=>ls0) fun _=>rs0 h 50
 ·cases hr
  exact toW [(k.inuse:Int),(k.objects:Int),0,((Zat (k.inuse - 1) k.objects true true:Nat):Int)] h hpc (fun _=>fap (fap (fap (fap (fap (fap (fap (fap (rE 0 32 (eSl es)) (ltE (eSl es) ZaH)) (rE 0 16 (eOb eo))) (ltE (eOb eo) Za3)) (rE 1 17 z1)) (rE 1 17 z2)) (a2E h (fiE h (eSl es)) (Zaa hq))) (eqE (Zam (fiE h (eSl es)) hp) ZaG)) (neE (Zam (p1E (fiE h (eSl es))) hq) ZbH)) (fun _ _ _=>k2 (Zah ZbH (ZaJ (by assumption)) hk hl (Says.si z1) (Says.si z2) (by rw [hfz]; exact Says.bool)) (Zaz (Says.si (sbN z1 (lM 1))) (Says.si z2) Says.bool (by omega) (by omega) (by omega) z4)) (fun _=>ls0) fun _=>rs0 h 50
theorem ZrK (h:ZaU c mn cp t g)(hpc:t.pc=56)(hs:ZaD c mn cp g t=some (t',g')):Zae 45 c mn cp t g t' g':=by
 unfold ZaD at hs
 rw [hpc] at hs
 have ⟨hC,hS,hO,hmn,hcp,_,hcpu,hlen,_,hfin,hwant⟩:=h
 obtain ⟨s,es,hsl,hs⟩:=Zaj hs
 obtain ⟨o,eo,hol,hs⟩:=Zbv hs
 unfold ZgD at hs
 obtain ⟨k,hk,hl,h1,h2,h3,hs⟩:=Za5 hs
 obtain ⟨⟨hf,h4⟩,hs⟩:=Zad hs
 have hfz:=hf
 obtain ⟨p,q,hp,hq,hs⟩:=ZaI hs
 rcases hs with ⟨rfl,rfl,hr⟩ | ⟨hne,hr⟩ | ⟨rfl,hne,hr⟩
 ·cases hr
  exact toW [(k.inuse:Int),(k.objects:Int),0,((Zat (k.inuse - 1) k.objects false true:Nat):Int)] h hpc (fun _=>fap (fap (fap (fap (fap (fap (fap (fap (rE 0 32 (eSl es)) (ltE (eSl es) ZaH)) (rE 0 16 (eOb eo))) (ltE (eOb eo) Za3)) (rE 1 17 z1)) (rE 1 17 z2)) (a2E h (fiE h (eSl es)) (Zaa hq))) (eqE (Zam (fiE h (eSl es)) hp) ZaG)) (eqE (Zam (p1E (fiE h (eSl es))) hq) ZbH)) (fun _ _ _=>k2 (Zah ZbH (ZaJ (by assumption)) hk hl (Says.si z1) (Says.si z2) (by rw [hfz]; exact Says.bool)) (Zaz (Says.si (sbN z1 (lM 1))) (Says.si z2) Says.bool (by omega) (by omega) (by omega) z4)) (fun _=>s2E ls0 (fiE h (eSl es)) (cuE (p1E (eOb eo))) z4 (Zaa hq) hlen.2) fun _=>((rs0 h 58).u 9 (cuE (p1E (eOb eo)))).u 10 z4
 ·cases hr
  exact toW [(k.inuse:Int),(k.objects:Int),0,((Zat (k.inuse - 1) k.objects false true:Nat):Int)] h hpc (fun _=>fap (fap (fap (fap (fap (fap (fap (rE 0 32 (eSl es)) (ltE (eSl es) ZaH)) (rE 0 16 (eOb eo))) (ltE (eOb eo) Za3)) (rE 1 17 z1)) (rE 1 17 z2)) (a2E h (fiE h (eSl es)) (Zaa hq))) (neE (Zam (fiE h (eSl es)) hp) ZaG)) (fun _ _ _=>k2 (Zah ZbH (ZaJ (by assumption)) hk hl (Says.si z1) (Says.si z2) (by rw [hfz]; exact Says.bool)) (Zaz (Says.si (sbN z1 (lM 1))) (Says.si z2) Says.bool (by omega) (by omega) (by omega) z4)) (fun _=>ls0) fun _=>rs0 h 57
 ·cases hr
  exact toW [(k.inuse:Int),(k.objects:Int),0,((Zat (k.inuse - 1) k.objects false true:Nat):Int)] h hpc (fun _=>fap (fap (fap (fap (fap (fap (fap (fap (rE 0 32 (eSl es)) (ltE (eSl es) ZaH)) (rE 0 16 (eOb eo))) (ltE (eOb eo) Za3)) (rE 1 17 z1)) (rE 1 17 z2)) (a2E h (fiE h (eSl es)) (Zaa hq))) (eqE (Zam (fiE h (eSl es)) hp) ZaG)) (neE (Zam (p1E (fiE h (eSl es))) hq) ZbH)) (fun _ _ _=>k2 (Zah ZbH (ZaJ (by assumption)) hk hl (Says.si z1) (Says.si z2) (by rw [hfz]; exact Says.bool)) (Zaz (Says.si (sbN z1 (lM 1))) (Says.si z2) Says.bool (by omega) (by omega) (by omega) z4)) (fun _=>ls0) fun _=>rs0 h 57
theorem ZrJ (h:ZaU c mn cp t g)(hpc:t.pc=55)(hs:ZaD c mn cp g t=some (t',g')):Zae 45 c mn cp t g t' g':=by
 unfold ZaD at hs
 rw [hpc] at hs
 have ⟨hC,hS,hO,hmn,hcp,_,hcpu,hlen,_,hfin,hwant⟩:=h
 obtain ⟨x,hx,hs⟩:=rd_some hs
 split at hs
 ·rename_i hx0
  obtain ⟨hi,hs⟩:=ZaM hs
  cases hs
  exact toW [] h hpc (fun _=>fap (a1E h (baE h) (by first | exact hi | exact Zaa hx)) (eqE (Zam (baE h) hx) (lE 0))) (fun _ _ _=>k0) (fun _=>s1E ls0 (baE h) (lM 1) (by first | exact hi | exact Zaa hx)) fun _=>rs0 h 56
 ·rename_i hx0
  cases hs
  exact toW [] h hpc (fun _=>fap (a1E h (baE h) (by first | exact hi | exact Zaa hx)) (neE (Zam (baE h) hx) (lE 0))) (fun _ _ _=>k0) (fun _=>ls0) fun _=>rsS h hpc
theorem ZrL (h:ZaU c mn cp t g)(hpc:t.pc=57)(hs:ZaD c mn cp g t=some (t',g')):Zae 45 c mn cp t g t' g':=by
 unfold ZaD at hs
 rw [hpc] at hs
 have ⟨hC,hS,hO,hmn,hcp,_,hcpu,hlen,_,hfin,hwant⟩:=h
 obtain ⟨hi,hs⟩:=ZaM hs
 cases hs
 exact toW [] h hpc (fun _=>a1E h (baE h) hi) (fun _ _ _=>k0) (fun _=>s1E ls0 (baE h) (lM 0) hi) fun _=>rs0 h 50
theorem ZrN (h:ZaU c mn cp t g)(hpc:t.pc=59)(hs:ZaD c mn cp g t=some (t',g')):Zae 45 c mn cp t g t' g':=by
 unfold ZaD at hs
 rw [hpc] at hs
 have ⟨hC,hS,hO,hmn,hcp,_,hcpu,hlen,_,hfin,hwant⟩:=h
 obtain ⟨hi,hs⟩:=ZaM hs
 cases hs
 exact toW [] h hpc (fun _=>a1E h (baE h) hi) (fun _ _ _=>k0) (fun _=>s1E ls0 (baE h) (lM 0) hi) fun _=>(rs0 h 59).n 3 1
theorem ZrM (h:ZaU c mn cp t g)(hpc:t.pc=58)(hs:ZaD c mn cp g t=some (t',g')):Zae 45 c mn cp t g t' g':=by
 unfold ZaD at hs
 rw [hpc] at hs
 have ⟨hC,hS,hO,hmn,hcp,_,hcpu,hlen,_,hfin,hwant⟩:=h
 obtain ⟨x,hx,hs⟩:=rd_some hs
 split at hs
 ·rename_i hx0
  cases hs
  exact toW [] h hpc (fun _=>fap (a1E h (heE h) (Zaa hx)) (ltE (cuE Zpt) (Zam (heE h) hx))) (fun _ _ _=>k0) (fun _=>ls0) fun _=>rs0 h 64
 ·rename_i hx0
  cases hs
  exact toW [] h hpc (fun _=>fap (a1E h (heE h) (Zaa hx)) (geE (cuE Zpt) (Zam (heE h) hx))) (fun _ _ _=>k0) (fun _=>ls0) fun _=>rs0 h 59
theorem ZrO (h:ZaU c mn cp t g)(hpc:t.pc=60)(hs:ZaD c mn cp g t=some (t',g')):Zae 45 c mn cp t g t' g':=by
 unfold ZaD at hs
 rw [hpc] at hs
 have ⟨hC,hS,hO,hmn,hcp,_,hcpu,hlen,_,hfin,hwant⟩:=h
 unfold ZeO at hs
 obtain ⟨x,hx,hs⟩:=rd_some hs
 cases hs
 exact toW [] h hpc (fun _=>a1E h (p1E (ptE Zak)) (Zaa hx)) (fun _ _ _=>k0) (fun _=>ls0) fun _=>(rs0 h 61).u 8 (Zam (p1E (ptE Zak)) hx)
theorem ZrP (h:ZaU c mn cp t g)(hpc:t.pc=61)(hs:ZaD c mn cp g t=some (t',g')):Zae 45 c mn cp t g t' g':=by
 unfold ZaD at hs
 rw [hpc] at hs
 have ⟨hC,hS,hO,hmn,hcp,_,hcpu,hlen,_,hfin,hwant⟩:=h
 obtain ⟨x,hx,hs⟩:=rd_some hs
 obtain ⟨a,b,hpo,hs⟩:=Zcs hs
 have hge:=ZcI hpo
 obtain ⟨hb,hs⟩:=Zad hs
 split at hs
 ·rename_i hx0
  cases hs
  exact toW [a,b] h hpc (fun _=>fap (fap (fap (fap (a1E h (ptE Zak) (Zaa hx)) (rE (-1) 32 z1)) (ltE z1 ZaH)) (rE 0 64 z2)) (ltE z2 Zs3)) (fun _ _ _=>k1 (Zbf (Zam (ptE Zak) hx) (h.w hx) (by assumption) (Says.si z1) (Says.si z2))) (fun _=>ls0) fun _=>(rs0 h 62).u 11 (Zam (ptE Zak) hx)
 ·rename_i hx0
  cases hs
  exact toW [a,b] h hpc (fun _=>fap (fap (fap (fap (a1E h (ptE Zak) (Zaa hx)) (rE (-1) 32 z1)) (ltE z1 ZaH)) (rE 0 64 z2)) (geE z2 Zs3)) (fun _ _ _=>k1 (Zbf (Zam (ptE Zak) hx) (h.w hx) (by assumption) (Says.si z1) (Says.si z2))) (fun _=>ls0) fun _=>((((rs0 h 80).n 6 (-1)).u 11 (Zam (ptE Zak) hx)).n 13 0).n 15 0
theorem ZrQ (h:ZaU c mn cp t g)(hpc:t.pc=62)(hs:ZaD c mn cp g t=some (t',g')):Zae 45 c mn cp t g t' g':=by
 unfold ZaD at hs
 rw [hpc] at hs
 have ⟨hC,hS,hO,hmn,hcp,_,hcpu,hlen,_,hfin,hwant⟩:=h
 obtain ⟨s,es,hsl,hs⟩:=Zaj hs
 obtain ⟨hi,hs⟩:=ZaM hs
 cases hs
 exact toW [] h hpc (fun _=>fap (fap (rE 0 32 (eSl es)) (ltE (eSl es) ZaH)) (a1E h (nxE h (eSl es)) hi)) (fun _ _ _=>k0) (fun _=>s1E ls0 (nxE h (eSl es)) Zhp hi) fun _=>rs0 h 63
theorem ZrR (h:ZaU c mn cp t g)(hpc:t.pc=63)(hs:ZaD c mn cp g t=some (t',g')):Zae 45 c mn cp t g t' g':=by
 unfold ZaD at hs
 rw [hpc] at hs
 have ⟨hC,hS,hO,hmn,hcp,_,hcpu,hlen,_,hfin,hwant⟩:=h
 obtain ⟨s,es,hsl,hs⟩:=Zaj hs
 obtain ⟨a,b,hpo,hs⟩:=Zcs hs
 have hge:=ZcI hpo
 obtain ⟨hb,hs⟩:=Zad hs
 have hpk:Zen (s:Int) (b+1):=by
  unfold Zen
  omega
 obtain ⟨p,q,hp,hq,hs⟩:=ZaI hs
 rcases hs with ⟨rfl,rfl,hr⟩ | ⟨hne,hr⟩ | ⟨rfl,hne,hr⟩
 ·cases hr
  exact toW [a,b,((ZdG (s:Int) (b+1):Nat):Int)] h hpc (fun _=>fap (fap (fap (fap (fap (fap (fap (rE 0 32 (eSl es)) (ltE (eSl es) ZaH)) (rE (-1) 32 z1)) (ltE z1 ZaH)) (rE 0 64 z2)) (a2E h (ptE Zak) (Zaa hq))) (eqE (Zam (ptE Zak) hp) Zhp)) (eqE (Zam (p1E (ptE Zak)) hq) Zf0)) (fun _ _ _=>k2 (Zbf Zhp (ZlQ (by assumption)) (by assumption) (Says.si z1) (Says.si z2)) (ZkN (Says.si (eSl es)) (Says.si (adE z2 (lE 1))) hpk z3)) (fun _=>s2E ls0 (ptE Zak) z3 (ZdA Zf0) (Zaa hq) hlen.2) fun _=>(rs0 h 63).n 3 1
 ·cases hr
  exact toW [a,b,((ZdG (s:Int) (b+1):Nat):Int)] h hpc (fun _=>fap (fap (fap (fap (fap (fap (rE 0 32 (eSl es)) (ltE (eSl es) ZaH)) (rE (-1) 32 z1)) (ltE z1 ZaH)) (rE 0 64 z2)) (a2E h (ptE Zak) (Zaa hq))) (neE (Zam (ptE Zak) hp) Zhp)) (fun _ _ _=>k2 (Zbf Zhp (ZlQ (by assumption)) (by assumption) (Says.si z1) (Says.si z2)) (ZkN (Says.si (eSl es)) (Says.si (adE z2 (lE 1))) hpk z3)) (fun _=>ls0) fun _=>rs0 h 60
 ·cases hr
  exact toW [a,b,((ZdG (s:Int) (b+1):Nat):Int)] h hpc (fun _=>fap (fap (fap (fap (fap (fap (fap (rE 0 32 (eSl es)) (ltE (eSl es) ZaH)) (rE (-1) 32 z1)) (ltE z1 ZaH)) (rE 0 64 z2)) (a2E h (ptE Zak) (Zaa hq))) (eqE (Zam (ptE Zak) hp) Zhp)) (neE (Zam (p1E (ptE Zak)) hq) Zf0)) (fun _ _ _=>k2 (Zbf Zhp (ZlQ (by assumption)) (by assumption) (Says.si z1) (Says.si z2)) (ZkN (Says.si (eSl es)) (Says.si (adE z2 (lE 1))) hpk z3)) (fun _=>ls0) fun _=>rs0 h 60
theorem ZrS (h:ZaU c mn cp t g)(hpc:t.pc=64)(hs:ZaD c mn cp g t=some (t',g')):Zae 45 c mn cp t g t' g':=by
 unfold ZaD at hs
 rw [hpc] at hs
 have ⟨hC,hS,hO,hmn,hcp,_,hcpu,hlen,_,hfin,hwant⟩:=h
 obtain ⟨s,es,hsl,hs⟩:=Zaj hs
 obtain ⟨x,hx,hs⟩:=rd_some hs
 obtain ⟨hb,hs⟩:=Zad hs
 split at hs
 ·rename_i hx0
  cases hs
  exact toW [] h hpc (fun _=>fap (fap (fap (fap (fap (rE 0 32 (eSl es)) (ltE (eSl es) ZaH)) (a1E h (shE h) (Zaa hx))) (rE 1 33 (Zam (shE h) hx))) (geE (cuE ZaH) (Zam (shE h) hx))) (eqE (sbE (ciE (Zam (shE h) hx)) (lE 1)) (eSl es))) (fun _ _ _=>k0) (fun _=>ls0) fun _=>(rs0 h 66).n 14 (-1)
 ·rename_i hx0
  cases hs
  exact toW [] h hpc (fun _=>fap (fap (fap (fap (fap (rE 0 32 (eSl es)) (ltE (eSl es) ZaH)) (a1E h (shE h) (Zaa hx))) (rE 1 33 (Zam (shE h) hx))) (geE (cuE ZaH) (Zam (shE h) hx))) (neE (sbE (ciE (Zam (shE h) hx)) (lE 1)) (eSl es))) (fun _ _ _=>k0) (fun _=>ls0) fun _=>(rs0 h 65).i 14 (sbE (ciE (Zam (shE h) hx)) (lE 1))
theorem ZrT (h:ZaU c mn cp t g)(hpc:t.pc=65)(hs:ZaD c mn cp g t=some (t',g')):Zae 45 c mn cp t g t' g':=by
 unfold ZaD at hs
 rw [hpc] at hs
 have ⟨hC,hS,hO,hmn,hcp,_,hcpu,hlen,_,hfin,hwant⟩:=h
 obtain ⟨s,es,hsl,hs⟩:=Zaj hs
 obtain ⟨hto,hs⟩:=Zad hs
 obtain ⟨x,hx,hs⟩:=rd_some hs
 obtain ⟨hb,hs⟩:=Zad hs
 split at hs
 ·rename_i hx0
  cases hs
  exact toW [] h hpc (fun _=>fap (fap (fap (fap (fap (fap (fap (rE 0 32 (eSl es)) (ltE (eSl es) ZaH)) (rE 0 32 (eTo (by omega)))) (ltE (eTo (by omega)) ZaH)) (a1E h (nxE h (eTo (by omega))) (Zaa hx))) (rE 1 33 (Zam (nxE h (eTo (by omega))) hx))) (geE (cuE ZaH) (Zam (nxE h (eTo (by omega))) hx))) (eqE (sbE (ciE (Zam (nxE h (eTo (by omega))) hx)) (lE 1)) (eSl es))) (fun _ _ _=>k0) (fun _=>ls0) fun _=>rs0 h 66
 ·rename_i hx0
  cases hs
  exact toW [] h hpc (fun _=>fap (fap (fap (fap (fap (fap (fap (rE 0 32 (eSl es)) (ltE (eSl es) ZaH)) (rE 0 32 (eTo (by omega)))) (ltE (eTo (by omega)) ZaH)) (a1E h (nxE h (eTo (by omega))) (Zaa hx))) (rE 1 33 (Zam (nxE h (eTo (by omega))) hx))) (geE (cuE ZaH) (Zam (nxE h (eTo (by omega))) hx))) (neE (sbE (ciE (Zam (nxE h (eTo (by omega))) hx)) (lE 1)) (eSl es))) (fun _ _ _=>k0) (fun _=>ls0) fun _=>(rs0 h 65).i 14 (sbE (ciE (Zam (nxE h (eTo (by omega))) hx)) (lE 1))
theorem ZrU (h:ZaU c mn cp t g)(hpc:t.pc=66)(hs:ZaD c mn cp g t=some (t',g')):Zae 45 c mn cp t g t' g':=by
 unfold ZaD at hs
 rw [hpc] at hs
 have ⟨hC,hS,hO,hmn,hcp,_,hcpu,hlen,_,hfin,hwant⟩:=h
 obtain ⟨s,es,hsl,hs⟩:=Zaj hs
 obtain ⟨x,hx,hs⟩:=rd_some hs
 obtain ⟨hb,hs⟩:=Zad hs
 cases hs
 exact toW [] h hpc (fun _=>fap (fap (fap (fap (rE 0 32 (eSl es)) (ltE (eSl es) ZaH)) (a1E h (nxE h (eSl es)) (Zaa hx))) (rE 0 33 (Zam (nxE h (eSl es)) hx))) (geE (cuE ZaH) (Zam (nxE h (eSl es)) hx))) (fun _ _ _=>k0) (fun _=>ls0) fun _=>(rs0 h 67).u 11 (Zam (nxE h (eSl es)) hx)
theorem ZrV (h:ZaU c mn cp t g)(hpc:t.pc=67)(hs:ZaD c mn cp g t=some (t',g')):Zae 45 c mn cp t g t' g':=by
 unfold ZaD at hs
 rw [hpc] at hs
 have ⟨hC,hS,hO,hmn,hcp,_,hcpu,hlen,_,hfin,hwant⟩:=h
 change (if t.to_ = -1 then _ else _)=_ at hs
 split at hs
 ·rename_i hto
  obtain ⟨hi,hs⟩:=ZaM hs
  cases hs
  exact toW [] h hpc (fun _=>fap (a1E h (shE h) hi) (eqE Zpu (lE (-1)))) (fun _ _ _=>k0) (fun _=>s1E ls0 (shE h) Zhp hi) fun _=>rs0 h 68
 ·rename_i hto
  obtain ⟨hb,hs⟩:=Zad hs
  obtain ⟨hi,hs⟩:=ZaM hs
  cases hs
  exact toW [] h hpc (fun _=>fap (fap (fap (rE 0 32 (eTo (by omega))) (ltE (eTo (by omega)) ZaH)) (a1E h (nxE h (eTo (by omega))) hi)) (neE (eTo (by omega)) (lE (-1)))) (fun _ _ _=>k0) (fun _=>s1E ls0 (nxE h (eTo (by omega))) Zhp hi) fun _=>rs0 h 68
theorem ZrW (h:ZaU c mn cp t g)(hpc:t.pc=68)(hs:ZaD c mn cp g t=some (t',g')):Zae 45 c mn cp t g t' g':=by
 unfold ZaD at hs
 rw [hpc] at hs
 have ⟨hC,hS,hO,hmn,hcp,_,hcpu,hlen,_,hfin,hwant⟩:=h
 obtain ⟨x,hx,hs⟩:=rd_some hs
 obtain ⟨hi,hs⟩:=ZaM hs
 cases hs
 exact toW [] h hpc (fun _=>a1E h (heE h) (by first | exact hi | exact Zaa hx)) (fun _ _ _=>k0) (fun _=>s1E ls0 (heE h) (ZkP (Zam (heE h) hx)) (by first | exact hi | exact Zaa hx)) fun _=>(rs0 h 76).n 15 0
theorem Zp5 (h:ZaU c mn cp t g)(hs:ZaD c mn cp g t=some (t',g')):Zae 45 c mn cp t g t' g':=by
 have hs0:=hs
 unfold ZaD at hs
 split at hs
 ·exact ZrE h (by assumption) hs0
 ·exact ZrF h (by assumption) hs0
 ·exact ZrG h (by assumption) hs0
 ·exact ZrH h (by assumption) hs0
 ·exact ZrI h (by assumption) hs0
 ·exact ZrJ h (by assumption) hs0
 ·exact ZrK h (by assumption) hs0
 ·exact ZrL h (by assumption) hs0
 ·exact ZrM h (by assumption) hs0
 ·exact ZrN h (by assumption) hs0
 ·exact ZrO h (by assumption) hs0
 ·exact ZrP h (by assumption) hs0
 ·exact ZrQ h (by assumption) hs0
 ·exact ZrR h (by assumption) hs0
 ·exact ZrS h (by assumption) hs0
 ·exact ZrT h (by assumption) hs0
 ·exact ZrU h (by assumption) hs0
 ·exact ZrV h (by assumption) hs0
 ·exact ZrW h (by assumption) hs0
 ·cases hs
end
end Go.Proofs.YtfcpdlbkmkhhcaaGreatDoor.Cw
