/-
  Texts of this claim, joined. No condition.
-/
import Derived.Test.YtfcpdlbkmkhhcaaGreatDoorCn27
namespace Go.Proofs.YtfcpdlbkmkhhcaaGreatDoor.Cv
open See Cw
section
structure Cx (c:Ch)(mn cp:Nat)(st:St)(g:List Nat)(k:Nat)(t:Tk):Prop where
 I:Inv c mn cp st
 E:Enc c st g
 W:W64 g
 tk:st.tk k=some t
 C:1≤c.C∧c.C≤5
 S:1≤c.S∧c.S≤32
 O:1≤c.O∧c.O≤16
 cp:cp≤32
 mn:mn≤32
 n:st.n<1000000000
variable {c:Ch}{mn cp:Nat}{st st1 st':St}{g g':List Nat}{k:Nat}{t t':Tk}
def stop (t':Tk):Option Tk:=if t'.fin=0 then some t' else none
def AO (k:Nat)(st st':St)(s:Nat):Prop:=st'.own s=st.own s∨st'.own s = .head k∨st'.own s = .mine k∨st'.own s = .full∧st.own s = .mine k∧st.ol s .first=[]
structure Res (c:Ch)(mn cp:Nat)(st:St)(g:List Nat)(k:Nat)(t:Tk)(t':Tk)(g':List Nat)(st':St):Prop where
 step:Zba c mn cp g t=some (t',g')
 E:Enc c st' g'
 W:W64 g'
 I:Inv c mn cp st'
 tk:st'.tk=upd st.tk k (stop t')
 fin:t'.fin=0∨t'.fin=1
 job:t'.job=t.job
 n:st'.n≤st.n+1
 ao:t.job=1→∀ s,AO k st st' s
 phi:Phi c st'+1≤Phi c st∨t'=t∧g'=g∧st'=st∧st.hold≠none∧Zcj t.pc=false
 out:if t.job=1∧t'.fin=1 then ∃ s o:Nat,t'.slab=(s:Int)∧t'.obj=(o:Int)∧s<c.S∧o<c.O∧st.loc s o≠.out∧∀ x y,st'.loc x y = .out↔st.loc x y = .out∨x=s∧y=o
  else ∀ x y,st'.loc x y = .out↔st.loc x y = .out
theorem Cx.loc (X:Cx c mn cp st g k t):Loc c mn cp st k t:=(X.I.loc k t X.tk).2
theorem Cx.kC (X:Cx c mn cp st g k t):k<c.C:=(X.I.loc k t X.tk).1
theorem At.tick {j:Nat}{x:Option Tk}(h:At c mn cp st k t):At c mn cp (Cv.tick st none none j x) k t:=h
theorem Zbt {x:Option Tk}(i:Ix):val c (tick st none none k x) i=val c st i:=by cases i <;> rfl
theorem Left.tick {j:Nat}{x:Option Tk}(hj:j≠k):Left c j st (tick st none none k x):=ZaO.left hj ZaO.refl rfl rfl
theorem Zdv {x:Tk}(h:st.tk k=some x):Zkl c st k=pot c st x:=by
 unfold Zkl
 rw [h]
theorem Inv.go {hx px:Option Nat}(X:Cx c mn cp st g k t)(G1:Zbc c mn cp st1)(R:∀ j,j≠k→ZaO c j hx px st st1)(h1:st1.ht=st.ht)(h2:st1.pt=st.pt)(hL:Loc c mn cp (tick st1 hx px k (some t')) k t')
 (hh:st1.hold=some k→Zcj t'.pc=true∧t'.want=0):Inv c mn cp (tick st1 hx px k (some t')) :=
 X.I.step X.kC (Zha G1) (fun j hj=>(R j hj).left hj h1 h2) (.inr ⟨t',upd_same,hL⟩) fun e=>⟨t',upd_same,hh e⟩
theorem Inv.fin {hx px:Option Nat}(X:Cx c mn cp st g k t)(G1:Zbc c mn cp st1)(R:∀ j,j≠k→ZaO c j hx px st st1)(h1:st1.ht=st.ht)(h2:st1.pt=st.pt)(hL:Has st1 k [] 0 [] [])
 (hh:st1.hold≠some k):Inv c mn cp (tick st1 hx px k none) :=
 X.I.step X.kC (Zha G1) (fun j hj=>(R j hj).left hj h1 h2) (.inl ⟨upd_same,⟨hL.ms,hL.ob,hL.ch⟩⟩) fun e=>absurd e hh
def Zt0 (pc pc':Int):Bool:=pc' != 78&&alloc pc'==alloc pc&&(Zcj pc'==Zcj pc||Zcj pc')
theorem Res.read {pc pc':Int}(X:Cx c mn cp st g k t)(hpc:t.pc=pc)(hpc':t'.pc=pc')(hok:Zt0 pc pc'=true)(hs:Zba c mn cp g t=some (t',g))(hA:At c mn cp st k t')(hcpu:t'.cpu=t.cpu)(hfin:t'.fin=t.fin)(hjob:t'.job=t.job)(hw:t'.want=0)(hpot:pot c st t'+1≤pot c st t):∃ t' g' st',Res c mn cp st g k t t' g' st':=by
 have hl:=X.loc
 have hf:t'.fin=0:=hfin.trans hl.fin
 obtain ⟨hp,hal,hlk⟩:t'.pc≠78∧alloc t'.pc=alloc t.pc∧(Zcj t'.pc=Zcj t.pc∨Zcj t'.pc=true):=by
  rw [hpc,hpc']
  unfold Zt0 at hok
  simpa [and_assoc] using hok
 have hst:stop t'=some t':=if_pos hf
 have hI:Inv c mn cp (tick st none none k (some t')):=by
  refine Inv.go X X.I.G (fun j _=>ZaO.refl) rfl rfl ⟨hcpu.trans hl.cpu,hf,?_,.inl hw,fun e=>absurd e hp,At.tick hA⟩ fun e=>⟨?_,hw⟩
  ·rw [hjob,hal]
   exact hl.job
  ·obtain ⟨t2,h1,h2,_⟩:=X.I.lockd k e
   rw [X.tk] at h1
   cases h1
   rcases hlk with h | h
   ·rw [h]
    exact h2
   ·exact h
 refine ⟨t',g,tick st none none k (some t'),hs,X.E.same (fun i _=>Zbt i),X.W,hI,by rw [hst]; rfl,.inl hf,hjob,Nat.le_refl _,fun _ _=>.inl rfl,.inl ?_,?_⟩
 ·refine ZiT (q1:=0) (q2:=0) (q3:=0) (p:=0) (p':=0) (l:=0) (l':=0) X.I X.kC X.C.2 (fun j hj=>Left.tick hj) (fun _ _=>rfl) (fun _ _=>rfl) (fun _ _=>⟨rfl,rfl⟩) ⟨.inl rfl,.inl rfl,.inl rfl⟩ rfl rfl ⟨by omega,by omega⟩ ?_
  rw [Zdv (upd_same:(tick st none none k (some t')).tk k=some t'),Zdv X.tk]
  have:pot c (tick st none none k (some t')) t'=pot c st t':=rfl
  rw [this]
  omega
 ·rw [if_neg (fun e=>by rw [hf] at e; cases e.2)]
  exact fun _ _=>Iff.rfl
end
end Go.Proofs.YtfcpdlbkmkhhcaaGreatDoor.Cv

namespace Go.Proofs.YtfcpdlbkmkhhcaaGreatDoor.Cv
open See Cw
section
variable {c:Ch}{mn cp:Nat}{st st1 st':St}{g g':List Nat}{k:Nat}{t t':Tk}
theorem Cx.at_ (X:Cx c mn cp st g k t):At c mn cp st k t:=X.loc.at_
theorem Cx.cpu (X:Cx c mn cp st g k t):t.cpu=k:=X.loc.cpu
theorem Cx.w0 (X:Cx c mn cp st g k t)(h:t.pc≠43)(h2:t.pc≠78):t.want=0:=by
 rcases X.loc.want with h | h | h
 ·exact h
 ·exact absurd h.1 ‹_›
 ·exact absurd h.1 h2
theorem Cx.rhd (X:Cx c mn cp st g k t){j:Nat}(h:j<c.C):g[ZbV j]?=some (hw st j):=X.E.val (.hd j) h
theorem Cx.rht (X:Cx c mn cp st g k t){j:Nat}(h:j<c.C):g[ZbV j+1]?=some (st.ht j):=X.E.val (.ht j) h
theorem Cx.rpd (X:Cx c mn cp st g k t){j:Nat}(h:j<c.C):g[ZcH j]?=some (pw (st.sl (.part j))):=X.E.val (.pd j) h
theorem Cx.rpt (X:Cx c mn cp st g k t){j:Nat}(h:j<c.C):g[ZcH j+1]?=some (st.pt j):=X.E.val (.pt j) h
theorem Cx.rlk (X:Cx c mn cp st g k t){s o:Nat}(hs:s<c.S)(ho:o<c.O):g[ZhF c s o]?=some (st.lk s o):=X.E.val (.lk s o) ⟨hs,ho⟩
theorem Cx.rfr (X:Cx c mn cp st g k t){s:Nat}(hs:s<c.S):g[ZbU c s]?=some (fr st s):=X.E.val (.fr s) hs
theorem Cx.rct (X:Cx c mn cp st g k t){s:Nat}(hs:s<c.S):g[ZbU c s+1]?=some (ct c st s):=X.E.val (.ct s) hs
theorem Cx.rnx (X:Cx c mn cp st g k t){s:Nat}(hs:s<c.S):g[Zgb c s]?=some (st.nx s):=X.E.val (.nx s) hs
theorem Cx.rlock (X:Cx c mn cp st g k t):g[Zbl c]?=some (lw st):=X.E.val .lock trivial
theorem Cx.Zff (X:Cx c mn cp st g k t):g[ZbR c]?=some (sw (st.sl .shelf)):=X.E.val .shelf trivial
theorem Cx.ZfX (X:Cx c mn cp st g k t):g[Zdo c]?=some st.held:=X.E.val .held trivial
theorem Zau (h:Zan c t):sn t<c.S:=by
 have:=h.1
 have:=h.2
 unfold sn
 omega
theorem ZdF (h:ZcG c t):on t<c.O:=by
 have:=h.1
 have:=h.2
 unfold on
 omega
theorem ZiA (h:Zan c t):t.slab=(sn t:Int):=by
 have:=h.1
 unfold sn
 omega
theorem Zq5 (h:ZcG c t):t.obj=(on t:Int):=by
 have:=h.1
 unfold on
 omega
theorem ZgX (G:Zbc c mn cp st){s o:Nat}{x:Ct}(hx:x.listed=true)(h:o∈st.ol s x):s<c.S∧o<c.O:=G.ob s o (by
 rw [(G.om s x hx o).1 h]
 intro e
 rw [e] at hx
 cases hx)
theorem Zdy (G:Zbc c mn cp st){s:Nat}{x:Own}(hx:x.listed=true)(h:s∈st.sl x):s<c.S:=G.sb s (by
 rw [(G.sm x hx s).1 h]
 intro e
 rw [e] at hx
 cases hx)
theorem ZeA (G:Zbc c mn cp st){s:Nat}{x:Ct}(hx:x.listed=true)(hO:1≤c.O){l:List Nat}(h:∀ o∈l,o∈st.ol s x):ZcP l (-1)<c.O:=by
 cases l with
 | nil =>
   show (-1:Int)<c.O
   omega
 | cons a l =>
   have:=(ZgX G hx (h a List.mem_cons_self)).2
   show (a:Int)<c.O
   omega
theorem ZoQ (G:Zbc c mn cp st)(s:Nat):fr st s≤c.O:=by
 unfold fr
 cases h:st.ol s .first with
 | nil=>exact Nat.zero_le _
 | cons a l=>exact (ZgX G (x:=.first) rfl (by rw [h]; exact List.mem_cons_self)).2
theorem Zsy {s:Nat}(h:st.ol s .first≠[]):1≤fr st s:=by
 unfold fr
 cases h2:st.ol s .first with
 | nil=>exact absurd h2 h
 | cons a l=>exact Nat.succ_le_succ (Nat.zero_le _)
theorem Zia (G:Zbc c mn cp st)(x:Nat):st.sl (.head x)=[]∨∃ s,st.sl (.head x)=[s]:=by
 have:=(G.s1 x).1
 cases h:st.sl (.head x) with
 | nil=>exact .inl rfl
 | cons a l =>
   rw [h] at this
   simp at this
   exact .inr ⟨a,by rw [this]⟩
theorem Zhz {x:Nat}(h:st.sl (.head x)=[]):hw st x=0:=by
 unfold hw
 rw [h]
theorem Zlw {x s:Nat}(h:st.sl (.head x)=[s]):hw st x=headW (s:Int) (ZcP (st.ol s (.head x)) (-1)):=by
 unfold hw
 rw [h]
theorem ZqQ (G:Zbc c mn cp st)(hS:c.S≤32)(hO:c.O≤16)(hO1:1≤c.O){x s:Nat}(h:st.sl (.head x)=[s]):ZdD (hw st x)=some ((s:Int),ZcP (st.ol s (.head x)) (-1)):=by
 rw [Zlw h]
 have h1:=Zdy G (x:=.head x) rfl (s:=s) (by rw [h]; exact List.mem_cons_self)
 have h2:=ZeA G (x:=.head x) (s:=s) rfl hO1 (l:=st.ol s (.head x)) (fun _ h=>h)
 exact Zjm (by omega) (Zez (by omega)) (by omega)
theorem ZbW {s:Nat}{f:Bool}(h:st.lv s=true)(hf:st.frz s=f):ct c st s=Zat (c.O - (st.ol s .first).length) c.O f true:=by
 unfold ct
 rw [if_pos h,hf]
theorem Zfa (X:Cx c mn cp st g k t)(x:Nat):(st.sl (.part x)).length<64∧∀ s∈st.sl (.part x),s<32:=by
 have h1:=X.I.G.cap x
 have h2:=X.cp
 have h3:=X.S
 exact ⟨by omega,fun s hs=>by
  have:=Zdy X.I.G (x:=.part x) rfl hs
  omega⟩
theorem Zdb (G:Zbc c mn cp st):(st.sl .shelf).length≤c.S:=Zqi (G.sd .shelf rfl) fun _ hs=>Zdy G (x:=.shelf) rfl hs
theorem Zd8 (G:Zbc c mn cp st){p q:List Nat}{s:Nat}(h:st.sl .shelf=p++s::q):s<c.S:=Zdy G (x:=.shelf) rfl (by rw [h]; simp)
theorem Zfl (G:Zbc c mn cp st){s o:Nat}(h:st.loc s o = .ZaB k)(hm:st.sl (.mine k)=[]):st.lv s=true:=by
 have hb:=G.ob s o (by rw [h]; intro e; cases e)
 have hnd:st.own s≠.dead:=fun e=>by
  have:=(G.live s o hb.1 hb.2).2 e
  rw [h] at this
  cases this
 cases ho:st.own s with
 | dead=>exact absurd ho hnd
 | full=>exact (G.full s ho).1
 | shelf=>exact (G.shelf s ho).1
 | head x=>exact (G.hpc s x (.inl ho)).1
 | part x=>exact (G.hpc s x (.inr (.inl ho))).1
 | chain x=>exact (G.hpc s x (.inr (.inr ho))).1
 | mine x =>
   cases hl:st.lv s with
   | true=>rfl
   | false =>
     have:=G.making s x ho hl o hb.2
     rw [h] at this
     cases this
     have:=(G.sm (.mine k) rfl s).2 ho
     rw [hm] at this
     cases this
theorem Zcq (G:Zbc c mn cp st){s:Nat}{l:List Nat}(h:st.ol s (.ZaB k)=l):l.length+(st.ol s .first).length≤c.O:=by
 have h1:(l++st.ol s .first).Nodup:=by
  refine List.nodup_append.2 ⟨h ▸ G.od s (.ZaB k) rfl,G.od s .first rfl,?_⟩
  intro a ha b hb e
  subst e
  rw [← h,G.om s _ rfl] at ha
  rw [G.om s _ rfl,ha] at hb
  cases hb
 have:=Zqi (n:=c.O) h1 (by
  intro o ho
  rcases List.mem_append.1 ho with ho | ho
  ·rw [← h] at ho
   exact (ZgX G (x:=.ZaB k) rfl ho).2
  ·exact (ZgX G (x:=.first) rfl ho).2)
 rw [List.length_append] at this
 exact this
theorem ZgG {p q:List Nat}{a:Nat}(h:(p++a::q).Nodup):(p++a::q).idxOf a=p.length:=by
 have h1:=(List.nodup_append.1 h).2.2
 rw [List.idxOf_append,if_neg (fun e=>h1 a e a List.mem_cons_self rfl)]
 simp
theorem Has.at_ {ms l ch:List Nat}{s:Nat}(h:Has st k ms s l ch):st.ol s (.ZaB k)=l:=by rw [h.ob,if_pos rfl]
theorem Zof (G:Zbc c mn cp st){q:List Nat}(h:∀ s∈q,s∈st.sl .shelf):sw q≤c.S:=by
 cases q with
 | nil=>exact Nat.zero_le _
 | cons a q=>exact Zdy G (x:=.shelf) rfl (h a List.mem_cons_self)
theorem ZqV {f:Nat→Nat}{key a:Nat}{e:Int}(h:lkd f key [a] e):f a=ZaR e key a:=h.1
theorem ZqW {f:Nat→Nat}{key a b:Nat}{l:List Nat}{e:Int}(h:lkd f key (a::b::l) e):f a=ZaR (b:Int) key a:=h.1
theorem Zn8 {x key o:Nat}{n:Int}(h:x=ZaR n key o)(h1 : -1≤n)(h2:n<16):Zdc x key o=some n:=by
 rw [h]
 exact ZeL h1 h2
theorem Zq8 {w:Nat}{p:Int×Int}(h:partOf w=some p):w<18446744073709551616:=by
 unfold partOf at h
 split at h
 ·omega
 ·split at h
  ·omega
  ·cases h
end
end Go.Proofs.YtfcpdlbkmkhhcaaGreatDoor.Cv

namespace Go.Proofs.YtfcpdlbkmkhhcaaGreatDoor.Cv
open See Cw
section
variable {c:Ch}{mn cp:Nat}{st st1 st':St}{g g':List Nat}{k:Nat}{t t':Tk}
theorem Res.eff {hx px:Option Nat}{pc pc':Int}(X:Cx c mn cp st g k t)(st1:St)(hpc:t.pc=pc)(hpc':t'.pc=pc')(hok:alloc pc'=alloc pc)(hs:Zba c mn cp g t=some (t',g'))(hcpu:t'.cpu=t.cpu)(hfin:t'.fin=t.fin)(hjob:t'.job=t.job)
 (hw:t'.want=0∧pc'≠78∨pc'=43∧t'.want=1∨pc'=78∧t'.want=2) (G1:Zbc c mn cp st1) (R:∀ j,j≠k→ZaO c j hx px st st1) (hht:st1.ht=st.ht) (hpt:st1.pt=st.pt) (hn:st1.n=st.n) (htk:st1.tk=st.tk)
 (hA:At c mn cp (tick st1 hx px k (some t')) k t') (hh:st1.hold=some k→Zcj pc'=true∧t'.want=0) (E:Enc c (tick st1 hx px k (some t')) g') (W:W64 g') (phi:Phi c (tick st1 hx px k (some t'))+1≤Phi c st) (ho:∀ x y,st1.loc x y = .out↔st.loc x y = .out) (hao:t.job=1→∀ s,AO k st st1 s:=by exact fun _ _=>.inl rfl) :
 ∃ t' g' st',Res c mn cp st g k t t' g' st':=by
 have hl:=X.loc
 have hf:t'.fin=0:=hfin.trans hl.fin
 have hst:stop t'=some t':=if_pos hf
 refine ⟨t',g',tick st1 hx px k (some t'),hs,E,W,?_,?_,.inl hf,hjob,?_,hao,.inl phi,?_⟩
 ·refine Inv.go X G1 R hht hpt ⟨hcpu.trans hl.cpu,hf,?_,?_,?_,hA⟩ (by rw [hpc']; exact hh)
  ·rw [hjob,hpc',hok,← hpc]
   exact hl.job
  ·rw [hpc']
   rcases hw with h | h | h
   ·exact .inl h.1
   ·exact .inr (.inl h)
   ·exact .inr (.inr h)
  ·rw [hpc']
   intro e
   rcases hw with h | h | h
   ·exact absurd e h.2
   ·rw [h.1] at e
    cases e
   ·exact h.2
 ·show upd st1.tk k (some t')=_
  rw [htk,hst]
 ·show st1.n+1≤_
  rw [hn]
  exact Nat.le_refl _
 ·rw [if_neg (fun e=>by rw [hf] at e; cases e.2)]
  exact ho
theorem Res.ZoD {hx px:Option Nat}(X:Cx c mn cp st g k t)(st1:St)(hs:Zba c mn cp g t=some (t',g'))(hfin:t'.fin=1)(hjob:t'.job=t.job)(G1:Zbc c mn cp st1)(R:∀ j,j≠k→ZaO c j hx px st st1)(hht:st1.ht=st.ht)(hpt:st1.pt=st.pt)(hn:st1.n=st.n)(htk:st1.tk=st.tk)
 (hA:Has st1 k [] 0 [] []) (hh:st1.hold≠some k) (E:Enc c (tick st1 hx px k none) g') (W:W64 g') (phi:Phi c (tick st1 hx px k none)+1≤Phi c st)
 (ho:if t.job=1 then ∃ s o:Nat,t'.slab=(s:Int)∧t'.obj=(o:Int)∧s<c.S∧o<c.O∧st.loc s o≠.out∧∀ x y,st1.loc x y = .out↔st.loc x y = .out∨x=s∧y=o else ∀ x y,st1.loc x y = .out↔st.loc x y = .out) (hao:t.job=1→∀ s,AO k st st1 s:=by exact fun _ _=>.inl rfl) :
 ∃ t' g' st',Res c mn cp st g k t t' g' st':=by
 have hst:stop t'=none:=if_neg (by rw [hfin]; decide)
 refine ⟨t',g',tick st1 hx px k none,hs,E,W,Inv.fin X G1 R hht hpt hA hh,?_,.inr hfin,hjob,?_,hao,.inl phi,?_⟩
 ·show upd st1.tk k none=_
  rw [htk,hst]
 ·show st1.n+1≤_
  rw [hn]
  exact Nat.le_refl _
 ·by_cases hj:t.job=1
  ·rw [if_pos ⟨hj,hfin⟩]
   rw [if_pos hj] at ho
   exact ho
  ·rw [if_neg (fun e=>hj e.1)]
   rw [if_neg hj] at ho
   exact ho
theorem Cx.ZjF (X:Cx c mn cp st g k t)(h:alloc t.pc=false):t.job≠1:=fun e=>by
 have:=X.loc.job.1 e
 rw [h] at this
 cases this
theorem Cx.ZtU (X:Cx c mn cp st g k t)(h:alloc t.pc=true):t.job=1:=X.loc.job.2 h
theorem ZbP {s x:Nat}{a b y:Ct}{l1 l2:List Nat}(h1:¬(x=s∧y=b))(h2:¬(x=s∧y=a)):(mvO st s a b l1 l2).ol x y=st.ol x y:=by
 unfold mvO
 dsimp only
 rw [if_neg h1,if_neg h2]
theorem ZcD {s:Nat}{a b:Ct}{l1 l2:List Nat}:(mvO st s a b l1 l2).ol s b=l1++st.ol s b:=if_pos ⟨rfl,rfl⟩
theorem Zci {s:Nat}{a b:Ct}{l1 l2:List Nat}(h:a≠b):(mvO st s a b l1 l2).ol s a=l2:=by
 unfold mvO
 dsimp only
 rw [if_neg (fun e=>h e.2),if_pos ⟨rfl,rfl⟩]
theorem Za1 {a b y:Own}{l1 l2:List Nat}(h1:y≠b)(h2:y≠a):(mvS st a b l1 l2).sl y=st.sl y:=by
 unfold mvS
 dsimp only
 rw [if_neg h1,if_neg h2]
theorem Zdt {a b:Own}{l1 l2:List Nat}:(mvS st a b l1 l2).sl b=l1++st.sl b:=if_pos rfl
theorem ZcE {a b:Own}{l1 l2:List Nat}(h:a≠b):(mvS st a b l1 l2).sl a=l2:=by
 unfold mvS
 dsimp only
 rw [if_neg h,if_pos rfl]
theorem Zdn {s:Nat}(h:st'.ol s .first=st.ol s .first):fr st' s=fr st s:=by
 unfold fr
 rw [h]
theorem Zcx {s:Nat}(h:st'.ol s .first=st.ol s .first)(h1:st'.lv s=st.lv s)(h2:st'.frz s=st.frz s):ct c st' s=ct c st s:=by
 unfold ct
 rw [h,h1,h2]
def Zmt (c:Ch)(st:St):Option Tk→Nat
 | none=>0
 | some t=>pot c st t
theorem ZjO {x:Option Tk}(h:st.tk k=x):Zkl c st k=Zmt c st x:=by
 unfold Zkl
 rw [h]
 cases x <;> rfl
theorem Zee {x:Option Tk}(X:Cx c mn cp st g k t)(R:∀ j,j≠k→ZaO c j none none st st1)(hht:st1.ht=st.ht)(hpt:st1.pt=st.pt)(h1:∀ j,st1.sl (.part j)=st.sl (.part j))(h2:st1.ol=st.ol)(h3:st1.lv=st.lv)(h4:st1.frz=st.frz)
 (hp:Zmt c (tick st1 none none k x) x+1≤pot c st t):Phi c (tick st1 none none k x)+1≤Phi c st:=by
 refine ZiT (q1:=0) (q2:=0) (q3:=0) (p:=0) (p':=0) (l:=0) (l':=0) X.I X.kC X.C.2 (fun j hj=>(R j hj).left hj hht hpt) (fun _ y => ?_) (fun _ y => ?_) (fun _ s=>⟨Zdn ?_,Zcx ?_ ?_ ?_⟩) ⟨.inl rfl,.inl rfl,.inl rfl⟩ ?_ ?_ ⟨by omega,by omega⟩ ?_
 ·show st1.ht y=_
  rw [hht]
 ·show st1.pt y=_
  rw [hpt]
 ·show st1.ol s _=_
  rw [h2]
 ·show st1.ol s _=_
  rw [h2]
 ·show st1.lv s=_
  rw [h3]
 ·show st1.frz s=_
  rw [h4]
 ·rw [ZbK (f':=ptN (tick st1 none none k x)) (f:=ptN st)]
  intro j _
  show (st1.sl _).length=(st.sl _).length
  rw [h1]
 ·rw [ZbK (f':=lvN (tick st1 none none k x)) (f:=lvN st)]
  intro j _
  show (if st1.lv j=true then 1 else 0)=(if st.lv j=true then 1 else 0)
  rw [h3]
 ·rw [Zdv X.tk]
  rw [ZjO (upd_same:(tick st1 none none k x).tk k=x)]
  omega
theorem ZpB {s o x:Nat}{y:Option Tk}(X:Cx c mn cp st g k t)(hs:s<c.S)(ho:o<c.O):Enc c (tick (Zef st s o x) none none k y) (g.set (ZhF c s o) x):=by
 refine X.E.set (i:=.lk s o) ⟨hs,ho⟩ (fun j _ hj => ?_) ?_
 ·rw [Zbt]
  cases j with
  | lk s' o' =>
    show (if s'=s∧o'=o then x else st.lk s' o')=st.lk s' o'
    rw [if_neg]
    rintro ⟨rfl,rfl⟩
    exact hj rfl
  | _=>rfl
 ·show (if s=s∧o=o then x else st.lk s o)=x
  rw [if_pos ⟨rfl,rfl⟩]
theorem ZtR {s x:Nat}{y:Option Tk}(X:Cx c mn cp st g k t)(hs:s<c.S):Enc c (tick (ZfY st s x) none none k y) (g.set (Zgb c s) x):=by
 refine X.E.set (i:=.nx s) hs (fun j _ hj => ?_) ?_
 ·rw [Zbt]
  cases j with
  | nx s' =>
    show (if s'=s then x else st.nx s')=st.nx s'
    rw [if_neg]
    rintro rfl
    exact hj rfl
  | _=>rfl
 ·show (if s=s then x else st.nx s)=x
  rw [if_pos rfl]
theorem Zko {h:Option Nat}{y:Option Tk}(X:Cx c mn cp st g k t):Enc c (tick (Zbx st h) none none k y) (g.set (Zbl c) (if h.isSome then 1 else 0)):=by
 refine X.E.set (i:=.lock) trivial (fun j _ hj => ?_) rfl
 rw [Zbt]
 cases j with
 | lock=>exact absurd rfl hj
 | _=>rfl
theorem Zte {x:Nat}{y:Option Tk}(X:Cx c mn cp st g k t):Enc c (tick (Zg8 st x) none none k y) (g.set (Zdo c) x):=by
 refine X.E.set (i:=.held) trivial (fun j _ hj => ?_) rfl
 rw [Zbt]
 cases j with
 | held=>exact absurd rfl hj
 | _=>rfl
end
end Go.Proofs.YtfcpdlbkmkhhcaaGreatDoor.Cv

namespace Go.Proofs.YtfcpdlbkmkhhcaaGreatDoor.Cv
open See Cw
section
variable {c:Ch}{mn cp:Nat}{st st1 st':St}{g g':List Nat}{k:Nat}{t t':Tk}
theorem Zb8 {s:Nat}{a b:Ct}{l1 l2:List Nat}(i:Ix)(h1:∀ x,i = .hd x→a≠.head x∧b≠.head x)(h2:∀ x,i = .fr x∨i = .ct x→x≠s∨a≠.first∧b≠.first):val c (mvO st s a b l1 l2) i=val c st i:=by
 have hf:∀ x,(x≠s∨a≠.first∧b≠.first)→(mvO st s a b l1 l2).ol x .first=st.ol x .first:=by
  intro x h
  refine ZbP (fun e => ?_) (fun e => ?_)
  ·rcases h with h | h
   ·exact h e.1
   ·exact h.2 e.2.symm
  ·rcases h with h | h
   ·exact h e.1
   ·exact h.1 e.2.symm
 cases i with
 | hd x =>
   obtain ⟨ha,hb⟩:=h1 x rfl
   exact ZbX rfl fun y=>ZbP (fun e=>hb e.2.symm) (fun e=>ha e.2.symm)
 | fr x=>exact Zdn (hf x (h2 x (.inl rfl)))
 | ct x=>exact Zcx (hf x (h2 x (.inr rfl))) rfl rfl
 | _=>rfl
theorem ZcM {a b:Own}{l1 l2:List Nat}(i:Ix)(h1:∀ x,i = .hd x→a≠.head x∧b≠.head x)(h2:∀ x,i = .pd x→a≠.part x∧b≠.part x)(h3:i = .shelf→a≠.shelf∧b≠.shelf):val c (mvS st a b l1 l2) i=val c st i:=by
 cases i with
 | hd x =>
   obtain ⟨ha,hb⟩:=h1 x rfl
   exact ZbX (Za1 hb.symm ha.symm) fun _=>rfl
 | pd x =>
   obtain ⟨ha,hb⟩:=h2 x rfl
   show pw ((mvS st a b l1 l2).sl _)=pw (st.sl _)
   rw [Za1 hb.symm ha.symm]
 | shelf =>
   obtain ⟨ha,hb⟩:=h3 rfl
   show sw ((mvS st a b l1 l2).sl _)=sw (st.sl _)
   rw [Za1 hb.symm ha.symm]
 | _=>rfl
theorem ZdX {s:Nat}{a b:Bool}(i:Ix)(h:i≠.ct s):val c (Zbr st s a b) i=val c st i:=by
 cases i with
 | ct x =>
   have e:x≠s:=fun e=>h (by rw [e])
   exact Zcx rfl (if_neg e) (if_neg e)
 | _=>rfl
theorem Zol {s:Nat}(i:Ix)(h:i≠.ct s):val c (Zgq st s) i=val c st i:=by
 cases i with
 | ct x =>
   have e:x≠s:=fun e=>h (by rw [e])
   exact Zcx rfl rfl (if_neg e)
 | _=>rfl
theorem Zj7 {hx px:Option Nat}{y:Option Tk}(i:Ix)(h1:∀ x,i = .ht x→hx≠some x)(h2:∀ x,i = .pt x→px≠some x):val c (tick st hx px k y) i=val c st i:=by
 cases i with
 | ht x=>exact ZlM (h1 x rfl)
 | pt x=>exact ZlM (h2 x rfl)
 | _=>rfl
theorem ZiO {x:Nat}{y:Option Tk}{v w:Nat}(X:Cx c mn cp st g k t)(hx:x<c.C)(hv:∀ i:Ix,i≠.hd x→val c st1 i=val c st i)(hw1:hw st1 x=v)(hw:st.ht x+1=w):Enc c (tick st1 (some x) none k y) ((g.set (ZbV x) v).set (ZbV x+1) w):=by
 refine X.E.set2 (i:=.hd x) (i2:=.ht x) hx hx (by simp) (fun j _ h1 h2 => ?_) hw1 ?_
 ·rw [Zj7 j (fun z e e2=>h2 (by rw [e]; injection e2 with e2; rw [e2])) (fun z _ e=>by cases e)]
  exact hv j h1
 ·show one (some x) st1.ht x=w
  rw [Zgc,show st1.ht x=st.ht x from hv (.ht x) (by simp)]
  exact hw
theorem ZmF {x:Nat}{y:Option Tk}{v w:Nat}(X:Cx c mn cp st g k t)(hx:x<c.C)(hv:∀ i:Ix,i≠.pd x→val c st1 i=val c st i)(hw1:pw (st1.sl (.part x))=v)(hw:st.pt x+1=w):Enc c (tick st1 none (some x) k y) ((g.set (ZcH x) v).set (ZcH x+1) w):=by
 refine X.E.set2 (i:=.pd x) (i2:=.pt x) hx hx (by simp) (fun j _ h1 h2 => ?_) hw1 ?_
 ·rw [Zj7 j (fun z _ e=>by cases e) (fun z e e2=>h2 (by rw [e]; injection e2 with e2; rw [e2]))]
  exact hv j h1
 ·show one (some x) st1.pt x=w
  rw [Zgc,show st1.pt x=st.pt x from hv (.pt x) (by simp)]
  exact hw
theorem ZcU {s:Nat}{y:Option Tk}{v w:Nat}(X:Cx c mn cp st g k t)(hs:s<c.S)(hv:∀ i:Ix,i≠.fr s→i≠.ct s→val c st1 i=val c st i)(h1:fr st1 s=v)(h2:ct c st1 s=w):Enc c (tick st1 none none k y) ((g.set (ZbU c s) v).set (ZbU c s+1) w):=by
 refine X.E.set2 (i:=.fr s) (i2:=.ct s) hs hs (by simp) (fun j _ h1 h2 => ?_) h1 h2
 rw [Zbt]
 exact hv j h1 h2
theorem Zj5 (X:Cx c mn cp st g k t)(x:Nat):(st.ht x+1) % M64=st.ht x+1∧(st.pt x+1) % M64=st.pt x+1:=by
 have h:=X.I.G.turn x
 have:=X.n
 constructor
 ·show (st.ht x+1) % 18446744073709551616=_
  omega
 ·show (st.pt x+1) % 18446744073709551616=_
  omega
theorem ZsU {x:Nat}{y:Option Tk}(X:Cx c mn cp st g k t)(R:∀ j,j≠k→ZaO c j (some x) none st st1)(hht:st1.ht=st.ht)(hpt:st1.pt=st.pt)(h1:∀ j,st1.sl (.part j)=st.sl (.part j))(h2:∀ s,fr st1 s=fr st s∧ct c st1 s=ct c st s)(h3:st1.lv=st.lv)
 (hp:Zmt c (tick st1 (some x) none k y) y+17≤pot c st t):Phi c (tick st1 (some x) none k y)+1≤Phi c st:=by
 refine ZiT (q1:=4) (q2:=0) (q3:=0) (p:=0) (p':=0) (l:=0) (l':=0) X.I X.kC X.C.2 (fun j hj=>(R j hj).left hj hht hpt) (fun e=>by cases e) (fun _ y => ?_) (fun _ s=>h2 s) ⟨.inr rfl,.inl rfl,.inl rfl⟩ ?_ ?_ ⟨by omega,by omega⟩ ?_
 ·show st1.pt y=_
  rw [hpt]
 ·rw [ZbK (f':=ptN (tick st1 (some x) none k y)) (f:=ptN st)]
  intro j _
  show (st1.sl _).length=(st.sl _).length
  rw [h1]
 ·rw [ZbK (f':=lvN (tick st1 (some x) none k y)) (f:=lvN st)]
  intro j _
  show (if st1.lv j=true then 1 else 0)=(if st.lv j=true then 1 else 0)
  rw [h3]
 ·rw [Zdv X.tk,ZjO (upd_same:(tick st1 (some x) none k y).tk k=y)]
  simp
  omega
theorem ZtE {x:Nat}{y:Option Tk}(X:Cx c mn cp st g k t)(hx:x<c.C)(R:∀ j,j≠k→ZaO c j none (some x) st st1)(hht:st1.ht=st.ht)(hpt:st1.pt=st.pt)(h1:∀ j,j≠x→st1.sl (.part j)=st.sl (.part j))(h2:∀ s,fr st1 s=fr st s∧ct c st1 s=ct c st s)(h3:st1.lv=st.lv)
 (hp:Zmt c (tick st1 none (some x) k y) y+17+47 * (st1.sl (.part x)).length≤pot c st t+47 * (st.sl (.part x)).length):Phi c (tick st1 none (some x) k y)+1≤Phi c st:=by
 refine ZiT (q1:=0) (q2:=4) (q3:=0) (p:=(st.sl (.part x)).length) (p':=(st1.sl (.part x)).length) (l:=0) (l':=0) X.I X.kC X.C.2 (fun j hj=>(R j hj).left hj hht hpt) (fun _ y => ?_) (fun e=>by cases e) (fun _ s=>h2 s) ⟨.inl rfl,.inr rfl,.inl rfl⟩ ?_ ?_ ⟨by omega,by omega⟩ ?_
 ·show st1.ht y=_
  rw [hht]
 ·exact Zgf (f':=ptN (tick st1 none (some x) k y)) (f:=ptN st) hx fun j hj=>by
   show (st1.sl _).length=(st.sl _).length
   rw [h1 j hj]
 ·rw [ZbK (f':=lvN (tick st1 none (some x) k y)) (f:=lvN st)]
  intro j _
  show (if st1.lv j=true then 1 else 0)=(if st.lv j=true then 1 else 0)
  rw [h3]
 ·rw [Zdv X.tk,ZjO (upd_same:(tick st1 none (some x) k y).tk k=y)]
  simp
  omega
theorem ZnV {s:Nat}{y:Option Tk}(X:Cx c mn cp st g k t)(hs:s<c.S)(R:∀ j,j≠k→ZaO c j none none st st1)(hht:st1.ht=st.ht)(hpt:st1.pt=st.pt)(h1:∀ j,st1.sl (.part j)=st.sl (.part j))(h3:∀ x,x≠s→st1.lv x=st.lv x)
 (hp:Zmt c (tick st1 none none k y) y+25+(2 * c.S+33) * lvN st1 s≤pot c st t+(2 * c.S+33) * lvN st s):Phi c (tick st1 none none k y)+1≤Phi c st:=by
 have hl:∀ z:St,lvN z s≤1:=fun z=>by
  unfold lvN
  split <;> omega
 refine ZiT (q1:=0) (q2:=0) (q3:=6) (p:=0) (p':=0) (l:=lvN st s) (l':=lvN st1 s) X.I X.kC X.C.2 (fun j hj=>(R j hj).left hj hht hpt) (fun _ y => ?_) (fun _ y => ?_) (fun e=>by cases e) ⟨.inl rfl,.inl rfl,.inr rfl⟩ ?_ ?_ ⟨hl _,hl _⟩ ?_
 ·show st1.ht y=_
  rw [hht]
 ·show st1.pt y=_
  rw [hpt]
 ·rw [ZbK (f':=ptN (tick st1 none none k y)) (f:=ptN st)]
  intro j _
  show (st1.sl _).length=(st.sl _).length
  rw [h1]
 ·exact Zgf (f':=lvN (tick st1 none none k y)) (f:=lvN st) hs fun j hj=>by
   show (if st1.lv j=true then 1 else 0)=(if st.lv j=true then 1 else 0)
   rw [h3 j hj]
 ·rw [Zdv X.tk,ZjO (upd_same:(tick st1 none none k y).tk k=y)]
  have:max 0 (max 0 6)=6:=rfl
  rw [this]
  omega
theorem Zf7 (G:Zbc c mn cp st){x s:Nat}(h:st.sl (.head x)=[s]):st.own s = .head x:=(G.sm _ rfl s).1 (by rw [h]; simp)
end
end Go.Proofs.YtfcpdlbkmkhhcaaGreatDoor.Cv
