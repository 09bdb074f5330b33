/-
  Texts of this claim, joined. No condition.
-/
import Derived.Test.YtfcpdlbkmkhhcaaGreatDoorCn29
namespace Go.Proofs.YtfcpdlbkmkhhcaaGreatDoor.Cv
open See Cw
section
variable {c:Ch}{mn cp:Nat}{st st1 st':St}{g g':List Nat}{k:Nat}{t t':Tk}
theorem Zbn {P:Nat→Prop}{a:Nat}(h:P a):∀ x∈[a],P x:=fun x hx=>by
 rw [List.mem_singleton] at hx
 rw [hx]
 exact h
theorem p33 (X:Cx c mn cp st g k t)(hpc:t.pc=33):∃ t' g' st',Res c mn cp st g k t t' g' st':=by
 have hA:=X.at_
 unfold At at hA
 rw [hpc] at hA
 have hcpu:=X.cpu
 have hw0:=X.w0 (by omega) (by omega)
 have hC:=X.C
 have hS:=X.S
 have hO:=X.O
 have G:=X.I.G
 obtain ⟨h1,h2,h3,h4,h5⟩:=hA
 have hs:Zba c mn cp g t=if pw (st.sl (.part k))=t.N∧st.pt k=t.T then some ({ t with pc:=21 },(g.set (ZcH k) t.F).set (ZcH k+1) ((t.T+1) % M64)) else some ({ t with pc:=30 },g):=by
  rw [ZbE (by omega) (by omega)]
  unfold Zas
  rw [hpc]
  show Zf3 _ _ _ _ _ _ _ _=_
  rw [hcpu]
  exact Zcv (X.rpd X.kC) (X.rpt X.kC)
 by_cases hc:pw (st.sl (.part k))=t.N∧st.pt k=t.T
 ·rw [if_pos hc] at hs
  have hTw:st.pt k+1=(t.T+1) % M64:=by rw [← hc.2]; exact (Zj5 X k).2.symm
  obtain ⟨h6,r,h7,h8⟩:=h5.2 hc.2.symm
  have ho:st.own (sn t) = .part k:=(G.sm _ rfl (sn t)).1 (by rw [h7]; exact List.mem_cons_self)
  have hlv:=G.hpc (sn t) k (.inr (.inl ho))
  have hM:MvS c cp st (.part k) (.mine k) [sn t] r:={
   ne:=fun e=>by cases e
   src:=fun _=>h7
   at_:=Zbn ho
   nd:=by simp
   ad:=⟨(fun e=>by cases e),fun e=>by cases e⟩
   bd:=fun e=>by cases e
   lv:=Zbn hlv.1
   k:=fun x e=>by rcases e with e | e | e | e <;> cases e; exact X.kC
   one:=fun x e=>by rw [h1.ms]; simp
   fu:=fun e=>by cases e
   sh:=fun e=>by cases e
   hp:=fun x e=>by rcases e with e | e | e <;> cases e
   oh:=fun x e=>by cases e
   cP:=fun x e=>by rcases e with e | e <;> cases e
   cS:=fun e=>by cases e
   cap:=fun x e=>by cases e }
  have hR:∀ j,j≠k→ZaO c j none (some k) st (mvS st (.part k) (.mine k) [sn t] r):=fun j hj=>ZbZ (k:=k) hj (fun _ e=>by rcases e with e | e <;> cases e) (fun _ e=>by rcases e with e | e <;> cases e; rfl) (fun x e=>by rcases e with e | e <;> cases e) (fun x e=>by rcases e with e | e <;> cases e; rfl) (fun _ e=>by cases e) (fun e=>by cases e) (fun e=>by cases e) (fun x e=>by cases e)
  have hla:(mvS st (.part k) (.mine k) [sn t] r).sl (.part k)=r:=ZcE (fun e=>by cases e)
  refine Res.eff X (mvS st (.part k) (.mine k) [sn t] r) (hx:=none) (px:=some k) (t':={ t with pc:=21 }) (pc:=33) (pc':=21) hpc rfl rfl hs rfl rfl rfl (.inl ⟨hw0,by decide⟩) (ZbY G hM) hR rfl rfl rfl rfl ?_ (fun e=>absurd e (X.ZcF (by rw [hpc]; decide))) ?_ ?_ ?_ (fun _ _=>Iff.rfl) (fun _ s=>Zpy (.inr (.inl rfl)))
  ·unfold At
   refine ⟨⟨?_,fun x => ?_,?_⟩,h3,hlv,?_⟩
   ·exact (Zdt (st:=st) (a:=.part k) (b:=.mine k) (l1:=[sn t]) (l2:=r)).trans (by rw [h1.ms]; rfl)
   ·refine (h1.ob x).trans ?_
    split <;> split <;> rfl
   ·exact (Za1 (st:=st) (y:=.chain k) (a:=.part k) (b:=.mine k) (l1:=[sn t]) (l2:=r) (fun e=>by cases e) (fun e=>by cases e)).trans h1.ch
   ·exact (Za1 (st:=st) (y:=.head k) (a:=.part k) (b:=.mine k) (l1:=[sn t]) (l2:=r) (fun e=>by cases e) (fun e=>by cases e)).trans h2
  ·refine ZmF X X.kC (fun i hi => ?_) ?_ hTw
   ·refine ZcM i (fun x e=>⟨(fun e2=>by cases e2),fun e2=>by cases e2⟩) (fun x e=>⟨fun e2 => ?_,fun e2=>by cases e2⟩) (fun _=>⟨(fun e=>by cases e),fun e=>by cases e⟩)
    cases e2
    exact hi e
   ·rw [hla,h8]
  ·exact Zal (Zal X.W h4) (Nat.mod_lt _ (by decide))
  ·refine ZtE X X.kC hR rfl rfl (fun j hj=>Za1 (fun e=>by cases e) (fun e=>by cases e; exact hj rfl)) (fun _=>⟨rfl,rfl⟩) rfl ?_
   rw [hla,h7]
   show pot c _ { t with pc:=21 }+17+_≤pot c st t+_
   unfold pot base pen
   simp [hpc,hcpu,AA]
   all_goals (try (repeat' split)) <;> omega
 ·rw [if_neg hc] at hs
  have hT:t.T≠st.pt k:=fun e=>hc ⟨(h5.2 e).1.symm,e.symm⟩
  refine Res.read X (t':={ t with pc:=30 }) (pc:=33) (pc':=30) hpc rfl rfl hs ?_ rfl rfl rfl hw0 ?_
  ·unfold At
   exact ⟨h1,h2⟩
  ·unfold pot base pen
   simp [hpc,hcpu,AA,Ne.symm hT]
theorem p63 (X:Cx c mn cp st g k t)(hpc:t.pc=63):∃ t' g' st',Res c mn cp st g k t t' g' st':=by
 have hA:=X.at_
 unfold At at hA
 rw [hpc] at hA
 have hcpu:=X.cpu
 have hw0:=X.w0 (by omega) (by omega)
 have hC:=X.C
 have hS:=X.S
 have hO:=X.O
 have hcp:=X.cp
 have G:=X.I.G
 obtain ⟨h1,h2,h3,⟨a,b,h4,h4a,h4b⟩,h5,h6⟩:=hA
 have hge:0≤b:=by
  unfold partOf at h4
  split at h4
  ·cases h4
   omega
  ·split at h4
   ·cases h4
    omega
   ·cases h4
 have hs:Zba c mn cp g t=if pw (st.sl (.part k))=t.N∧st.pt k=t.T then some ({ t with fin:=1 },(g.set (ZcH k) (ZdG (sn t:Int) (b+1))).set (ZcH k+1) ((t.T+1) % M64)) else some ({ t with pc:=60 },g):=by
  rw [Zb3 (by omega) (by omega)]
  unfold ZaD
  rw [hpc]
  refine (Zai h2).trans ((Zo9 h4).trans ((Zag (by omega)).trans ?_))
  rw [hcpu]
  exact Zcv (X.rpd X.kC) (X.rpt X.kC)
 have hmine:=h1.own G
 by_cases hc:pw (st.sl (.part k))=t.N∧st.pt k=t.T
 ·rw [if_pos hc] at hs
  have hTw:st.pt k+1=(t.T+1) % M64:=by rw [← hc.2]; exact (Zj5 X k).2.symm
  have h7:=h5.2 hc.2.symm
  obtain ⟨hl,hbb⟩:=Zfa X k
  have hbl:b=((st.sl (.part k)).length:Int):=by
   rw [h7,Ze9 hbb hl] at h4
   cases h4
   rfl
  have hM:MvS c cp st (.mine k) (.part k) [sn t] []:={
   ne:=fun e=>by cases e
   src:=fun _=>h1.ms
   at_:=Zbn hmine
   nd:=by simp
   ad:=⟨(fun e=>by cases e),fun e=>by cases e⟩
   bd:=fun e=>by cases e
   lv:=Zbn h3.1
   k:=fun x e=>by rcases e with e | e | e | e <;> cases e; exact X.kC
   one:=fun x e=>by rcases e with e | e <;> cases e
   fu:=fun e=>by cases e
   sh:=fun e=>by cases e
   hp:=fun x e=>Zbn h3.2
   oh:=fun x e=>by cases e
   cP:=fun x e=>⟨by rw [h6,h7]; rfl,(G.cP k).1⟩
   cS:=fun e=>by cases e
   cap:=fun x e=>by
    show (st.sl (.part k)).length+1≤cp
    omega }
  have hR:∀ j,j≠k→ZaO c j none (some k) st (mvS st (.mine k) (.part k) [sn t] []):=fun j hj=>ZbZ (k:=k) hj (fun _ e=>by rcases e with e | e <;> cases e; rfl) (fun _ e=>by rcases e with e | e <;> cases e) (fun x e=>by rcases e with e | e <;> cases e) (fun x e=>by rcases e with e | e <;> cases e; rfl) (fun _ e=>by cases e) (fun e=>by cases e) (fun e=>by cases e) (fun x e=>by cases e)
  have hlb:(mvS st (.mine k) (.part k) [sn t] []).sl (.part k)=[sn t]++st.sl (.part k):=Zdt
  have hpw:pw ([sn t]++st.sl (.part k))=ZdG (sn t:Int) (b+1):=by
   rw [hbl]
   rfl
  refine Res.ZoD X (mvS st (.mine k) (.part k) [sn t] []) (hx:=none) (px:=some k) hs rfl rfl (ZbY G hM) hR rfl rfl rfl rfl ⟨ZcE (fun e=>by cases e),fun x => ?_,?_⟩ (X.ZcF (by rw [hpc]; decide)) ?_ ?_ ?_ ?_ (fun e=>absurd e (X.ZjF (by rw [hpc]; decide)))
  ·refine (h1.ob x).trans ?_
   split <;> split <;> rfl
  ·exact (Za1 (st:=st) (y:=.chain k) (a:=.mine k) (b:=.part k) (l1:=[sn t]) (l2:=[]) (fun e=>by cases e) (fun e=>by cases e)).trans h1.ch
  ·refine ZmF X X.kC (fun i hi => ?_) ?_ hTw
   ·refine ZcM i (fun x e=>⟨(fun e2=>by cases e2),fun e2=>by cases e2⟩) (fun x e=>⟨(fun e2=>by cases e2),fun e2 => ?_⟩) (fun _=>⟨(fun e=>by cases e),fun e=>by cases e⟩)
    cases e2
    exact hi e
   ·rw [hlb,hpw]
  ·refine Zal (Zal X.W ?_) (Nat.mod_lt _ (by decide))
   have:=Zau h2
   unfold ZdG
   omega
  ·refine ZtE X X.kC hR rfl rfl (fun j hj=>Za1 (fun e=>by cases e; exact hj rfl) (fun e=>by cases e)) (fun _=>⟨rfl,rfl⟩) rfl ?_
   rw [hlb]
   show 0+17+_≤pot c st t+_
   have hb:base c st t=64:=by
    unfold base
    rw [hpc]
    rfl
   unfold pot
   simp
   omega
  ·rw [if_neg (X.ZjF (by rw [hpc]; decide))]
   exact fun _ _=>Iff.rfl
 ·rw [if_neg hc] at hs
  have hT:t.T≠st.pt k:=fun e=>hc ⟨(h5.2 e).symm,e.symm⟩
  refine Res.read X (t':={ t with pc:=60 }) (pc:=63) (pc':=60) hpc rfl rfl hs ?_ rfl rfl rfl hw0 ?_
  ·unfold At
   exact ⟨h1,h2,h3⟩
  ·unfold pot base pen
   simp [hpc,hcpu,Ne.symm hT]
theorem p74 (X:Cx c mn cp st g k t)(hpc:t.pc=74):∃ t' g' st',Res c mn cp st g k t t' g' st':=by
 have hA:=X.at_
 unfold At at hA
 rw [hpc] at hA
 have hcpu:=X.cpu
 have hw0:=X.w0 (by omega) (by omega)
 have hC:=X.C
 have hS:=X.S
 have hO:=X.O
 have G:=X.I.G
 obtain ⟨h1,h2,h3⟩:=hA
 have hf:t.for_.toNat<c.C:=by
  have:=h2.1
  have:=h2.2
  omega
 have hr:=X.rpd hf
 obtain ⟨hl,hb⟩:=Zfa X t.for_.toNat
 cases hP:st.sl (.part t.for_.toNat) with
 | nil =>
   have hs:Zba c mn cp g t=some ({ t with N:=0,fin:=1 },g):=by
    rw [Zbb (by omega)]
    unfold Zaf
    rw [hpc]
    refine (Zag (show 0≤t.for_∧t.for_<c.C from h2)).trans ((Zax hr).trans ?_)
    rw [hP]
    rfl
   refine Res.ZoD X st (hx:=none) (px:=none) hs rfl rfl G (fun j hj=>ZaO.refl) rfl rfl rfl rfl h1 (X.ZcF (by rw [hpc]; decide)) (X.E.same fun i _=>Zbt i) X.W (Zee X (fun j hj=>ZaO.refl) rfl rfl (fun _=>rfl) rfl rfl rfl ?_) ?_
   ·show 0+1≤pot c st t
    have hb:base c st t=19:=by
     unfold base
     rw [hpc]
     rfl
    unfold pot
    omega
   ·rw [if_neg (X.ZjF (by rw [hpc]; decide))]
    exact fun _ _=>Iff.rfl
 | cons s r =>
   have hs:=Zdy X.I.G (x:=.part t.for_.toNat) rfl (s:=s) (by rw [hP]; exact List.mem_cons_self)
   refine Res.read X (t':={ t with N:=pw (st.sl (.part t.for_.toNat)),pc:=75 }) (pc:=74) (pc':=75) hpc rfl rfl ?_ ?_ rfl rfl rfl hw0 ?_
   ·rw [Zbb (by omega)]
    unfold Zaf
    rw [hpc]
    refine (Zag (show 0≤t.for_∧t.for_<c.C from h2)).trans ((Zax hr).trans ((Zd3 hb hl).trans ?_))
    rw [hP]
    show (if (s:Int) = -1 then _ else need (0≤(s:Int)∧(s:Int)<c.S) _)=_
    rw [if_neg (by omega),Zag (by omega)]
   ·unfold At
    exact ⟨h1,h2,⟨by show pw (st.sl (.part t.for_.toNat))≠0; rw [hP]; exact ZnZ,ZtG hb hl⟩,h3,fun _=>rfl⟩
   ·unfold pot base pen
    simp [hpc]
    all_goals (try (repeat' split)) <;> omega
theorem p75 (X:Cx c mn cp st g k t)(hpc:t.pc=75):∃ t' g' st',Res c mn cp st g k t t' g' st':=by
 have hA:=X.at_
 unfold At at hA
 rw [hpc] at hA
 have hcpu:=X.cpu
 have hw0:=X.w0 (by omega) (by omega)
 have hC:=X.C
 have hS:=X.S
 have hO:=X.O
 have G:=X.I.G
 obtain ⟨h1,h2,h3,h5⟩:=hA
 have hfk:t.for_.toNat<c.C:=by
  have:=h2.1
  have:=h2.2
  omega
 obtain ⟨f,hf⟩:∃ f,t.for_.toNat=f:=⟨_,rfl⟩
 rw [hf] at hfk h5
 have hs:Zba c mn cp g t=if pw (st.sl (.part f))=t.N∧st.pt f=t.T then some ({ t with H:=t.N,pc:=79 },(g.set (ZcH f) 0).set (ZcH f+1) ((t.T+1) % M64)) else some ({ t with pc:=73 },g):=by
  rw [Zbb (by omega)]
  unfold Zaf
  rw [hpc]
  refine (Zag (show 0≤t.for_∧t.for_<c.C from h2)).trans ?_
  rw [hf]
  exact Zcv (X.rpd hfk) (X.rpt hfk)
 by_cases hc:pw (st.sl (.part f))=t.N∧st.pt f=t.T
 ·rw [if_pos hc] at hs
  have hTw:st.pt f+1=(t.T+1) % M64:=by rw [← hc.2]; exact (Zj5 X f).2.symm
  obtain ⟨L,hL⟩:∃ L,L=st.sl (.part f):=⟨_,rfl⟩
  have hLo:∀ s∈L,st.own s = .part f:=fun s hs=>(G.sm _ rfl s).1 (by rw [← hL]; exact hs)
  have hLn:L≠[]:=by
   intro e
   rw [← hL,e] at hc
   exact h3.1 hc.1.symm
  have hM:MvS c cp st (.part f) (.chain k) L []:={
   ne:=fun e=>by cases e
   src:=fun _=>by rw [List.append_nil,hL]
   at_:=hLo
   nd:=by rw [hL]; exact G.sd _ rfl
   ad:=⟨(fun e=>by cases e),fun e=>by cases e⟩
   bd:=fun e=>by cases e
   lv:=fun s hs=>(G.hpc s f (.inr (.inl (hLo s hs)))).1
   k:=fun x e=>by rcases e with e | e | e | e <;> cases e; exact X.kC
   one:=fun x e=>by rcases e with e | e <;> cases e
   fu:=fun e=>by cases e
   sh:=fun e=>by cases e
   hp:=fun x e s hs=>(G.hpc s f (.inr (.inl (hLo s hs)))).2
   oh:=fun x e=>by cases e
   cP:=fun x e=>by rw [h1.ch,List.append_nil,hL]; exact (G.cP f).1
   cS:=fun e=>by cases e
   cap:=fun x e=>by cases e }
  have hR:∀ j,j≠k→ZaO c j none (some f) st (mvS st (.part f) (.chain k) L []):=fun j hj=>ZbZ (k:=k) hj (fun _ e=>by rcases e with e | e <;> cases e) (fun _ e=>by rcases e with e | e <;> cases e; rfl) (fun x e=>by rcases e with e | e <;> cases e) (fun x e=>by rcases e with e | e <;> cases e; rfl) (fun _ e=>by cases e) (fun e=>by cases e) (fun e=>by cases e) (fun x e=>by cases e)
  have hla:(mvS st (.part f) (.chain k) L []).sl (.part f)=[]:=ZcE (fun e=>by cases e)
  have hlb:(mvS st (.part f) (.chain k) L []).sl (.chain k)=L:=by rw [Zdt,h1.ch,List.append_nil]
  refine Res.eff X (mvS st (.part f) (.chain k) L []) (hx:=none) (px:=some f) (t':={ t with H:=t.N,pc:=79 }) (pc:=75) (pc':=79) hpc rfl rfl hs rfl rfl rfl (.inl ⟨hw0,by decide⟩) (ZbY G hM) hR rfl rfl rfl rfl ?_ (fun e=>absurd e (X.ZcF (by rw [hpc]; decide))) ?_ ?_ ?_ (fun _ _=>Iff.rfl) (fun e=>absurd e (X.ZjF (by rw [hpc]; decide)))
  ·unfold At
   refine ⟨L,⟨?_,fun x=>(h1.ob x),hlb⟩,hLn,?_⟩
   ·exact (Za1 (st:=st) (y:=.mine k) (a:=.part f) (b:=.chain k) (l1:=L) (l2:=[]) (fun e=>by cases e) (fun e=>by cases e)).trans h1.ms
   ·show t.N=pw L
    rw [hL,hc.1]
  ·refine ZmF X hfk (fun i hi => ?_) ?_ hTw
   ·refine ZcM i (fun x e=>⟨(fun e2=>by cases e2),fun e2=>by cases e2⟩) (fun x e=>⟨fun e2 => ?_,fun e2=>by cases e2⟩) (fun _=>⟨(fun e=>by cases e),fun e=>by cases e⟩)
    cases e2
    exact hi e
   ·rw [hla]
    rfl
  ·exact Zal (Zal X.W (by omega)) (Nat.mod_lt _ (by decide))
  ·refine ZtE X hfk hR rfl rfl (fun j hj=>Za1 (fun e=>by cases e) (fun e=>by cases e; exact hj rfl)) (fun _=>⟨rfl,rfl⟩) rfl ?_
   rw [hla,← hL]
   show pot c (mvS st (.part f) (.chain k) L []) { t with H:=t.N,pc:=79 }+17+_≤pot c st t+_
   have hlen:1≤L.length:=by
    cases hL2:L with
    | nil=>exact absurd hL2 hLn
    | cons a r=>simp
   have hb:base c st t=18:=by
    unfold base
    rw [hpc]
    rfl
   have hb2:base c (mvS st (.part f) (.chain k) L []) { t with H:=t.N,pc:=79 }=36 * L.length:=by
    show 36 * ((mvS st (.part f) (.chain k) L []).sl (.chain t.cpu)).length=_
    rw [hcpu,hlb]
   have hp2:pen c (mvS st (.part f) (.chain k) L []) { t with H:=t.N,pc:=79 }=0:=by
    unfold pen
    simp
   unfold pot
   simp only [List.length_nil]
   omega
 ·rw [if_neg hc] at hs
  have hT:t.T≠st.pt f:=fun e=>hc ⟨(h5.2 e).symm,e.symm⟩
  refine Res.read X (t':={ t with pc:=73 }) (pc:=75) (pc':=73) hpc rfl rfl hs ?_ rfl rfl rfl hw0 ?_
  ·unfold At
   exact ⟨h1,h2⟩
  ·unfold pot base pen
   simp [hpc,hf,Ne.symm hT]
theorem p79 (X:Cx c mn cp st g k t)(hpc:t.pc=79):∃ t' g' st',Res c mn cp st g k t t' g' st':=by
 have hA:=X.at_
 unfold At at hA
 rw [hpc] at hA
 have hcpu:=X.cpu
 have hw0:=X.w0 (by omega) (by omega)
 have hC:=X.C
 have hS:=X.S
 have hO:=X.O
 have G:=X.I.G
 obtain ⟨ch,h1,h2,h3⟩:=hA
 cases hch:ch with
 | nil=>exact absurd hch h2
 | cons a r =>
   subst hch
   have hmem:∀ s∈a::r,s<c.S:=fun s hs=>Zdy G (x:=.chain k) rfl (by rw [h1.ch]; exact hs)
   have ha:=hmem a List.mem_cons_self
   have hlen:(a::r).length≤c.S:=Zqi (h1.ch ▸ G.sd (.chain k) rfl) hmem
   simp only [List.length_cons] at hlen
   have hcP:=(G.cP k).2
   rw [h1.ch] at hcP
   have ho:st.own a = .chain k:=(G.sm _ rfl a).1 (by rw [h1.ch]; exact List.mem_cons_self)
   have hlv:=G.hpc a k (.inr (.inr ho))
   have hrlt:ZcP r (-1)<c.S:=by
    cases r with
    | nil =>
      show (-1:Int)<c.S
      omega
    | cons b r =>
      have:=hmem b (by simp)
      show (b:Int)<c.S
      omega
   have hs:Zba c mn cp g t=some ({ t with H:=pw r,slab:=(a:Int),obj := -1,many:=0,back:=79,pc:=80 },g):=by
    rw [Zbb (by omega)]
    unfold Zaf
    rw [hpc]
    show ZeH t.H _=_
    rw [h3]
    refine (Zd3 (fun s hs=>by have:=hmem s hs; omega) (by simp only [List.length_cons]; omega)).trans ?_
    refine (Zag (show 0≤(a:Int)∧(a:Int)<c.S by omega)).trans ((Zax (X.rnx ha)).trans ?_)
    rw [hcP.1]
    refine (Zd3 (fun s hs=>by have:=hmem s (List.mem_cons_of_mem _ hs); omega) (by omega)).trans ?_
    rw [Zag hrlt]
    rfl
   have hM:MvS c cp st (.chain k) (.mine k) [a] r:={
    ne:=fun e=>by cases e
    src:=fun _=>h1.ch
    at_:=Zbn ho
    nd:=by simp
    ad:=⟨(fun e=>by cases e),fun e=>by cases e⟩
    bd:=fun e=>by cases e
    lv:=Zbn hlv.1
    k:=fun x e=>by rcases e with e | e | e | e <;> cases e; exact X.kC
    one:=fun x e=>by rw [h1.ms]; simp
    fu:=fun e=>by cases e
    sh:=fun e=>by cases e
    hp:=fun x e=>by rcases e with e | e | e <;> cases e
    oh:=fun x e=>by cases e
    cP:=fun x e=>by rcases e with e | e <;> cases e
    cS:=fun e=>by cases e
    cap:=fun x e=>by cases e }
   have hR:∀ j,j≠k→ZaO c j none none st (mvS st (.chain k) (.mine k) [a] r):=fun j hj=>ZbZ (k:=k) hj (fun _ e=>by rcases e with e | e <;> cases e; rfl) (fun _ e=>by rcases e with e | e <;> cases e; rfl) (fun x e=>by rcases e with e | e <;> cases e) (fun x e=>by rcases e with e | e <;> cases e) (fun _ e=>by cases e) (fun e=>by cases e) (fun e=>by cases e) (fun x e=>by cases e)
   have hla:(mvS st (.chain k) (.mine k) [a] r).sl (.chain k)=r:=ZcE (fun e=>by cases e)
   refine Res.eff X (mvS st (.chain k) (.mine k) [a] r) (hx:=none) (px:=none) (t':={ t with H:=pw r,slab:=(a:Int),obj := -1,many:=0,back:=79,pc:=80 }) (pc:=79) (pc':=80) hpc rfl rfl hs rfl rfl rfl (.inl ⟨hw0,by decide⟩) (ZbY G hM) hR rfl rfl rfl rfl ?_ (fun e=>absurd e (X.ZcF (by rw [hpc]; decide))) (X.E.same fun i _ => ?_) X.W (Zee X hR rfl rfl (fun _=>Za1 (fun e=>by cases e) (fun e=>by cases e)) rfl rfl rfl ?_) (fun _ _=>Iff.rfl) (fun e=>absurd e (X.ZjF (by rw [hpc]; decide)))
   ·unfold At
    refine ⟨[],r,⟨?_,fun x => ?_,hla⟩,⟨by show (0:Int)≤a; omega,by show (a:Int)<c.S; omega⟩,hlv,rfl,.inr (.inr (.inr ⟨rfl,rfl⟩)),rfl,trivial⟩
    ·exact (Zdt (st:=st) (a:=.chain k) (b:=.mine k) (l1:=[a]) (l2:=r)).trans (by rw [h1.ms]; rfl)
    ·refine (h1.ob x).trans ?_
     split <;> split <;> rfl
   ·rw [Zbt]
    exact ZcM i (fun x e=>⟨(fun e2=>by cases e2),fun e2=>by cases e2⟩) (fun x e=>⟨(fun e2=>by cases e2),fun e2=>by cases e2⟩) (fun _=>⟨(fun e=>by cases e),fun e=>by cases e⟩)
   ·show pot c (mvS st (.chain k) (.mine k) [a] r) { t with H:=pw r,slab:=(a:Int),obj := -1,many:=0,back:=79,pc:=80 }+1≤pot c st t
    have hb:base c st t=36 * (r.length+1):=by
     unfold base
     rw [hpc]
     show 36 * (st.sl (.chain t.cpu)).length=_
     rw [hcpu,h1.ch]
     rfl
    unfold pot
    rw [hb]
    unfold base pen
    simp [hpc,hcpu,cont,hla]
    omega
end
end Go.Proofs.YtfcpdlbkmkhhcaaGreatDoor.Cv

namespace Go.Proofs.YtfcpdlbkmkhhcaaGreatDoor.Cv
open See Cw
section
variable {c:Ch}{mn cp:Nat}{st st1 st':St}{g g':List Nat}{k:Nat}{t t':Tk}
theorem Loc.lim (G:Zbc c mn cp st)(hO:1≤c.O)(h:Loc c mn cp st k t){s:Nat}(ho:st.own s = .mine k)(hl:st.lv s=true)(hf:st.frz s=false):st.hold=some k∧st.ol s .first≠[]:=by
 have hm:=(G.sm (.mine k) rfl s).2 ho
 have h0:∀ {x:Nat} {l ch:List Nat},Has st k [] x l ch→False:=fun h=>by
  rw [h.ms] at hm
  cases hm
 have h1:∀ {y x:Nat} {l ch:List Nat},Has st k [y] x l ch→s=y:=fun h=>by
  rw [h.ms,List.mem_singleton] at hm
  exact hm
 have h2:∀ {y x:Nat} {l ch:List Nat},Has st k [y] x l ch→Live st y→False:=fun h h'=>by
  have:=h1 h
  subst this
  rw [h'.2] at hf
  cases hf
 have h3:∀ {y x:Nat} {l ch:List Nat},Has st k [y] x l ch→st.lv y=false→False:=fun h h'=>by
  have:=h1 h
  subst this
  rw [h'] at hl
  cases hl
 have h4:∀ {y x:Nat} {l ch:List Nat},Has st k [y] x l ch→Full c st y→st.ol s .first≠[]:=fun h h' e=>by
  have:=h1 h
  subst this
  unfold Full at h'
  rw [e] at h'
  simp at h'
  omega
 have hwant:=h.want
 have h:=h.at_
 unfold At at h
 split at h
 all_goals first
  | exact (h0 h).elim
  | exact (h0 h.1).elim
  | exact (h2 h.1 h.2.2.1).elim
  | exact h.elim
  | skip
 case h_20 =>
  obtain ⟨⟨l,h5,-⟩,-⟩:=h
  exact (h0 h5).elim
 case h_21 =>
  obtain ⟨⟨l,h5,-⟩,-⟩:=h
  exact (h0 h5).elim
 case h_22 =>
  obtain ⟨⟨l,h5,-⟩,-,-,-,-,h6⟩:=h
  exact (h2 h5 h6).elim
 case h_23 =>
  obtain ⟨⟨l,h5,-⟩,-,-,-,-,h6⟩:=h
  exact (h2 h5 h6).elim
 case h_24 =>
  obtain ⟨⟨l,h5,-⟩,-,-,-,h6⟩:=h
  exact (h2 h5 h6).elim
 case h_25 =>
  obtain ⟨⟨l,h5,-⟩,-,-,-,h6⟩:=h
  exact (h2 h5 h6).elim
 case h_26 =>
  obtain ⟨⟨l,h5,-⟩,-,-,-,h6,-⟩:=h
  exact (h2 h5 h6).elim
 case h_27 =>
  rename_i hpc
  rcases hwant with hw | hw | hw
  ·exact (h3 (h.2 hw).1 (h.2 hw).2.2.2.1).elim
  ·exact (h0 (h.1 hw.2).1).elim
  ·rw [hpc] at hw
   cases hw.1
 case h_43=>exact (h2 h.1 h.2.2).elim
 case h_28=>exact (h3 h.1 h.2.2.2.1).elim
 case h_51=>exact ⟨h.2.2.2.2.2.hold,h4 h.1 h.2.2.2.1⟩
 case h_58 =>
  obtain ⟨ch,h5,-⟩:=h
  exact (h0 h5).elim
 case h_59 =>
  obtain ⟨l,ch,h5,-,h6,-⟩:=h
  exact (h2 h5 h6).elim
 case h_60 =>
  obtain ⟨l,ch,h5,-,h6,-⟩:=h
  exact (h2 h5 h6).elim
 case h_61 =>
  obtain ⟨l,ch,h5,-,h6,-⟩:=h
  exact (h2 h5 h6).elim
 case h_62 =>
  obtain ⟨l,ch,h5,-,h6,-⟩:=h
  exact (h2 h5 h6).elim
 case h_63 =>
  obtain ⟨l,ch,h5,-,h6,-⟩:=h
  exact (h2 h5 h6).elim
 case h_64 =>
  obtain ⟨l,ch,h5,-,h6,-⟩:=h
  exact (h2 h5 h6).elim
 case h_65 =>
  obtain ⟨ch,h5,-,-,h6,-,h7,-⟩:=h
  exact ⟨h7.hold,h4 h5 h6⟩
 case h_66 =>
  obtain ⟨ch,h5,-,-,h6,-,h7,-⟩:=h
  have:=h1 h5
  subst this
  exact ⟨h7.hold,h6⟩
 case h_67 =>
  obtain ⟨ch,h5,-,-,h6,-,h7,-⟩:=h
  have:=h1 h5
  subst this
  exact ⟨h7.hold,h6⟩
 case h_68 =>
  obtain ⟨ch,h5,-,-,h6,-,h7,-⟩:=h
  have:=h1 h5
  subst this
  exact ⟨h7.hold,h6⟩
 case h_69 =>
  obtain ⟨ch,h5,-⟩:=h
  exact (h0 h5).elim
 case h_70 =>
  obtain ⟨ch,h5,-⟩:=h
  exact (h0 h5).elim
 case h_71 =>
  obtain ⟨ch,h5,-,-,h6,-,h7,-⟩:=h
  exact ⟨h7.hold,h4 h5 h6⟩
 case h_72 =>
  obtain ⟨l,ch,h5,-,h6,-⟩:=h
  exact (h3 h5 h6).elim
 case h_73 =>
  obtain ⟨l,ch,h5,-,h6,-⟩:=h
  exact (h3 h5 h6).elim
 case h_82=>exact ⟨h.2.2.2.2.2.hold,h4 h.1 h.2.2.2.1⟩
theorem Inv.ZlY (I:Inv c mn cp st)(hO:1≤c.O){s:Nat}(hl:st.lv s=true)(hf:st.frz s=false):st.own s = .full∧st.ol s .first=[]∨st.own s = .shelf∧st.ol s .first≠[]∨∃ j,st.own s = .mine j∧st.hold=some j∧st.ol s .first≠[]:=by
 have G:=I.G
 have hfr:∀ x,(st.own s = .head x∨st.own s = .part x∨st.own s = .chain x)→False:=fun x e=>by
  rw [(G.hpc s x e).2] at hf
  cases hf
 cases ho:st.own s with
 | dead =>
   rw [G.dead s ho] at hl
   cases hl
 | full=>exact .inl ⟨rfl,(G.full s ho).2.2⟩
 | shelf =>
   refine .inr (.inl ⟨rfl,?_⟩)
   refine ((G.shelf s ho).2 fun e => ?_).2
   rw [(G.cuts s e).2] at hf
   cases hf
 | head x=>exact (hfr x (.inl ho)).elim
 | part x=>exact (hfr x (.inr (.inl ho))).elim
 | chain x=>exact (hfr x (.inr (.inr ho))).elim
 | mine x =>
   cases ht:st.tk x with
   | none =>
     have h1:=(I.idle x ht).ms
     have h2:=(G.sm (.mine x) rfl s).2 ho
     rw [h1] at h2
     cases h2
   | some t =>
     obtain ⟨h1,h2⟩:=(I.loc x t ht).2.lim G hO ho hl hf
     exact .inr (.inr ⟨x,rfl,h1,h2⟩)
theorem ZpI {l:List Nat}(h:fw l≠0):∃ a r,l=a::r∧fw l=a+1:=by
 cases l with
 | nil=>exact absurd rfl h
 | cons a r=>exact ⟨a,r,rfl,rfl⟩
theorem ZkG {l:List Nat}(h:fw l=0):l=[]:=by
 cases l with
 | nil=>rfl
 | cons a r=>cases h
theorem ZpH (l:List Nat):(fw l:Int) - 1=ZcP l (-1):=by
 cases l with
 | nil=>rfl
 | cons a r =>
   show ((a+1:Nat):Int) - 1=(a:Int)
   omega
theorem Zrv (X:Cx c mn cp st g k t){s iu:Nat}{f:Bool}(hl:st.lv s=true)(hK:t.K=Zat iu c.O f true)(hiu:iu≤c.O)(h:ct c st s=t.K):iu=c.O - (st.ol s .first).length∧st.frz s=f:=by
 rw [ZbW hl rfl,hK] at h
 have:=pack_inj (by omega) hiu X.O.1 X.O.2 h
 exact ⟨this.1.symm,this.2⟩
theorem Zrb {s:Nat}(hn:¬(fr st s=t.F∧ct c st s=t.K))(hs:sn t=s)(h:t.pc=23∨t.pc=24∨t.pc=39∨t.pc=52∨t.pc=53∨t.pc=54∨t.pc=55∨t.pc=56∨t.pc=86∨t.pc=87):pen c st t=6:=by
 unfold pen
 rw [if_neg (by omega),if_neg (by omega),if_neg (by omega),if_neg (by omega),if_neg (by omega),if_pos h,hs,if_neg hn]
theorem p23 (X:Cx c mn cp st g k t)(hpc:t.pc=23):∃ t' g' st',Res c mn cp st g k t t' g' st':=by
 have hA:=X.at_
 unfold At at hA
 rw [hpc] at hA
 have hcpu:=X.cpu
 have hw0:=X.w0 (by omega) (by omega)
 have hC:=X.C
 have hS:=X.S
 have hO:=X.O
 have G:=X.I.G
 obtain ⟨h1,h2,h3,h4,h5,iu,f,hK,hiu,rfl⟩:=hA
 have hs:Zba c mn cp g t=if fr st (sn t)=t.F∧ct c st (sn t)=t.K then some ({ t with obj:=(t.F:Int) - 1,pc:=40 },(g.set (ZbU c (sn t)) 0).set (ZbU c (sn t)+1) (Zat c.O c.O true true)) else some ({ t with pc:=21 },g):=by
  rw [ZbE (by omega) (by omega)]
  unfold Zas
  rw [hpc]
  refine (Zai h2).trans ((Zag h5).trans ?_)
  unfold Zhn
  have hk:=Zbd (iu:=iu) (ob:=c.O) (f:=true) (x:=fun iu ob f=>need (f=true) (Zf3 g (ZbU c (sn t)) t.F t.K 0 (Zat (if true=true then ob else iu) ob true true) { t with obj:=(t.F:Int) - 1,pc:=40 } { t with pc:=21 })) hiu hO.1 hO.2
  rw [← hK] at hk
  refine hk.trans ((Zag rfl).trans ?_)
  exact Zcv (X.rfr (Zau h2)) (X.rct (Zau h2))
 have hmine:=h1.own G
 have hb:base c st t=AA c+29:=by
  unfold base
  rw [hpc]
  rfl
 by_cases hc:fr st (sn t)=t.F∧ct c st (sn t)=t.K
 ·rw [if_pos hc] at hs
  obtain ⟨o,l,hol,hfo⟩:=ZpI (l:=st.ol (sn t) .first) (by have:=hc.1; unfold fr at this; omega)
  have hFo:t.F=o+1:=by rw [← hc.1]; exact hfo
  have hoO:=(ZgX G (x:=.first) (s:=sn t) (o:=o) rfl (by rw [hol]; exact List.mem_cons_self)).2
  have hM:MvO c st (sn t) .first (.ZaB k) (o::l) []:=MvO.of G rfl (fun e=>by cases e) (by rw [List.append_nil,hol]) (fun e=>by cases e) (fun _ e=>by cases e) (fun e=>by rcases e with e | ⟨_,e⟩ <;> cases e) (fun _ e=>by cases e) (fun e=>by rw [hmine] at e; cases e) (fun x e=>h3.1) (fun _ _ e=>by cases e)
  have hR:∀ j,j≠k→ZaO c j none none st (mvO st (sn t) .first (.ZaB k) (o::l) []):=fun j hj=>ZbC (k:=k) hj (fun _ e=>by cases e) (fun _ e=>by cases e; rfl) (fun x e=>by rcases e with e | e <;> cases e) (fun _=>.inl hmine) (fun e=>by cases e) (fun e=>by cases e)
  have hola:(mvO st (sn t) .first (.ZaB k) (o::l) []).ol (sn t) .first=[]:=Zci (fun e=>by cases e)
  refine Res.eff X (mvO st (sn t) .first (.ZaB k) (o::l) []) (hx:=none) (px:=none) (t':={ t with obj:=(t.F:Int) - 1,pc:=40 }) (pc:=23) (pc':=40) hpc rfl rfl hs rfl rfl rfl (.inl ⟨hw0,by decide⟩) (ZbB G hM) hR rfl rfl rfl rfl ?_ (fun e=>absurd e (X.ZcF (by rw [hpc]; decide))) ?_ ?_ ?_ (Za7 (fun o ho=>by rw [hM.at_ o ho]; intro e; cases e) (fun e=>by cases e))
  ·unfold At
   have hob:((t.F:Int) - 1).toNat=o:=by omega
   refine ⟨⟨l,⟨h1.ms,fun x => ?_,h1.ch⟩,?_⟩,h4,h2,⟨by show (0:Int)≤(t.F:Int) - 1; omega,by show (t.F:Int) - 1<c.O; omega⟩,h3⟩
   ·show (mvO st (sn t) .first (.ZaB k) (o::l) []).ol x (.ZaB k)=if x=sn t then ((t.F:Int) - 1).toNat::l else []
    rw [hob]
    by_cases e:x=sn t
    ·rw [e,ZcD,if_pos rfl,h1.at_,List.append_nil]
    ·rw [ZbP (fun e2=>e e2.1) (fun e2=>e e2.1),h1.ob,if_neg e,if_neg e]
   ·show lkd (st.lk (sn t)) (ky c (sn t)) (((t.F:Int) - 1).toNat::l) (-1)
    rw [hob,← hol]
    exact G.l1 (sn t)
  ·refine ZcU X (Zau h2) (fun i hi hi2 => ?_) ?_ ?_
   ·refine Zb8 i (fun x e=>⟨(fun e2=>by cases e2),fun e2=>by cases e2⟩) (fun x e=>.inl ?_)
    rintro rfl
    rcases e with e | e
    ·exact hi e
    ·exact hi2 e
   ·unfold fr
    rw [hola]
    rfl
   ·rw [ZbW (st:=mvO st (sn t) .first (.ZaB k) (o::l) []) h3.1 h3.2,hola]
    rfl
  ·exact Zal (Zal X.W (by omega)) (ZcS (by omega) hO.2)
  ·refine ZnV X (Zau h2) hR rfl rfl (fun _=>rfl) (fun _ _=>rfl) ?_
   show 19+0+25+(2 * c.S+33) * lvN st (sn t)≤pot c st t+_
   unfold pot
   unfold AA at hb
   omega
 ·rw [if_neg hc] at hs
  refine Res.read X (t':={ t with pc:=21 }) (pc:=23) (pc':=21) hpc rfl rfl hs ?_ rfl rfl rfl hw0 ?_
  ·unfold At
   exact ⟨h1,h2,h3,h4⟩
  ·have:=Zrb hc rfl (.inl hpc)
   show AA c+31+0+1≤pot c st t
   unfold pot
   omega
theorem p24 (X:Cx c mn cp st g k t)(hpc:t.pc=24):∃ t' g' st',Res c mn cp st g k t t' g' st':=by
 have hA:=X.at_
 unfold At at hA
 rw [hpc] at hA
 have hcpu:=X.cpu
 have hw0:=X.w0 (by omega) (by omega)
 have hC:=X.C
 have hS:=X.S
 have hO:=X.O
 have G:=X.I.G
 obtain ⟨h1,h2,h3,h4,h5,iu,f,hK,hiu,rfl⟩:=hA
 have hs:Zba c mn cp g t=if fr st (sn t)=t.F∧ct c st (sn t)=t.K then some ({ t with pc:=30 },(g.set (ZbU c (sn t)) 0).set (ZbU c (sn t)+1) (Zat iu c.O false true)) else some ({ t with pc:=21 },g):=by
  rw [ZbE (by omega) (by omega)]
  unfold Zas
  rw [hpc]
  refine (Zai h2).trans ((Zag h5).trans ?_)
  unfold Zhn
  have hk:=Zbd (iu:=iu) (ob:=c.O) (f:=true) (x:=fun iu ob f=>need (f=true) (Zf3 g (ZbU c (sn t)) t.F t.K 0 (Zat (if false=true then ob else iu) ob false true) { t with pc:=30 } { t with pc:=21 })) hiu hO.1 hO.2
  rw [← hK] at hk
  refine hk.trans ((Zag rfl).trans ?_)
  exact Zcv (X.rfr (Zau h2)) (X.rct (Zau h2))
 have hmine:=h1.own G
 have hb:base c st t=AA c+29:=by
  unfold base
  rw [hpc]
  rfl
 by_cases hc:fr st (sn t)=t.F∧ct c st (sn t)=t.K
 ·rw [if_pos hc] at hs
  have hol:st.ol (sn t) .first=[]:=ZkG (by have:=hc.1; unfold fr at this; omega)
  obtain ⟨e1,e2⟩:=Zrv X h3.1 hK hiu hc.2
  rw [hol,List.length_nil,Nat.sub_zero] at e1
  obtain ⟨s1,hs1⟩:∃ s1,s1=Zbr st (sn t) true false:=⟨_,rfl⟩
  have G1:Zbc c mn cp s1:=by rw [hs1]; exact Zc9 G hmine (fun e=>by cases e)
  have hlv1:s1.lv (sn t)=true:=by rw [hs1]; exact if_pos rfl
  have hfz1:s1.frz (sn t)=false:=by rw [hs1]; exact if_pos rfl
  have hM:MvS c cp s1 (.mine k) .full [sn t] []:={
   ne:=fun e=>by cases e
   src:=fun _=>by rw [hs1]; exact h1.ms
   at_:=Zbn (by rw [hs1]; exact hmine)
   nd:=by simp
   ad:=⟨(fun e=>by cases e),fun e=>by cases e⟩
   bd:=fun e=>by cases e
   lv:=Zbn hlv1
   k:=fun x e=>by rcases e with e | e | e | e <;> cases e
   one:=fun x e=>by rcases e with e | e <;> cases e
   fu:=fun e=>Zbn ⟨hfz1,by rw [hs1]; exact hol⟩
   sh:=fun e=>by cases e
   hp:=fun x e=>by rcases e with e | e | e <;> cases e
   oh:=fun x e=>by cases e
   cP:=fun x e=>by rcases e with e | e <;> cases e
   cS:=fun e=>by cases e
   cap:=fun x e=>by cases e }
  have R1:∀ j,j≠k→ZaO c j none none st s1:=fun j hj=>by rw [hs1]; exact Zda hj hmine
  have R2:∀ j,j≠k→ZaO c j none none s1 (mvS s1 (.mine k) .full [sn t] []):=fun j hj=>ZbZ (k:=k) hj (fun _ e=>by rcases e with e | e <;> cases e; rfl) (fun _ e=>by rcases e with e | e <;> cases e) (fun x e=>by rcases e with e | e <;> cases e) (fun x e=>by rcases e with e | e <;> cases e) (fun _ e=>by cases e) (fun e=>by cases e) (fun e=>by cases e) (fun x e=>by cases e)
  have hR:∀ j,j≠k→ZaO c j none none st (mvS s1 (.mine k) .full [sn t] []):=fun j hj=>(R1 j hj).trans G G1 (R2 j hj)
  refine Res.eff X (mvS s1 (.mine k) .full [sn t] []) (hx:=none) (px:=none) (t':={ t with pc:=30 }) (pc:=24) (pc':=30) hpc rfl rfl hs rfl rfl rfl (.inl ⟨hw0,by decide⟩) (ZbY G1 hM) hR (by rw [hs1]; rfl) (by rw [hs1]; rfl) (by rw [hs1]; rfl) (by rw [hs1]; rfl) ?_ (fun e => ?_) ?_ ?_ ?_ (fun _ _=>by rw [hs1]; exact Iff.rfl) (fun _ s => ?_)
  ·unfold At
   refine ⟨⟨?_,fun x => ?_,?_⟩,?_⟩
   ·exact ZcE (st:=s1) (a:=.mine k) (b:=.full) (l1:=[sn t]) (l2:=[]) (fun e=>by cases e)
   ·rw [hs1]
    refine (h1.ob x).trans ?_
    split <;> split <;> rfl
   ·refine (Za1 (st:=s1) (y:=.chain k) (a:=.mine k) (b:=.full) (l1:=[sn t]) (l2:=[]) (fun e=>by cases e) (fun e=>by cases e)).trans ?_
    rw [hs1]
    exact h1.ch
   ·refine (Za1 (st:=s1) (y:=.head k) (a:=.mine k) (b:=.full) (l1:=[sn t]) (l2:=[]) (fun e=>by cases e) (fun e=>by cases e)).trans ?_
    rw [hs1]
    exact h4
  ·rw [hs1] at e
   exact absurd e (X.ZcF (by rw [hpc]; decide))
  ·refine ZcU X (Zau h2) (fun i hi hi2 => ?_) ?_ ?_
   ·rw [ZcM i (fun x e=>⟨(fun e2=>by cases e2),fun e2=>by cases e2⟩) (fun x e=>⟨(fun e2=>by cases e2),fun e2=>by cases e2⟩) (fun _=>⟨(fun e=>by cases e),fun e=>by cases e⟩),hs1]
    exact ZdX i hi2
   ·show fw (s1.ol (sn t) .first)=0
    rw [hs1]
    show fw (st.ol (sn t) .first)=0
    rw [hol]
    rfl
   ·rw [ZbW (st:=mvS s1 (.mine k) .full [sn t] []) hlv1 hfz1]
    show Zat (c.O - (s1.ol (sn t) .first).length) c.O false true=_
    rw [hs1]
    show Zat (c.O - (st.ol (sn t) .first).length) c.O false true=_
    rw [hol,e1]
    rfl
  ·exact Zal (Zal X.W (by omega)) (ZcS (by omega) hO.2)
  ·refine ZnV X (Zau h2) hR (by rw [hs1]; rfl) (by rw [hs1]; rfl) (fun _ => ?_) (fun x hx => ?_) ?_
   ·rw [Za1 (fun e=>by cases e) (fun e=>by cases e),hs1]
    rfl
   ·rw [hs1]
    exact if_neg hx
   ·have e3:lvN (mvS s1 (.mine k) .full [sn t] []) (sn t)=lvN st (sn t):=by
     unfold lvN
     rw [show (mvS s1 (.mine k) .full [sn t] []).lv (sn t)=true from hlv1,h3.1]
    rw [e3]
    show AA c+4+0+25+_≤pot c st t+_
    unfold pot
    omega
  ·by_cases e:s∈[sn t]
   ·refine .inr (.inr (.inr ⟨if_pos e,?_⟩))
    rw [List.mem_singleton] at e
    rw [e]
    exact ⟨hmine,hol⟩
   ·refine .inl ((if_neg e).trans ?_)
    rw [hs1]
    rfl
 ·rw [if_neg hc] at hs
  refine Res.read X (t':={ t with pc:=21 }) (pc:=24) (pc':=21) hpc rfl rfl hs ?_ rfl rfl rfl hw0 ?_
  ·unfold At
   exact ⟨h1,h2,h3,h4⟩
  ·have:=Zrb hc rfl (.inr (.inl hpc))
   show AA c+31+0+1≤pot c st t
   unfold pot
   omega
theorem p39 (X:Cx c mn cp st g k t)(hpc:t.pc=39):∃ t' g' st',Res c mn cp st g k t t' g' st':=by
 have hA:=X.at_
 unfold At at hA
 rw [hpc] at hA
 have hcpu:=X.cpu
 have hw0:=X.w0 (by omega) (by omega)
 have hC:=X.C
 have hS:=X.S
 have hO:=X.O
 have G:=X.I.G
 obtain ⟨h1,h4,hl,h2,⟨r,hr⟩,h5,iu,f,hK,hiu,rfl⟩:=hA
 have hs:Zba c mn cp g t=if fr st (sn t)=t.F∧ct c st (sn t)=t.K then some ({ t with obj:=(t.F:Int) - 1,pc:=46 },(g.set (ZbU c (sn t)) 0).set (ZbU c (sn t)+1) (Zat c.O c.O true true)) else some ({ t with pc:=37 },g):=by
  rw [ZbE (by omega) (by omega)]
  unfold Zas
  rw [hpc]
  refine (Zai h2).trans ((Zag h5).trans ?_)
  unfold Zhn
  have hk:=Zbd (iu:=iu) (ob:=c.O) (f:=false) (x:=fun iu ob f=>need (f=false) (Zf3 g (ZbU c (sn t)) t.F t.K 0 (Zat (if true=true then ob else iu) ob true true) { t with obj:=(t.F:Int) - 1,pc:=46 } { t with pc:=37 })) hiu hO.1 hO.2
  rw [← hK] at hk
  refine hk.trans ((Zag rfl).trans ?_)
  exact Zcv (X.rfr (Zau h2)) (X.rct (Zau h2))
 have hsh:=Zbo (p:=[]) G hr
 have hlv:=(G.shelf _ hsh).1
 have hb:base c st t=48:=by
  unfold base
  rw [hpc]
  rfl
 by_cases hc:fr st (sn t)=t.F∧ct c st (sn t)=t.K
 ·rw [if_pos hc] at hs
  obtain ⟨o,l,hol,hfo⟩:=ZpI (l:=st.ol (sn t) .first) (by have:=hc.1; unfold fr at this; omega)
  have hFo:t.F=o+1:=by rw [← hc.1]; exact hfo
  have hoO:=(ZgX G (x:=.first) (s:=sn t) (o:=o) rfl (by rw [hol]; exact List.mem_cons_self)).2
  obtain ⟨s1,hs1⟩:∃ s1,s1=Zgq st (sn t):=⟨_,rfl⟩
  have G1:Zbc c mn cp s1:=by rw [hs1]; exact Zme G hsh hl.hold hl.cut
  have hfz1:s1.frz (sn t)=true:=by rw [hs1]; exact if_pos rfl
  have hlv1:s1.lv (sn t)=true:=by rw [hs1]; exact hlv
  have hM:MvO c s1 (sn t) .first (.ZaB k) (o::l) []:=MvO.of G1 rfl (fun e=>by cases e) (by rw [List.append_nil,hs1]; exact hol) (fun e=>by cases e) (fun _ e=>by cases e) (fun e=>by rcases e with e | ⟨_,e⟩ <;> cases e) (fun _ e=>by cases e) (fun _ e=>absurd (by rw [hs1]; rfl) e) (fun x e=>hlv1) (fun _ _ e=>by cases e)
  have R1:∀ j,j≠k→ZaO c j none none st s1:=fun j hj=>by rw [hs1]; exact Zmf hj hsh hl.hold
  have R2:∀ j,j≠k→ZaO c j none none s1 (mvO s1 (sn t) .first (.ZaB k) (o::l) []):=fun j hj=>ZbC (k:=k) hj (fun _ e=>by cases e) (fun _ e=>by cases e; rfl) (fun x e=>by rcases e with e | e <;> cases e) (fun _=>.inr (by rw [hs1]; exact ⟨hl.hold,hsh⟩)) (fun e=>by cases e) (fun e=>by cases e)
  have hR:∀ j,j≠k→ZaO c j none none st (mvO s1 (sn t) .first (.ZaB k) (o::l) []):=fun j hj=>(R1 j hj).trans G G1 (R2 j hj)
  have hola:(mvO s1 (sn t) .first (.ZaB k) (o::l) []).ol (sn t) .first=[]:=Zci (fun e=>by cases e)
  have hob:((t.F:Int) - 1).toNat=o:=by omega
  have hloc1:s1.loc=st.loc:=by rw [hs1]; rfl
  have hol1:s1.ol=st.ol:=by rw [hs1]; rfl
  refine Res.eff X (mvO s1 (sn t) .first (.ZaB k) (o::l) []) (hx:=none) (px:=none) (t':={ t with obj:=(t.F:Int) - 1,pc:=46 }) (pc:=39) (pc':=46) hpc rfl rfl hs rfl rfl rfl (.inl ⟨hw0,by decide⟩) (ZbB G1 hM) hR (by rw [hs1]; rfl) (by rw [hs1]; rfl) (by rw [hs1]; rfl) (by rw [hs1]; rfl) ?_ (fun _=>⟨rfl,hw0⟩) ?_ ?_ ?_ (fun x y => ?_) (fun _ s=>by rw [hs1]; exact .inl rfl)
  ·unfold At
   refine ⟨⟨l,⟨?_,fun x => ?_,?_⟩,?_⟩,?_,h2,⟨by show (0:Int)≤(t.F:Int) - 1; omega,by show (t.F:Int) - 1<c.O; omega⟩,⟨?_,?_,?_,?_⟩,⟨r,?_⟩,hlv1,hfz1⟩
   ·rw [hs1]
    exact h1.ms
   ·show (mvO s1 (sn t) .first (.ZaB k) (o::l) []).ol x (.ZaB k)=if x=sn t then ((t.F:Int) - 1).toNat::l else []
    rw [hob]
    by_cases e:x=sn t
    ·rw [e,ZcD,if_pos rfl,hol1,h1.ob]
     split <;> exact List.append_nil _
    ·rw [ZbP (fun e2=>e e2.1) (fun e2=>e e2.1),hol1,h1.ob,if_neg e]
     split <;> rfl
   ·rw [hs1]
    exact h1.ch
   ·rw [hs1]
    show lkd (st.lk (sn t)) (ky c (sn t)) (((t.F:Int) - 1).toNat::l) (-1)
    rw [hob,← hol]
    exact G.l1 (sn t)
   ·rw [hs1]
    exact h4
   ·rw [hs1]
    exact hl.hold
   ·rw [hs1]
    rfl
   ·rw [hs1]
    exact hl.held
   ·refine Nat.le_trans (m:=ZfV c st) ?_ hl.em
    have esl:(tick (mvO s1 (sn t) .first (.ZaB k) (o::l) []) none none k (some { t with obj:=(t.F:Int) - 1,pc:=46 })).sl .shelf=st.sl .shelf:=by
     rw [hs1]
     rfl
    unfold ZfV
    rw [esl]
    refine Zbh fun x hx he => ?_
    rw [Bool.and_eq_true] at he ⊢
    by_cases e:x=sn t
    ·subst e
     have he2:(!s1.frz (sn t))=true:=he.2
     rw [hfz1] at he2
     cases he2
    ·have e1:(tick (mvO s1 (sn t) .first (.ZaB k) (o::l) []) none none k (some { t with obj:=(t.F:Int) - 1,pc:=46 })).ol x .first=st.ol x .first:=by
      show (mvO s1 (sn t) .first (.ZaB k) (o::l) []).ol x .first=_
      rw [ZbP (fun e2=>e e2.1) (fun e2=>e e2.1),hol1]
     rw [e1] at he
     refine ⟨he.1,?_⟩
     have he2:(!s1.frz x)=true:=he.2
     rw [hs1] at he2
     have:(Zgq st (sn t)).frz x=st.frz x:=if_neg e
     rw [this] at he2
     exact he2
   ·rw [hs1]
    exact hr
  ·refine ZcU X (Zau h2) (fun i hi hi2 => ?_) ?_ ?_
   ·rw [Zb8 i (fun x e=>⟨(fun e2=>by cases e2),fun e2=>by cases e2⟩) (fun x e=>.inl ?_),hs1]
    ·exact Zol i hi2
    ·rintro rfl
     rcases e with e | e
     ·exact hi e
     ·exact hi2 e
   ·unfold fr
    rw [hola]
    rfl
   ·rw [ZbW (st:=mvO s1 (sn t) .first (.ZaB k) (o::l) []) hlv1 hfz1,hola]
    rfl
  ·exact Zal (Zal X.W (by omega)) (ZcS (by omega) hO.2)
  ·refine ZnV X (Zau h2) hR (by rw [hs1]; rfl) (by rw [hs1]; rfl) (fun _=>by rw [hs1]; rfl) (fun _ _=>by rw [hs1]; rfl) ?_
   have e3:lvN (mvO s1 (sn t) .first (.ZaB k) (o::l) []) (sn t)=lvN st (sn t):=by
    unfold lvN
    rw [show (mvO s1 (sn t) .first (.ZaB k) (o::l) []).lv (sn t)=true from hlv1,hlv]
   rw [e3]
   show 23+0+25+_≤pot c st t+_
   unfold pot
   omega
  ·rw [Za7 (fun o ho=>by rw [hM.at_ o ho]; intro e; cases e) (fun e=>by cases e),hloc1]
 ·rw [if_neg hc] at hs
  refine Res.read X (t':={ t with pc:=37 }) (pc:=39) (pc':=37) hpc rfl rfl hs ?_ rfl rfl rfl hw0 ?_
  ·unfold At
   exact ⟨h1,h4,hl,h2,r,hr⟩
  ·have:=Zrb hc rfl (.inr (.inr (.inl hpc)))
   show 50+0+1≤pot c st t
   unfold pot
   omega
end
end Go.Proofs.YtfcpdlbkmkhhcaaGreatDoor.Cv
