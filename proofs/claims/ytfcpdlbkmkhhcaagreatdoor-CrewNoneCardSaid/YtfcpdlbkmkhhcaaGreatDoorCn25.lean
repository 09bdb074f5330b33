/-
  Texts of this claim, joined. No condition.
-/
import Derived.Test.YtfcpdlbkmkhhcaaGreatDoorCn24
namespace Go.Proofs.YtfcpdlbkmkhhcaaGreatDoor.Cv
open See Cw
section
variable {c:Ch}{mn cp:Nat}{st:St}
def mvO (st:St)(s:Nat)(a b:Ct)(l1 l2:List Nat):St:={ st with
 ol:=fun x y=>if x=s∧y=b then l1++st.ol s b else if x=s∧y=a then l2 else st.ol x y
 loc:=fun x o=>if x=s∧o∈l1 then b else st.loc x o }
def mvS (st:St)(a b:Own)(l1 l2:List Nat):St:={ st with
 sl:=fun y=>if y=b then l1++st.sl b else if y=a then l2 else st.sl y
 own:=fun x=>if x∈l1 then b else st.own x }
structure MvO (c:Ch)(st:St)(s:Nat)(a b:Ct)(l1 l2:List Nat):Prop where
 ne:a≠b
 src:a.listed=true→st.ol s a=l1++l2
 at_:∀ o∈l1,st.loc s o=a
 nd:l1.Nodup
 an:a≠.none
 bn:b≠.none
 hb:∀ k,b = .head k→st.own s = .head k
 lb:b = .first∨(∃ k,b = .head k)→lkd (st.lk s) (See.keyOf c.key s) l1 (ZcP (st.ol s b) (-1))
 fu:st.own s = .full→b≠.first
 sh:st.own s = .shelf→st.cut≠some s→a = .first→l2≠[]
 mkg:∀ k,st.own s = .mine k→st.lv s=true
 em:st.hold=none→st.own s = .shelf→b = .first→(l1++st.ol s .first).length=c.O→(st.ol s .first).length=c.O
theorem MvO.src' {s:Nat}{a b:Ct}{l1 l2:List Nat}(G:Zbc c mn cp st)(h:MvO c st s a b l1 l2)(ha:a.listed=true):(∀ o,o∈l1→o∉l2):=by
 have h1:=G.od s a ha
 rw [h.src ha] at h1
 intro o ho ho2
 exact (List.nodup_append.1 h1).2.2 o ho o ho2 rfl
theorem ZsN {s:Nat}{a b:Ct}{l1 l2:List Nat}(G:Zbc c mn cp st)(h:MvO c st s a b l1 l2)(x:Nat)(y:Ct)(hy:y.listed=true)(o:Nat):o∈(mvO st s a b l1 l2).ol x y↔(mvO st s a b l1 l2).loc x o=y:=by
 have hs:=h.src
 have hd:=h.src' G
 have hm:=G.om x y hy o
 have ha:=h.at_ o
 have hne:=h.ne
 unfold mvO
 dsimp only
 by_cases hx:x=s
 ·subst hx
  by_cases hb:y=b
  ·subst hb
   simp only [true_and,if_true,List.mem_append,hm]
   by_cases ho:o∈l1 <;> simp [ho]
  ·by_cases hya:y=a
   ·subst hya
    rw [if_neg (fun e=>hb e.2),if_pos ⟨rfl,rfl⟩]
    by_cases ho:o∈l1
    ·simp only [ho,true_and,if_true,hd hy o ho,false_iff]
     exact fun e=>hb e.symm
    ·simp only [ho,and_false,if_false,← hm,hs hy,List.mem_append,false_or]
   ·rw [if_neg (fun e=>hb e.2),if_neg (fun e=>hya e.2),hm]
    by_cases ho:o∈l1
    ·simp only [ho,true_and,if_true,ha ho]
     constructor
     ·intro e
      exact absurd e.symm hya
     ·intro e
      exact absurd e.symm hb
    ·simp only [ho,and_false,if_false]
 ·simp only [hx,false_and,if_false,hm]
theorem ZsM {s:Nat}{a b:Ct}{l1 l2:List Nat}(G:Zbc c mn cp st)(h:MvO c st s a b l1 l2)(x:Nat)(y:Ct)(hy:y.listed=true):((mvO st s a b l1 l2).ol x y).Nodup:=by
 unfold mvO
 dsimp only
 split
 ·rename_i e
  obtain ⟨rfl,rfl⟩:=e
  refine List.nodup_append.2 ⟨h.nd,G.od x y hy,?_⟩
  intro p hp q hq e
  subst e
  rw [G.om x y hy,h.at_ p hp] at hq
  exact h.ne hq
 ·split
  ·rename_i e
   obtain ⟨rfl,rfl⟩:=e
   have:=G.od x y hy
   rw [h.src hy] at this
   exact (List.nodup_append.1 this).2.1
  ·exact G.od x y hy
theorem Zcb {s:Nat}{a b:Ct}{l1 l2:List Nat}(hb:b≠.first)(ha:a≠.first)(x:Nat):(mvO st s a b l1 l2).ol x .first=st.ol x .first:=by
 unfold mvO
 dsimp only
 rw [if_neg (fun e=>hb e.2.symm),if_neg (fun e=>ha e.2.symm)]
theorem Zqi {l:List Nat}{n:Nat}(hn:l.Nodup)(hb:∀ o∈l,o<n):l.length≤n:=by
 have:=few (S:=n) (l:=l.map (fun o:Nat=>(o:Int))) (by
  unfold List.Nodup
  rw [List.pairwise_map]
  exact hn.imp (fun h e=>h (Int.ofNat.inj e))) (by
  intro y hy
  obtain ⟨o,ho,rfl⟩:=List.mem_map.1 hy
  have:=hb o ho
  omega)
 simpa using this
theorem Zt9 {l:List Nat}{n:Nat}(hn:l.Nodup)(hb:∀ o∈l,o<n)(hl:l.length=n){o:Nat}(ho:o<n):o∈l:=by
 by_cases h:o∈l
 ·exact h
 ·have:=Zqi (l:=o::l) (n:=n) (List.nodup_cons.2 ⟨h,hn⟩) (by
   intro x hx
   rcases List.mem_cons.1 hx with rfl | hx
   ·exact ho
   ·exact hb x hx)
  simp at this
  omega
theorem Zbh {α:Type}{p q:α→Bool}:∀ {l:List α},(∀ x∈l,p x=true→q x=true)→l.countP p≤l.countP q
 | [],_=>by simp
 | x::l,h=>by
   have ih:=Zbh (l:=l) (fun y hy=>h y (List.mem_cons_of_mem _ hy))
   simp only [List.countP_cons]
   by_cases hp:p x=true
   ·rw [if_pos hp,if_pos (h x List.mem_cons_self hp)]
    omega
   ·rw [if_neg hp]
    omega
theorem ZbB {s:Nat}{a b:Ct}{l1 l2:List Nat}(G:Zbc c mn cp st)(h:MvO c st s a b l1 l2):Zbc c mn cp (mvO st s a b l1 l2):=by
 have hfst:∀ x,x≠s→∀ y,(mvO st s a b l1 l2).ol x y=st.ol x y:=fun x hx y=>by
  unfold mvO
  dsimp only
  rw [if_neg (fun e=>hx e.1),if_neg (fun e=>hx e.1)]
 have hlkd:∀ x y,(y = .first∨∃ k,y = .head k)→lkd (st.lk x) (See.keyOf c.key x) (st.ol x y) (-1)→lkd (st.lk x) (See.keyOf c.key x) ((mvO st s a b l1 l2).ol x y) (-1):=by
  intro x y hy hl
  by_cases hx:x=s
  ·subst hx
   unfold mvO
   dsimp only
   by_cases e:y=b
   ·subst e
    rw [if_pos ⟨rfl,rfl⟩,Zc5]
    exact ⟨h.lb hy,hl⟩
   ·rw [if_neg (fun e2=>e e2.2)]
    by_cases e:y=a
    ·subst e
     rw [if_pos ⟨rfl,rfl⟩]
     rw [h.src (by rcases hy with rfl | ⟨k,rfl⟩ <;> rfl),Zc5] at hl
     exact hl.2
    ·rw [if_neg (fun e2=>e e2.2)]
     exact hl
  ·rw [hfst x hx]
   exact hl
 refine { G with om:=ZsN G h,od:=ZsM G h,ob := ?_,oh := ?_,live := ?_,making := ?_,full := ?_,shelf := ?_,l1 := ?_,l2 := ?_,rest := ?_ }
 ·intro x o
  unfold mvO
  dsimp only
  split
  ·rename_i e
   obtain ⟨rfl,ho⟩:=e
   intro _
   exact G.ob x o (by rw [h.at_ o ho]; exact h.an)
  ·exact G.ob x o
 ·intro x o k
  unfold mvO
  dsimp only
  split
  ·rename_i e
   obtain ⟨rfl,ho⟩:=e
   exact h.hb k
  ·exact G.oh x o k
 ·intro x o hx ho
  have:=G.live x o hx ho
  unfold mvO
  dsimp only
  split
  ·rename_i e
   obtain ⟨rfl,hol⟩:=e
   rw [h.at_ o hol] at this
   constructor
   ·intro e
    exact absurd e h.bn
   ·intro e
    exact absurd (this.2 e) h.an
  ·exact this
 ·intro x k hx hl o ho
  unfold mvO
  dsimp only
  split
  ·rename_i e
   obtain ⟨rfl,hol⟩:=e
   have:=h.mkg k hx
   rw [show st.lv x=false from hl] at this
   cases this
  ·exact G.making x k hx hl o ho
 ·intro x hx
  obtain ⟨h1,h2,h3⟩:=G.full x hx
  refine ⟨h1,h2,?_⟩
  by_cases e:x=s
  ·subst e
   unfold mvO
   dsimp only
   rw [if_neg (fun e=>h.fu hx e.2.symm)]
   split
   ·rename_i e
    obtain ⟨_,rfl⟩:=e
    have:=h.src rfl
    rw [h3] at this
    exact (List.nil_eq_append_iff.1 this).2
   ·exact h3
  ·rw [hfst x e]
   exact h3
 ·intro x hx
  obtain ⟨h1,h2⟩:=G.shelf x hx
  refine ⟨h1,fun hc=>⟨(h2 hc).1,?_⟩⟩
  by_cases e:x=s
  ·subst e
   unfold mvO
   dsimp only
   split
   ·rename_i e
    obtain ⟨_,rfl⟩:=e
    intro e2
    exact (h2 hc).2 (List.append_eq_nil_iff.1 e2).2
   ·split
    ·rename_i e
     exact h.sh hx hc e.2.symm
    ·exact (h2 hc).2
  ·rw [hfst x e]
   exact (h2 hc).2
 ·intro x
  exact hlkd x .first (.inl rfl) (G.l1 x)
 ·intro x k
  exact hlkd x (.head k) (.inr ⟨k,rfl⟩) (G.l2 x k)
 ·intro hh
  obtain ⟨h1,h2,h3⟩:=G.rest hh
  refine ⟨h1,h2,Nat.le_trans ?_ h3⟩
  refine Zbh fun x hx he => ?_
  have hx2:st.own x = .shelf:=(G.sm .shelf rfl x).1 hx
  have hfz:(mvO st s a b l1 l2).frz x=st.frz x:=rfl
  rw [Bool.and_eq_true,hfz] at he
  rw [Bool.and_eq_true]
  obtain ⟨he,he2⟩:=he
  refine ⟨?_,he2⟩
  by_cases e:x=s
  ·subst e
   unfold mvO at he
   dsimp only at he
   split at he
   ·rename_i e
    obtain ⟨_,rfl⟩:=e
    have:=h.em hh hx2 rfl (by simpa using he)
    simpa using this
   ·split at he
    ·rename_i e
     obtain ⟨_,rfl⟩:=e
     have h4:=h.src rfl
     have h5:l2.length=c.O:=by simpa using he
     have h6:(st.ol x .first).length≤c.O:=by
      have hn:=G.od x .first rfl
      have hb:∀ o∈st.ol x .first,o<c.O:=fun o ho=>(G.ob x o (by rw [(G.om x .first rfl o).1 ho]; simp)).2
      exact Zqi hn hb
     rw [h4] at h6
     simp at h6
     have h7:(st.ol x .first).length=c.O:=by
      rw [h4]
      simp
      omega
     simpa using h7
    ·exact he
  ·rw [hfst x e] at he
   exact he
end
end Go.Proofs.YtfcpdlbkmkhhcaaGreatDoor.Cv

namespace Go.Proofs.YtfcpdlbkmkhhcaaGreatDoor.Cv
open See Cw
section
variable {c:Ch}{mn cp:Nat}{st st' st'':St}
structure ZaO (c:Ch)(j:Nat)(hx px:Option Nat)(st st':St):Prop where
 slm:st'.sl (.mine j)=st.sl (.mine j)
 slc:st'.sl (.chain j)=st.sl (.chain j)
 obj:∀ s,st'.ol s (.ZaB j)=st.ol s (.ZaB j)
 flg:∀ s,st.own s = .mine j→st'.lv s=st.lv s∧st'.frz s=st.frz s∧st'.nx s=st.nx s
 nxc:∀ s,st.own s = .chain j→st'.nx s=st.nx s
 lk:∀ s o,st.loc s o = .ZaB j→st'.lk s o=st.lk s o
 fst:∀ s,st.own s = .mine j∨st.hold=some j∧st.own s = .shelf→(∃ l,st'.ol s .first=l++st.ol s .first)∧(st.frz s=false→(st'.ol s .first).length=c.O→(st.ol s .first).length=c.O)
 hd:∀ x,hx≠some x→st'.sl (.head x)=st.sl (.head x)∧∀ s,st'.ol s (.head x)=st.ol s (.head x)
 pt:∀ x,px≠some x→st'.sl (.part x)=st.sl (.part x)
 hdk:st.sl (.head j)=[]→st'.sl (.head j)=[]
 lock:st.hold=some j→st'.hold=some j∧st'.cut=st.cut∧st'.held=st.held∧st'.sl .shelf=st.sl .shelf∧∀ s,st.own s = .shelf→st'.nx s=st.nx s∧st'.lv s=st.lv s∧st'.frz s=st.frz s
 hl:st'.hold=some j→st.hold=some j
 htm:∀ x,st.ht x≤st'.ht x
 ptm:∀ x,st.pt x≤st'.pt x
 tk:st'.tk j=st.tk j
theorem ZaO.refl {j:Nat}{hx px:Option Nat}:ZaO c j hx px st st where
 slm:=rfl
 slc:=rfl
 obj _:=rfl
 flg _ _:=⟨rfl,rfl,rfl⟩
 nxc _ _:=rfl
 lk _ _ _:=rfl
 fst _ _:=⟨⟨[],rfl⟩,fun _ h=>h⟩
 hd _ _:=⟨rfl,fun _=>rfl⟩
 pt _ _:=rfl
 hdk h:=h
 lock h:=⟨h,rfl,rfl,rfl,fun _ _=>⟨rfl,rfl,rfl⟩⟩
 hl h:=h
 htm _:=Nat.le_refl _
 ptm _:=Nat.le_refl _
 tk:=rfl
theorem ZaO.trans {j:Nat}{hx px:Option Nat}(G:Zbc c mn cp st)(G':Zbc c mn cp st')(h:ZaO c j hx px st st')(h':ZaO c j hx px st' st''):ZaO c j hx px st st'':=by
 have ho:∀ s,st.own s = .mine j→st'.own s = .mine j:=fun s e=>by
  rw [← G'.sm _ rfl,h.slm,G.sm _ rfl]
  exact e
 have hc:∀ s,st.own s = .chain j→st'.own s = .chain j:=fun s e=>by
  rw [← G'.sm _ rfl,h.slc,G.sm _ rfl]
  exact e
 have ht:∀ s o,st.loc s o = .ZaB j→st'.loc s o = .ZaB j:=fun s o e=>by
  rw [← G'.om _ _ rfl,h.obj,G.om _ _ rfl]
  exact e
 have hs:∀ s,st.hold=some j→st.own s = .shelf→st'.own s = .shelf:=fun s e1 e=>by
  rw [← G'.sm _ rfl,(h.lock e1).2.2.2.1,G.sm _ rfl]
  exact e
 refine ⟨h'.slm.trans h.slm,h'.slc.trans h.slc,fun s=>(h'.obj s).trans (h.obj s),?_,?_,?_,?_,?_,?_,fun e=>h'.hdk (h.hdk e),?_,fun e=>h.hl (h'.hl e),fun x=>Nat.le_trans (h.htm x) (h'.htm x),fun x=>Nat.le_trans (h.ptm x) (h'.ptm x),h'.tk.trans h.tk⟩
 ·intro s e
  obtain ⟨a1,a2,a3⟩:=h.flg s e
  obtain ⟨b1,b2,b3⟩:=h'.flg s (ho s e)
  exact ⟨b1.trans a1,b2.trans a2,b3.trans a3⟩
 ·intro s e
  exact (h'.nxc s (hc s e)).trans (h.nxc s e)
 ·intro s o e
  exact (h'.lk s o (ht s o e)).trans (h.lk s o e)
 ·intro s e
  obtain ⟨⟨l,a1⟩,a2⟩:=h.fst s e
  have e2:st'.own s = .mine j∨st'.hold=some j∧st'.own s = .shelf:=by
   rcases e with e | ⟨e1,e⟩
   ·exact .inl (ho s e)
   ·exact .inr ⟨(h.lock e1).1,hs s e1 e⟩
  obtain ⟨⟨l',b1⟩,b2⟩:=h'.fst s e2
  refine ⟨⟨l'++l,by rw [b1,a1,List.append_assoc]⟩,fun hf hl=>a2 hf (b2 ?_ hl)⟩
  rcases e with e | ⟨e1,e⟩
  ·rw [(h.flg s e).2.1]
   exact hf
  ·rw [((h.lock e1).2.2.2.2 s e).2.2]
   exact hf
 ·intro x hx
  obtain ⟨a1,a2⟩:=h.hd x hx
  obtain ⟨b1,b2⟩:=h'.hd x hx
  exact ⟨b1.trans a1,fun s=>(b2 s).trans (a2 s)⟩
 ·intro x hx
  exact (h'.pt x hx).trans (h.pt x hx)
 ·intro e
  obtain ⟨a1,a2,a3,a4,a5⟩:=h.lock e
  obtain ⟨b1,b2,b3,b4,b5⟩:=h'.lock a1
  refine ⟨b1,b2.trans a2,b3.trans a3,b4.trans a4,fun s hs' => ?_⟩
  obtain ⟨a6,a7,a8⟩:=a5 s hs'
  obtain ⟨b6,b7,b8⟩:=b5 s (hs s e hs')
  exact ⟨b6.trans a6,b7.trans a7,b8.trans a8⟩
theorem ZbC {j k s:Nat}{a b:Ct}{l1 l2:List Nat}{hx px:Option Nat}(hj:j≠k)(ha:∀ x,a = .ZaB x→x=k)(hb:∀ x,b = .ZaB x→x=k)(hxa:∀ x,a = .head x∨b = .head x→hx=some x)
 (hf:a = .first→st.own s = .mine k∨st.hold=some k∧st.own s = .shelf) (hab:a≠b)
 (hfr:b = .first→st.frz s=false→(l1++st.ol s .first).length=c.O→(st.ol s .first).length=c.O∨st.own s = .mine k∨st.hold=some k∧st.own s = .shelf) :
 ZaO c j hx px st (mvO st s a b l1 l2):=by
 refine { (ZaO.refl:ZaO c j hx px st st) with obj := ?_,fst := ?_,hd := ?_ }
 ·intro x
  unfold mvO
  dsimp only
  rw [if_neg,if_neg]
  ·rintro ⟨-,rfl⟩
   exact hj (ha j rfl)
  ·rintro ⟨-,rfl⟩
   exact hj (hb j rfl)
 ·intro x e
  unfold mvO
  dsimp only
  split
  ·rename_i e2
   obtain ⟨rfl,rfl⟩:=e2
   refine ⟨⟨l1,rfl⟩,fun h1 h2 => ?_⟩
   rcases hfr rfl h1 h2 with h3 | h3 | ⟨h3,h4⟩
   ·exact h3
   ·rw [h3] at e
    rcases e with e | ⟨_,e⟩
    ·cases e
     exact absurd rfl hj
    ·cases e
   ·rw [h3,h4] at e
    rcases e with e | ⟨e,_⟩
    ·cases e
    ·cases e
     exact absurd rfl hj
  ·split
   ·rename_i e2
    obtain ⟨rfl,rfl⟩:=e2
    exfalso
    rcases hf rfl with h3 | ⟨h3,h4⟩
    ·rw [h3] at e
     rcases e with e | ⟨_,e⟩
     ·cases e
      exact hj rfl
     ·cases e
    ·rw [h3,h4] at e
     rcases e with e | ⟨e,_⟩
     ·cases e
     ·cases e
      exact hj rfl
   ·exact ⟨⟨[],rfl⟩,fun _ h=>h⟩
 ·intro x hx
  refine ⟨rfl,fun y => ?_⟩
  unfold mvO
  dsimp only
  rw [if_neg,if_neg]
  ·rintro ⟨-,rfl⟩
   exact hx (hxa x (.inl rfl))
  ·rintro ⟨-,rfl⟩
   exact hx (hxa x (.inr rfl))
structure MvS (c:Ch)(cp:Nat)(st:St)(a b:Own)(l1 l2:List Nat):Prop where
 ne:a≠b
 src:a.listed=true→st.sl a=l1++l2
 at_:∀ s∈l1,st.own s=a
 nd:l1.Nodup
 ad:a≠.dead∧a≠.shelf
 bd:b≠.dead
 lv:∀ s∈l1,st.lv s=true
 k:∀ x,b = .head x∨b = .part x∨b = .chain x∨b = .mine x→x<c.C
 one:∀ x,b = .head x∨b = .mine x→l1.length+(st.sl b).length≤1
 fu:b = .full→∀ s∈l1,st.frz s=false∧st.ol s .first=[]
 sh:b = .shelf→st.hold≠none∧∀ s∈l1,st.frz s=false∧st.ol s .first≠[]
 hp:∀ x,b = .head x∨b = .part x∨b = .chain x→∀ s∈l1,st.frz s=true
 oh:∀ x,a = .head x→∀ s∈l1,st.ol s (.head x)=[]
 cP:∀ x,b = .part x∨b = .chain x→chP st.nx (l1++st.sl b)
 cS:b = .shelf→chS st.nx (l1++st.sl b)
 cap:∀ x,b = .part x→(l1++st.sl b).length≤cp
theorem Zlh {f:Nat→Nat}:∀ {p q:List Nat},chP f (p++q)→chP f q
 | [],_,h=>h
 | _::_,_,⟨_,h⟩=>Zlh h
theorem ZsP {a b:Own}{l1 l2:List Nat}(G:Zbc c mn cp st)(h:MvS c cp st a b l1 l2)(y:Own)(hy:y.listed=true)(s:Nat):s∈(mvS st a b l1 l2).sl y↔(mvS st a b l1 l2).own s=y:=by
 have hm:=G.sm y hy s
 have hs:=h.src
 have ha:=h.at_ s
 have hne:=h.ne
 unfold mvS
 dsimp only
 by_cases hb:y=b
 ·subst hb
  simp only [if_true,List.mem_append,hm]
  by_cases ho:s∈l1 <;> simp [ho]
 ·rw [if_neg hb]
  by_cases hya:y=a
  ·subst hya
   rw [if_pos rfl]
   have hd:=G.sd y hy
   rw [hs hy] at hd
   by_cases ho:s∈l1
   ·rw [if_pos ho]
    constructor
    ·intro e
     exact absurd rfl ((List.nodup_append.1 hd).2.2 s ho s e)
    ·intro e
     exact absurd e.symm hb
   ·rw [if_neg ho,← hm,hs hy,List.mem_append]
    simp [ho]
  ·rw [if_neg hya,hm]
   by_cases ho:s∈l1
   ·rw [if_pos ho,ha ho]
    constructor
    ·intro e
     exact absurd e.symm hya
    ·intro e
     exact absurd e.symm hb
   ·rw [if_neg ho]
theorem ZsO {a b:Own}{l1 l2:List Nat}(G:Zbc c mn cp st)(h:MvS c cp st a b l1 l2)(y:Own)(hy:y.listed=true):((mvS st a b l1 l2).sl y).Nodup:=by
 unfold mvS
 dsimp only
 split
 ·rename_i e
  subst e
  refine List.nodup_append.2 ⟨h.nd,G.sd y hy,?_⟩
  intro p hp q hq e
  subst e
  rw [G.sm y hy,h.at_ p hp] at hq
  exact h.ne hq
 ·split
  ·rename_i e
   subst e
   have:=G.sd y hy
   rw [h.src hy] at this
   exact (List.nodup_append.1 this).2.1
  ·exact G.sd y hy
theorem ZbY {a b:Own}{l1 l2:List Nat}(G:Zbc c mn cp st)(h:MvS c cp st a b l1 l2):Zbc c mn cp (mvS st a b l1 l2):=by
 have hsh:b≠.shelf→(mvS st a b l1 l2).sl .shelf=st.sl .shelf:=fun e=>by
  unfold mvS
  dsimp only
  rw [if_neg (fun e2=>e e2.symm),if_neg (fun e2=>h.ad.2 e2.symm)]
 have hcuts:∀ s,st.cut=some s→(mvS st a b l1 l2).own s = .shelf∧st.frz s=true:=by
  intro s hs
  obtain ⟨h1,h2⟩:=G.cuts s hs
  refine ⟨?_,h2⟩
  unfold mvS
  dsimp only
  rw [if_neg]
  ·exact h1
  ·intro e
   rw [h.at_ s e] at h1
   exact h.ad.2 h1
 refine { G with cuts:=hcuts,oh := ?_,sm:=ZsP G h,sd:=ZsO G h,sb := ?_,s1 := ?_,sk := ?_,live := ?_,dead := ?_,making := ?_,full := ?_,shelf := ?_,hpc := ?_,cP := ?_,cS := ?_,cap := ?_,rest := ?_ }
 ·intro s o k hl
  have:=G.oh s o k hl
  unfold mvS
  dsimp only
  split
  ·rename_i hs
   rw [h.at_ s hs] at this
   have h2:=h.oh k this s hs
   have h3:=(G.om s (.head k) rfl o).2 hl
   rw [h2] at h3
   cases h3
  ·exact this
 ·intro s
  unfold mvS
  dsimp only
  split
  ·rename_i hs
   intro _
   exact G.sb s (by rw [h.at_ s hs]; exact h.ad.1)
  ·exact G.sb s
 ·have key:∀ k y,(y = .head k∨y = .mine k)→(st.sl y).length≤1→((mvS st a b l1 l2).sl y).length≤1:=by
   intro k y hy h1
   unfold mvS
   dsimp only
   split
   ·rename_i e
    subst e
    rw [List.length_append]
    exact h.one k hy
   ·split
    ·rename_i e
     subst e
     rw [h.src (by rcases hy with rfl | rfl <;> rfl),List.length_append] at h1
     omega
    ·exact h1
  intro k
  exact ⟨key k _ (.inl rfl) (G.s1 k).1,key k _ (.inr rfl) (G.s1 k).2⟩
 ·intro s k
  unfold mvS
  dsimp only
  split
  ·exact h.k k
  ·exact G.sk s k
 ·intro s o hs ho
  have:=G.live s o hs ho
  unfold mvS
  dsimp only
  split
  ·rename_i hl
   rw [h.at_ s hl] at this
   constructor
   ·intro e
    exact absurd (this.1 e) h.ad.1
   ·intro e
    exact absurd e h.bd
  ·exact this
 ·intro s
  unfold mvS
  dsimp only
  split
  ·intro e
   exact absurd e h.bd
  ·exact G.dead s
 ·intro s k
  unfold mvS
  dsimp only
  split
  ·rename_i hl
   intro _ e
   rw [h.lv s hl] at e
   cases e
  ·exact G.making s k
 ·intro s
  unfold mvS
  dsimp only
  split
  ·rename_i hl
   intro e
   exact ⟨h.lv s hl,h.fu e s hl⟩
  ·exact G.full s
 ·intro s
  unfold mvS
  dsimp only
  split
  ·rename_i hl
   intro e
   exact ⟨h.lv s hl,fun _=>(h.sh e).2 s hl⟩
  ·exact G.shelf s
 ·intro s k
  unfold mvS
  dsimp only
  split
  ·rename_i hl
   intro e
   exact ⟨h.lv s hl,h.hp k e s hl⟩
  ·exact G.hpc s k
 ·have key:∀ k y,(y = .part k∨y = .chain k)→chP st.nx (st.sl y)→chP st.nx ((mvS st a b l1 l2).sl y):=by
   intro k y hy h1
   unfold mvS
   dsimp only
   split
   ·rename_i e
    subst e
    exact h.cP k hy
   ·split
    ·rename_i e
     subst e
     rw [h.src (by rcases hy with rfl | rfl <;> rfl)] at h1
     exact Zlh h1
    ·exact h1
  intro k
  exact ⟨key k _ (.inl rfl) (G.cP k).1,key k _ (.inr rfl) (G.cP k).2⟩
 ·by_cases e:b = .shelf
  ·unfold mvS
   dsimp only
   rw [if_pos e.symm]
   exact h.cS e
  ·rw [hsh e]
   exact G.cS
 ·intro k
  unfold mvS
  dsimp only
  split
  ·rename_i e
   exact h.cap k e.symm
  ·split
   ·rename_i e
    subst e
    have:=G.cap k
    rw [h.src rfl,List.length_append] at this
    omega
   ·exact G.cap k
 ·intro hh
  have e:b≠.shelf:=fun e=>(h.sh e).1 hh
  obtain ⟨h1,h2,h3⟩:=G.rest hh
  refine ⟨h1,?_,?_⟩
  ·rw [hsh e]
   exact h2
  ·unfold ZfV
   rw [hsh e]
   exact h3
theorem ZbZ {j k:Nat}{a b:Own}{l1 l2:List Nat}{hx px:Option Nat}(hj:j≠k)(ha:∀ x,a = .mine x∨a = .chain x→x=k)(hb:∀ x,b = .mine x∨b = .chain x→x=k)(hxa:∀ x,a = .head x∨b = .head x→hx=some x)(hpa:∀ x,a = .part x∨b = .part x→px=some x)
 (hbk:∀ x,b = .head x→x=k) (hsh:b = .shelf→st.hold=some k) (has:a≠.shelf) (hah:∀ x,a = .head x→st.sl a=l1++l2) :
 ZaO c j hx px st (mvS st a b l1 l2):=by
 have key:∀ y,y≠a→y≠b→(mvS st a b l1 l2).sl y=st.sl y:=fun y h1 h2=>by
  unfold mvS
  dsimp only
  rw [if_neg h2,if_neg h1]
 refine { (ZaO.refl:ZaO c j hx px st st) with slm := ?_,slc := ?_,hd := ?_,pt := ?_,hdk := ?_,lock := ?_ }
 ·exact key _ (fun e=>hj (ha j (.inl e.symm))) (fun e=>hj (hb j (.inl e.symm)))
 ·exact key _ (fun e=>hj (ha j (.inr e.symm))) (fun e=>hj (hb j (.inr e.symm)))
 ·intro x hx
  exact ⟨key _ (fun e=>hx (hxa x (.inl e.symm))) (fun e=>hx (hxa x (.inr e.symm))),fun _=>rfl⟩
 ·intro x hx
  exact key _ (fun e=>hx (hpa x (.inl e.symm))) (fun e=>hx (hpa x (.inr e.symm)))
 ·intro h1
  have h2:Own.head j≠b:=fun e=>hj (hbk j e.symm)
  unfold mvS
  dsimp only
  rw [if_neg h2]
  split
  ·rename_i e
   have:=hah j e.symm
   rw [← e,h1] at this
   exact (List.nil_eq_append_iff.1 this).2
  ·exact h1
 ·intro h1
  refine ⟨h1,rfl,rfl,key _ (fun e=>has e.symm) ?_,fun _ _=>⟨rfl,rfl,rfl⟩⟩
  intro e
  have:=hsh e.symm
  rw [h1] at this
  cases this
  exact hj rfl
end
end Go.Proofs.YtfcpdlbkmkhhcaaGreatDoor.Cv

namespace Go.Proofs.YtfcpdlbkmkhhcaaGreatDoor.Cv
open See Cw
section
variable {c:Ch}{mn cp:Nat}{st st' st'':St}
def Zef (st:St)(s o x:Nat):St:={ st with lk:=fun y p=>if y=s∧p=o then x else st.lk y p }
theorem ZbQ {s o x k:Nat}(G:Zbc c mn cp st)(h:st.loc s o = .ZaB k):Zbc c mn cp (Zef st s o x):=by
 have key:∀ y z,z.listed=true→(∀ k,z≠.ZaB k)→lkd (st.lk y) (See.keyOf c.key y) (st.ol y z) (-1)→lkd ((Zef st s o x).lk y) (See.keyOf c.key y) (st.ol y z) (-1):=by
  intro y z hz hz2 hl
  refine Ze4 (fun p hp => ?_) hl
  unfold Zef
  dsimp only
  rw [if_neg]
  rintro ⟨rfl,rfl⟩
  rw [G.om y z hz,h] at hp
  exact hz2 k hp.symm
 refine { G with l1 := ?_,l2 := ?_ }
 ·exact fun s=>key s _ rfl (fun k e=>by cases e) (G.l1 s)
 ·exact fun s k=>key s _ rfl (fun k e=>by cases e) (G.l2 s k)
theorem ZaN {j k s o x:Nat}{hx px:Option Nat}(hj:j≠k)(h:st.loc s o = .ZaB k):ZaO c j hx px st (Zef st s o x):=by
 refine { (ZaO.refl:ZaO c j hx px st st) with lk := ?_ }
 intro y p hp
 unfold Zef
 dsimp only
 rw [if_neg]
 rintro ⟨rfl,rfl⟩
 rw [h] at hp
 cases hp
 exact hj rfl
def ZfY (st:St)(s x:Nat):St:={ st with nx:=fun y=>if y=s then x else st.nx y }
theorem ZhR {s x k:Nat}(G:Zbc c mn cp st)(h:st.own s = .mine k)(hx:x<18446744073709551616):Zbc c mn cp (ZfY st s x):=by
 have ne:∀ y z,z.listed=true→z≠.mine k→y∈st.sl z→(ZfY st s x).nx y=st.nx y:=by
  intro y z hz hz2 hy
  unfold ZfY
  dsimp only
  rw [if_neg]
  rintro rfl
  rw [G.sm z hz,h] at hy
  exact hz2 hy.symm
 refine { G with cP := ?_,cS := ?_,nxb := ?_ }
 ·intro x
  exact ⟨ZeW (fun y hy=>ne y _ rfl (fun e=>by cases e) hy) (G.cP x).1,ZeW (fun y hy=>ne y _ rfl (fun e=>by cases e) hy) (G.cP x).2⟩
 ·exact ZeX (fun y hy=>ne y _ rfl (fun e=>by cases e) hy) G.cS
 ·intro y
  unfold ZfY
  dsimp only
  split
  ·exact hx
  ·exact G.nxb y
theorem ZhS {j k s x:Nat}{hx px:Option Nat}(hj:j≠k)(h:st.own s = .mine k):ZaO c j hx px st (ZfY st s x):=by
 have ne:∀ y,st.own y≠.mine k→(ZfY st s x).nx y=st.nx y:=by
  intro y hy
  unfold ZfY
  dsimp only
  rw [if_neg]
  rintro rfl
  exact hy h
 refine { (ZaO.refl:ZaO c j hx px st st) with flg := ?_,nxc := ?_,lock := ?_ }
 ·intro y hy
  refine ⟨rfl,rfl,ne y ?_⟩
  rw [hy]
  intro e
  cases e
  exact hj rfl
 ·intro y hy
  refine ne y ?_
  rw [hy]
  intro e
  cases e
 ·intro hh
  refine ⟨hh,rfl,rfl,rfl,fun y hy=>⟨ne y ?_,rfl,rfl⟩⟩
  rw [hy]
  intro e
  cases e
def Zbr (st:St)(s:Nat)(a b:Bool):St:={ st with lv:=fun y=>if y=s then a else st.lv y,frz:=fun y=>if y=s then b else st.frz y }
theorem Zc9 {s k:Nat}{a b:Bool}(G:Zbc c mn cp st)(h:st.own s = .mine k)(ha:a=false→∀ o,o<c.O→st.loc s o = .ZaB k):Zbc c mn cp (Zbr st s a b):=by
 have ne:∀ y,st.own y≠.mine k→(Zbr st s a b).lv y=st.lv y∧(Zbr st s a b).frz y=st.frz y:=by
  intro y hy
  unfold Zbr
  dsimp only
  rw [if_neg,if_neg]
  ·exact ⟨rfl,rfl⟩
  ·rintro rfl
   exact hy h
  ·rintro rfl
   exact hy h
 have hcuts:∀ y,st.cut=some y→st.own y = .shelf∧(Zbr st s a b).frz y=true:=by
  intro y hy
  obtain ⟨h1,h2⟩:=G.cuts y hy
  refine ⟨h1,?_⟩
  rw [(ne y (by rw [h1]; intro e; cases e)).2]
  exact h2
 refine { G with dead := ?_,making := ?_,full := ?_,shelf := ?_,hpc := ?_,rest := ?_,cuts:=hcuts }
 rotate_right
 ·intro e
  obtain ⟨h1,h2,h3⟩:=G.rest e
  refine ⟨h1,h2,Nat.le_trans (Zbh fun x hx he => ?_) h3⟩
  rw [(ne x (by
   rw [(G.sm .shelf rfl x).1 hx]
   intro e
   cases e)).2] at he
  exact he
 ·intro y hy
  rw [(ne y (by rw [show st.own y = .dead from hy]; intro e; cases e)).1]
  exact G.dead y hy
 ·intro y j hy hl o ho
  by_cases e:y=s
  ·subst e
   have e1:Own.mine j=Own.mine k:=by
    rw [← h]
    exact hy.symm
   cases e1
   refine ha ?_ o ho
   unfold Zbr at hl
   dsimp only at hl
   rw [if_pos rfl] at hl
   exact hl
  ·refine G.making y j hy ?_ o ho
   unfold Zbr at hl
   dsimp only at hl
   rw [if_neg e] at hl
   exact hl
 ·intro y hy
  obtain ⟨e1,e2⟩:=ne y (by rw [show st.own y = .full from hy]; intro e; cases e)
  rw [e1,e2]
  exact G.full y hy
 ·intro y hy
  obtain ⟨e1,e2⟩:=ne y (by rw [show st.own y = .shelf from hy]; intro e; cases e)
  rw [e1,e2]
  exact G.shelf y hy
 ·intro y x hy
  obtain ⟨e1,e2⟩:=ne y (by
   intro e
   rcases hy with hy | hy | hy <;>
   ·rw [show st.own y=_ from hy] at e
    cases e)
  rw [e1,e2]
  exact G.hpc y x hy
theorem Zda {j k s:Nat}{a b:Bool}{hx px:Option Nat}(hj:j≠k)(h:st.own s = .mine k):ZaO c j hx px st (Zbr st s a b):=by
 have ne:∀ y,st.own y≠.mine k→(Zbr st s a b).lv y=st.lv y∧(Zbr st s a b).frz y=st.frz y:=by
  intro y hy
  unfold Zbr
  dsimp only
  rw [if_neg,if_neg]
  ·exact ⟨rfl,rfl⟩
  ·rintro rfl
   exact hy h
  ·rintro rfl
   exact hy h
 refine { (ZaO.refl:ZaO c j hx px st st) with flg := ?_,lock := ?_ }
 ·intro y hy
  obtain ⟨e1,e2⟩:=ne y (by
   rw [hy]
   intro e
   cases e
   exact hj rfl)
  exact ⟨e1,e2,rfl⟩
 ·intro hh
  refine ⟨hh,rfl,rfl,rfl,fun y hy => ?_⟩
  obtain ⟨e1,e2⟩:=ne y (by
   rw [hy]
   intro e
   cases e)
  exact ⟨rfl,e1,e2⟩
def Zgq (st:St)(s:Nat):St:={ st with frz:=fun y=>if y=s then true else st.frz y,cut:=some s }
theorem Zme {s k:Nat}(G:Zbc c mn cp st)(h:st.own s = .shelf)(hh:st.hold=some k)(hc:st.cut=none):Zbc c mn cp (Zgq st s):=by
 have ne:∀ y,st.own y≠.shelf→(Zgq st s).frz y=st.frz y:=by
  intro y hy
  unfold Zgq
  dsimp only
  rw [if_neg]
  rintro rfl
  exact hy h
 have hcuts:∀ y,(Zgq st s).cut=some y→st.own y = .shelf∧(Zgq st s).frz y=true:=by
  intro y hy
  cases hy
  exact ⟨h,if_pos rfl⟩
 refine { G with full := ?_,shelf := ?_,hpc := ?_,rest := ?_,cuts:=hcuts }
 ·intro y hy
  rw [ne y (by rw [show st.own y = .full from hy]; intro e; cases e)]
  exact G.full y hy
 ·intro y hy
  obtain ⟨h1,h2⟩:=G.shelf y hy
  refine ⟨h1,fun hne => ?_⟩
  have e:y≠s:=fun e=>hne (by rw [e]; rfl)
  obtain ⟨h3,h4⟩:=h2 (by rw [hc]; intro e; cases e)
  refine ⟨?_,h4⟩
  unfold Zgq
  dsimp only
  rw [if_neg e]
  exact h3
 ·intro y x hy
  rw [ne y (by
   intro e
   rcases hy with hy | hy | hy <;>
   ·rw [show st.own y=_ from hy] at e
    cases e)]
  exact G.hpc y x hy
 ·intro e
  rw [show st.hold=none from e] at hh
  cases hh
theorem Zmf {j k s:Nat}{hx px:Option Nat}(hj:j≠k)(h:st.own s = .shelf)(hh:st.hold=some k):ZaO c j hx px st (Zgq st s):=by
 refine { (ZaO.refl:ZaO c j hx px st st) with flg := ?_,lock := ?_ }
 ·intro y hy
  refine ⟨rfl,?_,rfl⟩
  unfold Zgq
  dsimp only
  rw [if_neg]
  rintro rfl
  rw [h] at hy
  cases hy
 ·intro e
  rw [hh] at e
  cases e
  exact absurd rfl hj
def off (st:St)(k:Nat)(p:List Nat)(s:Nat)(q:List Nat):St:={ st with
 sl:=fun y=>if y = .mine k then [s] else if y = .shelf then p++q else st.sl y
 own:=fun y=>if y=s then .mine k else st.own y
 nx:=fun y=>if p.getLast?=some y then sw q else st.nx y
 cut:=none }
theorem ZmZ {f:Nat→Nat}:∀ {p q:List Nat} {s:Nat},(p++s::q).Nodup→chS f (p++s::q)→chS (fun y=>if p.getLast?=some y then sw q else f y) (p++q)
 | [],q,s,_,h=>by
   refine ZeX (fun o _ => ?_) h.2
   simp
 | [a],q,s,hn,h=>by
   refine ⟨by simp,ZeX (fun o ho => ?_) h.2.2⟩
   rw [if_neg]
   intro e
   simp at e
   subst e
   simp at hn
   exact hn.1.2 ho
 | a::b::p,q,s,hn,h=>by
   have h2:=ZmZ (p:=b::p) (q:=q) (s:=s) (List.nodup_cons.1 hn).2 h.2
   refine ⟨?_,?_⟩
   ·show (if (a::b::p).getLast?=some a then sw q else f a)=_
    rw [if_neg,h.1]
    ·rfl
    ·intro e
     have:a∈b::p:=by
      have:=List.mem_of_getLast? (l:=a::b::p) e
      rw [List.getLast?_cons_cons] at e
      exact List.mem_of_getLast? e
     have hn2:=(List.nodup_cons.1 hn).1
     exact hn2 (List.mem_append_left (s::q) this)
   ·have e:(a::b::p).getLast?=(b::p).getLast?:=List.getLast?_cons_cons
    simp only [e]
    exact h2
theorem ZlJ {k s:Nat}{p q:List Nat}(G:Zbc c mn cp st)(h:st.sl .shelf=p++s::q)(hm:st.sl (.mine k)=[])(hk:k<c.C)(hh:st.hold=some k)(hc:∀ y,st.cut=some y→y=s)(hS:c.S≤32):Zbc c mn cp (off st k p s q):=by
 have hown:st.own s = .shelf:=(G.sm .shelf rfl s).1 (by rw [h]; simp)
 have hnd:=G.sd .shelf rfl
 rw [h] at hnd
 have hsp:s∉p∧s∉q:=by
  have h1:=(List.nodup_append.1 hnd).2.2
  have h2:=(List.nodup_append.1 hnd).2.1
  exact ⟨fun e=>h1 s e s List.mem_cons_self rfl,(List.nodup_cons.1 h2).1⟩
 have hpS:∀ y∈p,st.own y = .shelf:=fun y hy=>(G.sm .shelf rfl y).1 (by rw [h]; simp [hy])
 have hnx:∀ y,st.own y≠.shelf→(off st k p s q).nx y=st.nx y:=by
  intro y hy
  unfold off
  dsimp only
  rw [if_neg]
  intro e
  exact hy (hpS y (List.mem_of_getLast? e))
 have hsl:∀ y,y≠.mine k→y≠.shelf→(off st k p s q).sl y=st.sl y:=by
  intro y h1 h2
  unfold off
  dsimp only
  rw [if_neg h1,if_neg h2]
 have hon:∀ y z,z≠.mine k→(off st k p s q).own y=z→st.own y=z∧y≠s:=by
  intro y z hz e
  unfold off at e
  dsimp only at e
  split at e
  ·exact absurd e.symm hz
  ·rename_i hy
   exact ⟨e,hy⟩
 refine { G with oh := ?_,sm := ?_,sd := ?_,sb := ?_,s1 := ?_,sk := ?_,live := ?_,dead := ?_,making := ?_,full := ?_,shelf := ?_,hpc := ?_,cP := ?_,cS := ?_,cap := ?_,rest := ?_,nxb := ?_,cuts:=fun y e=>by cases e }
 ·intro y o x hl
  have:=G.oh y o x hl
  unfold off
  dsimp only
  rw [if_neg]
  ·exact this
  ·rintro rfl
   rw [hown] at this
   cases this
 ·intro y hy x
  unfold off
  dsimp only
  by_cases e1:y = .mine k
  ·subst e1
   rw [if_pos rfl,List.mem_singleton]
   by_cases e2:x=s
   ·simp [e2]
   ·simp only [e2,if_false,false_iff]
    rw [← G.sm _ rfl,hm]
    simp
  ·rw [if_neg e1]
   by_cases e2:y = .shelf
   ·subst e2
    rw [if_pos rfl]
    by_cases e3:x=s
    ·subst e3
     simp [hsp]
    ·rw [if_neg e3,← G.sm _ rfl,h]
     simp [e3]
   ·rw [if_neg e2]
    by_cases e3:x=s
    ·subst e3
     rw [if_pos rfl,G.sm y hy,hown]
     exact ⟨fun e=>absurd e.symm e2,fun e=>absurd e.symm e1⟩
    ·rw [if_neg e3]
     exact G.sm y hy x
 ·intro y hy
  unfold off
  dsimp only
  split
  ·simp
  ·split
   ·have h1:=(List.nodup_append.1 hnd)
    exact List.nodup_append.2 ⟨h1.1,(List.nodup_cons.1 h1.2.1).2,fun a ha b hb=>h1.2.2 a ha b (List.mem_cons_of_mem _ hb)⟩
   ·exact G.sd y hy
 ·intro y
  unfold off
  dsimp only
  split
  ·rename_i e
   subst e
   intro _
   exact G.sb y (by rw [hown]; intro e; cases e)
  ·exact G.sb y
 ·intro x
  refine ⟨?_,?_⟩
  ·rw [hsl _ (fun e=>by cases e) (fun e=>by cases e)]
   exact (G.s1 x).1
  ·unfold off
   dsimp only
   split
   ·simp
   ·rw [if_neg (fun e=>by cases e)]
    exact (G.s1 x).2
 ·intro y x
  unfold off
  dsimp only
  split
  ·rintro (e | e | e | e) <;> cases e
   exact hk
  ·exact G.sk y x
 ·intro y o hy ho
  have:=G.live y o hy ho
  unfold off
  dsimp only
  split
  ·rename_i e
   subst e
   rw [hown] at this
   constructor
   ·intro e
    have:=this.1 e
    cases this
   ·intro e
    cases e
  ·exact this
 ·intro y hy
  exact G.dead y (hon y _ (fun e=>by cases e) hy).1
 ·intro y x hy hl
  by_cases e:y=s
  ·subst e
   have:=(G.shelf y hown).1
   rw [show st.lv y=false from hl] at this
   cases this
  ·refine G.making y x ?_ hl
   unfold off at hy
   dsimp only at hy
   rw [if_neg e] at hy
   exact hy
 ·intro y hy
  exact G.full y (hon y _ (fun e=>by cases e) hy).1
 ·intro y hy
  obtain ⟨h1,h2⟩:=hon y _ (fun e=>by cases e) hy
  obtain ⟨h3,h4⟩:=G.shelf y h1
  exact ⟨h3,fun _=>h4 fun e=>h2 (hc y e)⟩
 ·intro y x hy
  have:st.own y = .head x∨st.own y = .part x∨st.own y = .chain x:=by
   rcases hy with hy | hy | hy
   ·exact .inl (hon y _ (fun e=>by cases e) hy).1
   ·exact .inr (.inl (hon y _ (fun e=>by cases e) hy).1)
   ·exact .inr (.inr (hon y _ (fun e=>by cases e) hy).1)
  exact G.hpc y x this
 ·intro x
  have key:∀ z,z.listed=true→z≠.mine k→z≠.shelf→chP st.nx (st.sl z)→chP (off st k p s q).nx ((off st k p s q).sl z):=by
   intro z hz h1 h2 h3
   rw [hsl z h1 h2]
   refine ZeW (fun y hy=>hnx y ?_) h3
   rw [(G.sm z hz y).1 hy]
   exact h2
  exact ⟨key _ rfl (fun e=>by cases e) (fun e=>by cases e) (G.cP x).1,key _ rfl (fun e=>by cases e) (fun e=>by cases e) (G.cP x).2⟩
 ·have:=G.cS
  rw [h] at this
  exact ZmZ hnd this
 ·intro x
  rw [hsl _ (fun e=>by cases e) (fun e=>by cases e)]
  exact G.cap x
 ·intro e
  rw [show st.hold=none from e] at hh
  cases hh
 ·intro y
  unfold off
  dsimp only
  split
  ·cases q with
   | nil=>simp [sw]
   | cons a q =>
     have:=G.sb a (by rw [(G.sm .shelf rfl a).1 (by rw [h]; simp)]; intro e; cases e)
     show a+1<_
     omega
  ·exact G.nxb y
theorem Zim {j k s:Nat}{p q:List Nat}{hx px:Option Nat}(G:Zbc c mn cp st)(hj:j≠k)(h:st.sl .shelf=p++s::q)(hh:st.hold=some k):ZaO c j hx px st (off st k p s q):=by
 have hpS:∀ y∈p,st.own y = .shelf:=fun y hy=>(G.sm .shelf rfl y).1 (by rw [h]; simp [hy])
 have hnx:∀ y,st.own y≠.shelf→(off st k p s q).nx y=st.nx y:=by
  intro y hy
  unfold off
  dsimp only
  rw [if_neg]
  intro e
  exact hy (hpS y (List.mem_of_getLast? e))
 have hsl:∀ y,y≠.mine k→y≠.shelf→(off st k p s q).sl y=st.sl y:=by
  intro y h1 h2
  unfold off
  dsimp only
  rw [if_neg h1,if_neg h2]
 refine { (ZaO.refl:ZaO c j hx px st st) with slm := ?_,slc := ?_,flg := ?_,nxc := ?_,hd := ?_,pt := ?_,hdk := ?_,lock := ?_ }
 ·exact hsl _ (fun e=>by cases e; exact hj rfl) (fun e=>by cases e)
 ·exact hsl _ (fun e=>by cases e) (fun e=>by cases e)
 ·intro y hy
  exact ⟨rfl,rfl,hnx y (by rw [hy]; intro e; cases e)⟩
 ·intro y hy
  exact hnx y (by rw [hy]; intro e; cases e)
 ·intro x _
  exact ⟨hsl _ (fun e=>by cases e) (fun e=>by cases e),fun _=>rfl⟩
 ·intro x _
  exact hsl _ (fun e=>by cases e) (fun e=>by cases e)
 ·intro e
  rw [hsl _ (fun e=>by cases e) (fun e=>by cases e)]
  exact e
 ·intro e
  rw [hh] at e
  cases e
  exact absurd rfl hj
end
end Go.Proofs.YtfcpdlbkmkhhcaaGreatDoor.Cv
