/-
  Texts of this claim, joined. No condition.
-/
import Derived.Test.YtfcpdlbkmkhhcaaGreatDoorCn25
namespace Go.Proofs.YtfcpdlbkmkhhcaaGreatDoor.Cv
open See Cw
section
variable {c:Ch}{mn cp:Nat}{st st' st'':St}
def Zbx (st:St)(h:Option Nat):St:={ st with hold:=h }
theorem ZaS {h:Option Nat}(G:Zbc c mn cp st)(hk:∀ k,h=some k→k<c.C)(hr:h=none→st.cut=none∧st.held=(st.sl .shelf).length∧ZfV c st≤mn):Zbc c mn cp (Zbx st h):={ G with rest:=hr,hn:=hk }
theorem Zbg {j k:Nat}{h:Option Nat}{hx px:Option Nat}(hj:j≠k)(h0:st.hold=none∨st.hold=some k)(h1:h=none∨h=some k):ZaO c j hx px st (Zbx st h):=by
 refine { (ZaO.refl:ZaO c j hx px st st) with lock := ?_,hl := ?_ }
 ·intro e
  rw [e] at h0
  rcases h0 with h0 | h0
  ·cases h0
  ·cases h0
   exact absurd rfl hj
 ·intro e
  rcases h1 with h1 | h1
  ·rw [show (Zbx st h).hold=h from rfl,h1] at e
   cases e
  ·rw [show (Zbx st h).hold=h from rfl,h1] at e
   cases e
   exact absurd rfl hj
def Zg8 (st:St)(x:Nat):St:={ st with held:=x }
theorem Zd6 {k x:Nat}(G:Zbc c mn cp st)(h:st.hold=some k):Zbc c mn cp (Zg8 st x):=by
 refine { G with rest := ?_ }
 intro e
 rw [show st.hold=none from e] at h
 cases h
theorem Zd7 {j k x:Nat}{hx px:Option Nat}(hj:j≠k)(h:st.hold=some k):ZaO c j hx px st (Zg8 st x):=by
 refine { (ZaO.refl:ZaO c j hx px st st) with lock := ?_ }
 intro e
 rw [h] at e
 cases e
 exact absurd rfl hj
def upd {α:Type}(f:Nat→α)(k:Nat)(x:α):Nat→α:=fun y=>if y=k then x else f y
theorem upd_same {α:Type}{f:Nat→α}{k:Nat}{x:α}:upd f k x k=x:=if_pos rfl
theorem upd_ne {α:Type}{f:Nat→α}{k j:Nat}{x:α}(h:j≠k):upd f k x j=f j:=if_neg h
def one:Option Nat→(Nat→Nat)→Nat→Nat
 | none,f=>f
 | some x,f=>fun y=>if x=y then f y+1 else f y
theorem Zgc {x:Nat}{f:Nat→Nat}:one (some x) f x=f x+1:=if_pos rfl
theorem ZlM {z:Option Nat}{x:Nat}{f:Nat→Nat}(h:z≠some x):one z f x=f x:=by
 cases z with
 | none=>rfl
 | some y=>exact if_neg (fun e=>h (by rw [e]))
def tick (st:St)(hx px:Option Nat)(k:Nat)(t:Option Tk):St:={ st with ht:=one hx st.ht,pt:=one px st.pt,n:=st.n+1,tk:=upd st.tk k t }
theorem Zha {hx px:Option Nat}{k:Nat}{t:Option Tk}(G:Zbc c mn cp st):Zbc c mn cp (tick st hx px k t):=by
 refine { G with turn := ?_ }
 intro x
 have h:=G.turn x
 have key:∀ (z:Option Nat) (f:Nat→Nat),f x≤st.n→one z f x≤st.n+1:=by
  intro z f hf
  cases z with
  | none=>exact Nat.le_succ_of_le hf
  | some y =>
    unfold one
    dsimp only
    split <;> omega
 exact ⟨key hx _ h.1,key px _ h.2⟩
structure Left (c:Ch)(j:Nat)(st st':St):Prop where
 slm:st'.sl (.mine j)=st.sl (.mine j)
 slc:st'.sl (.chain j)=st.sl (.chain j)
 obj:∀ s,st'.ol s (.ZaB j)=st.ol s (.ZaB j)
 flg:∀ s,st.own s = .mine j→st'.lv s=st.lv s∧st'.frz s=st.frz s∧st'.nx s=st.nx s
 lk:∀ s o,st.loc s o = .ZaB j→st'.lk s o=st.lk s o
 fst:∀ s,st.own s = .mine j∨st.hold=some j∧st.own s = .shelf→(∃ l,st'.ol s .first=l++st.ol s .first)∧(st.frz s=false→(st'.ol s .first).length=c.O→(st.ol s .first).length=c.O)
 hd:∀ x,st.ht x≤st'.ht x∧(st'.ht x=st.ht x→st'.sl (.head x)=st.sl (.head x)∧∀ s,st'.ol s (.head x)=st.ol s (.head x))
 pt:∀ x,st.pt x≤st'.pt x∧(st'.pt x=st.pt x→st'.sl (.part x)=st.sl (.part x))
 hdk:st.sl (.head j)=[]→st'.sl (.head j)=[]
 lock:st.hold=some j→st'.hold=some j∧st'.cut=st.cut∧st'.held=st.held∧st'.sl .shelf=st.sl .shelf∧∀ s,st.own s = .shelf→st'.nx s=st.nx s∧st'.lv s=st.lv s∧st'.frz s=st.frz s
 hl:st'.hold=some j→st.hold=some j
 tk:st'.tk j=st.tk j
theorem ZaO.left {j k:Nat}{hx px:Option Nat}{t:Option Tk}(hj:j≠k)(h:ZaO c j hx px st st')(hh:st'.ht=st.ht)(hp:st'.pt=st.pt):Left c j st (tick st' hx px k t):=by
 refine { h with hd := ?_,pt := ?_,tk := ?_ }
 ·intro x
  show st.ht x≤one hx st'.ht x∧(one hx st'.ht x=st.ht x→_)
  rw [hh]
  by_cases e:hx=some x
  ·rw [e,Zgc]
   exact ⟨by omega,fun e2=>by omega⟩
  ·rw [ZlM e]
   exact ⟨Nat.le_refl _,fun _=>h.hd x e⟩
 ·intro x
  show st.pt x≤one px st'.pt x∧(one px st'.pt x=st.pt x→_)
  rw [hp]
  by_cases e:px=some x
  ·rw [e,Zgc]
   exact ⟨by omega,fun e2=>by omega⟩
  ·rw [ZlM e]
   exact ⟨Nat.le_refl _,fun _=>h.pt x e⟩
 ·show upd st'.tk k t j=_
  rw [upd_ne hj]
  exact h.tk
def make (st:St)(k s:Nat)(l:List Nat):St:={ st with
 ol:=fun x y=>if x=s∧y = .ZaB k then l else st.ol x y
 loc:=fun x o=>if x=s∧o∈l then .ZaB k else st.loc x o
 sl:=fun y=>if y = .mine k then [s] else st.sl y
 own:=fun x=>if x=s then .mine k else st.own x }
theorem ZnG {k s:Nat}{l:List Nat}(G:Zbc c mn cp st)(h:st.own s = .dead)(hs:s<c.S)(hk:k<c.C)(hl:∀ o,o∈l↔o<c.O)(hd:l.Nodup)(hm:st.sl (.mine k)=[]):Zbc c mn cp (make st k s l):=by
 have hn:∀ o,st.loc s o = .none:=by
  intro o
  by_cases e:st.loc s o = .none
  ·exact e
  ·have h1:=G.ob s o e
   exact (G.live s o h1.1 h1.2).2 h
 have hfirst:∀ x z,z≠.ZaB k→(make st k s l).ol x z=st.ol x z:=by
  intro x z hz
  unfold make
  dsimp only
  rw [if_neg (fun e=>hz e.2)]
 have hsl:∀ y,y≠.mine k→(make st k s l).sl y=st.sl y:=by
  intro y hy
  unfold make
  dsimp only
  rw [if_neg hy]
 have hon:∀ y z,z≠.mine k→(make st k s l).own y=z→st.own y=z∧y≠s:=by
  intro y z hz e
  unfold make at e
  dsimp only at e
  split at e
  ·exact absurd e.symm hz
  ·rename_i hy
   exact ⟨e,hy⟩
 have hno:st.ol s (.ZaB k)=[]:=by
  cases hc:st.ol s (.ZaB k) with
  | nil=>rfl
  | cons a r =>
    have:=(G.om s (.ZaB k) rfl a).1 (by rw [hc]; simp)
    rw [hn] at this
    cases this
 have hcuts_make:∀ y,st.cut=some y→(make st k s l).own y = .shelf∧st.frz y=true:=by
  intro y hy
  obtain ⟨h1,h2⟩:=G.cuts y hy
  refine ⟨(if_neg ?_).trans h1,h2⟩
  rintro rfl
  rw [h] at h1
  cases h1
 refine { G with om := ?_,od := ?_,ob := ?_,oh := ?_,sm := ?_,sd := ?_,sb := ?_,s1 := ?_,sk := ?_,live := ?_,dead := ?_,making := ?_,full := ?_,shelf := ?_,hpc := ?_,l1 := ?_,l2 := ?_,cP := ?_,cS := ?_,cap := ?_,rest := ?_,cuts:=hcuts_make }
 ·intro x z hz o
  unfold make
  dsimp only
  by_cases e:x=s
  ·subst e
   by_cases e2:z = .ZaB k
   ·subst e2
    simp only [true_and,and_self,if_true]
    by_cases e3:o∈l
    ·simp [e3]
    ·simp only [e3,if_false,false_iff,hn]
     exact fun e=>by cases e
   ·simp only [e2,and_false,if_false,true_and]
    rw [G.om x z hz,hn]
    by_cases e3:o∈l
    ·simp only [e3,if_true]
     constructor
     ·intro e
      subst e
      cases hz
     ·intro e
      exact absurd e.symm e2
    ·simp only [e3,if_false]
  ·simp only [e,false_and,if_false]
   exact G.om x z hz o
 ·intro x z hz
  unfold make
  dsimp only
  split
  ·exact hd
  ·exact G.od x z hz
 ·intro x o
  unfold make
  dsimp only
  split
  ·rename_i e
   obtain ⟨rfl,e2⟩:=e
   exact fun _=>⟨hs,(hl o).1 e2⟩
  ·exact G.ob x o
 ·intro x o j
  unfold make
  dsimp only
  split
  ·intro e
   cases e
  ·intro e
   have:=G.oh x o j e
   rw [if_neg]
   ·exact this
   ·rintro rfl
    rw [h] at this
    cases this
 ·intro y hy x
  unfold make
  dsimp only
  by_cases e:y = .mine k
  ·subst e
   rw [if_pos rfl,List.mem_singleton]
   by_cases e2:x=s
   ·simp [e2]
   ·simp only [e2,if_false,false_iff]
    rw [← G.sm _ rfl,hm]
    simp
  ·rw [if_neg e]
   by_cases e3:x=s
   ·subst e3
    rw [if_pos rfl,G.sm y hy,h]
    constructor
    ·intro e
     subst e
     cases hy
    ·intro e2
     exact absurd e2.symm e
   ·rw [if_neg e3]
    exact G.sm y hy x
 ·intro y hy
  unfold make
  dsimp only
  split
  ·simp
  ·exact G.sd y hy
 ·intro x
  unfold make
  dsimp only
  split
  ·rename_i e
   subst e
   exact fun _=>hs
  ·exact G.sb x
 ·intro x
  refine ⟨?_,?_⟩
  ·rw [hsl _ (fun e=>by cases e)]
   exact (G.s1 x).1
  ·unfold make
   dsimp only
   split
   ·simp
   ·exact (G.s1 x).2
 ·intro x y
  unfold make
  dsimp only
  split
  ·rintro (e | e | e | e) <;> cases e
   exact hk
  ·exact G.sk x y
 ·intro x o hx ho
  unfold make
  dsimp only
  by_cases e:x=s
  ·subst e
   simp [(hl o).2 ho]
  ·simp only [e,false_and,if_false]
   exact G.live x o hx ho
 ·intro y hy
  exact G.dead y (hon y _ (fun e=>by cases e) hy).1
 ·intro y x hy hlv o ho
  unfold make at hy ⊢
  dsimp only at hy ⊢
  by_cases e:y=s
  ·rw [if_pos e] at hy
   cases hy
   rw [if_pos ⟨e,(hl o).2 ho⟩]
  ·rw [if_neg e] at hy
   rw [if_neg (fun e2=>e e2.1)]
   exact G.making y x hy hlv o ho
 ·intro y hy
  rw [hfirst y _ (fun e=>by cases e)]
  exact G.full y (hon y _ (fun e=>by cases e) hy).1
 ·intro y hy
  rw [hfirst y _ (fun e=>by cases e)]
  exact G.shelf y (hon y _ (fun e=>by cases e) hy).1
 ·intro y x hy
  have:st.own y = .head x∨st.own y = .part x∨st.own y = .chain x:=by
   rcases hy with hy | hy | hy
   ·exact .inl (hon y _ (fun e=>by cases e) hy).1
   ·exact .inr (.inl (hon y _ (fun e=>by cases e) hy).1)
   ·exact .inr (.inr (hon y _ (fun e=>by cases e) hy).1)
  exact G.hpc y x this
 ·intro x
  rw [hfirst x _ (fun e=>by cases e)]
  exact G.l1 x
 ·intro x y
  rw [hfirst x _ (fun e=>by cases e)]
  exact G.l2 x y
 ·intro x
  rw [hsl _ (fun e=>by cases e),hsl _ (fun e=>by cases e)]
  exact G.cP x
 ·rw [hsl _ (fun e=>by cases e)]
  exact G.cS
 ·intro x
  rw [hsl _ (fun e=>by cases e)]
  exact G.cap x
 ·intro e
  obtain ⟨h1,h2,h3⟩:=G.rest e
  refine ⟨h1,?_,?_⟩
  ·rw [hsl _ (fun e=>by cases e)]
   exact h2
  ·unfold ZfV
   rw [hsl _ (fun e=>by cases e)]
   simp only [hfirst _ .first (fun e=>by cases e)]
   exact h3
theorem Zjy {j k s:Nat}{l:List Nat}{hx px:Option Nat}(hj:j≠k):ZaO c j hx px st (make st k s l):=by
 have hfirst:∀ x z,z≠.ZaB k→(make st k s l).ol x z=st.ol x z:=by
  intro x z hz
  unfold make
  dsimp only
  rw [if_neg (fun e=>hz e.2)]
 have hsl:∀ y,y≠.mine k→(make st k s l).sl y=st.sl y:=by
  intro y hy
  unfold make
  dsimp only
  rw [if_neg hy]
 refine { (ZaO.refl:ZaO c j hx px st st) with slm := ?_,slc := ?_,obj := ?_,fst := ?_,hd := ?_,pt := ?_,hdk := ?_,lock := ?_ }
 ·exact hsl _ (fun e=>by cases e; exact hj rfl)
 ·exact hsl _ (fun e=>by cases e)
 ·exact fun x=>hfirst x _ (fun e=>by cases e; exact hj rfl)
 ·intro x _
  rw [hfirst x _ (fun e=>by cases e)]
  exact ⟨⟨[],rfl⟩,fun _ h=>h⟩
 ·exact fun x _=>⟨hsl _ (fun e=>by cases e),fun y=>hfirst y _ (fun e=>by cases e)⟩
 ·exact fun x _=>hsl _ (fun e=>by cases e)
 ·intro e
  rw [hsl _ (fun e=>by cases e)]
  exact e
 ·exact fun e=>⟨e,rfl,rfl,hsl _ (fun e=>by cases e),fun _ _=>⟨rfl,rfl,rfl⟩⟩
def kill (st:St)(k s:Nat):St:={ st with
 ol:=fun x y=>if x=s∧y = .ZaB k then [] else st.ol x y
 loc:=fun x o=>if x=s then .none else st.loc x o
 sl:=fun y=>if y = .mine k then [] else st.sl y
 own:=fun x=>if x=s then .dead else st.own x }
theorem Znw {k s:Nat}(G:Zbc c mn cp st)(h:st.sl (.mine k)=[s])(hv:st.lv s=false):Zbc c mn cp (kill st k s):=by
 have hown:st.own s = .mine k:=(G.sm _ rfl s).1 (by rw [h]; simp)
 have hloc:∀ o,st.loc s o = .ZaB k∨st.loc s o = .none:=by
  intro o
  by_cases e:st.loc s o = .none
  ·exact .inr e
  ·exact .inl (G.making s k hown hv o (G.ob s o e).2)
 have hfirst:∀ x z,z≠.ZaB k→(kill st k s).ol x z=st.ol x z:=by
  intro x z hz
  unfold kill
  dsimp only
  rw [if_neg (fun e=>hz e.2)]
 have hsl:∀ y,y≠.mine k→(kill st k s).sl y=st.sl y:=by
  intro y hy
  unfold kill
  dsimp only
  rw [if_neg hy]
 have hon:∀ y z,z≠.dead→(kill st k s).own y=z→st.own y=z∧y≠s:=by
  intro y z hz e
  unfold kill at e
  dsimp only at e
  split at e
  ·exact absurd e.symm hz
  ·rename_i hy
   exact ⟨e,hy⟩
 have hcuts_kill:∀ y,st.cut=some y→(kill st k s).own y = .shelf∧st.frz y=true:=by
  intro y hy
  obtain ⟨h1,h2⟩:=G.cuts y hy
  refine ⟨(if_neg ?_).trans h1,h2⟩
  rintro rfl
  rw [hown] at h1
  cases h1
 refine { G with om := ?_,od := ?_,ob := ?_,oh := ?_,sm := ?_,sd := ?_,sb := ?_,s1 := ?_,sk := ?_,live := ?_,dead := ?_,making := ?_,full := ?_,shelf := ?_,hpc := ?_,l1 := ?_,l2 := ?_,cP := ?_,cS := ?_,cap := ?_,rest := ?_,cuts:=hcuts_kill }
 ·intro x z hz o
  unfold kill
  dsimp only
  by_cases e:x=s
  ·subst e
   rw [if_pos rfl]
   by_cases e2:z = .ZaB k
   ·subst e2
    simp
   ·simp only [e2,and_false,if_false]
    rw [G.om x z hz]
    constructor
    ·intro e
     rcases hloc o with e3 | e3
     ·rw [e3] at e
      exact absurd e.symm e2
     ·rw [e3] at e
      subst e
      cases hz
    ·intro e
     subst e
     cases hz
  ·simp only [e,false_and,if_false]
   exact G.om x z hz o
 ·intro x z hz
  unfold kill
  dsimp only
  split
  ·simp
  ·exact G.od x z hz
 ·intro x o
  unfold kill
  dsimp only
  split
  ·exact fun e=>absurd rfl e
  ·exact G.ob x o
 ·intro x o j
  unfold kill
  dsimp only
  split
  ·intro e
   cases e
  ·exact G.oh x o j
 ·intro y hy x
  unfold kill
  dsimp only
  by_cases e:y = .mine k
  ·subst e
   rw [if_pos rfl]
   by_cases e2:x=s
   ·simp [e2]
   ·simp only [e2,if_false]
    rw [← G.sm _ rfl,h]
    simp [e2]
  ·rw [if_neg e]
   by_cases e3:x=s
   ·subst e3
    rw [if_pos rfl,G.sm y hy,hown]
    constructor
    ·intro e2
     exact absurd e2.symm e
    ·intro e2
     subst e2
     cases hy
   ·rw [if_neg e3]
    exact G.sm y hy x
 ·intro y hy
  unfold kill
  dsimp only
  split
  ·simp
  ·exact G.sd y hy
 ·intro x
  unfold kill
  dsimp only
  split
  ·exact fun e=>absurd rfl e
  ·exact G.sb x
 ·intro x
  refine ⟨?_,?_⟩
  ·rw [hsl _ (fun e=>by cases e)]
   exact (G.s1 x).1
  ·unfold kill
   dsimp only
   split
   ·simp
   ·exact (G.s1 x).2
 ·intro x y
  unfold kill
  dsimp only
  split
  ·rintro (e | e | e | e) <;> cases e
  ·exact G.sk x y
 ·intro x o hx ho
  unfold kill
  dsimp only
  split
  ·simp
  ·exact G.live x o hx ho
 ·intro y hy
  unfold kill at hy
  dsimp only at hy
  split at hy
  ·rename_i e
   rw [show (kill st k s).lv y=st.lv y from rfl,e]
   exact hv
  ·exact G.dead y hy
 ·intro y x hy hlv o ho
  obtain ⟨h1,h2⟩:=hon y _ (fun e=>by cases e) hy
  have:=G.making y x h1 hlv o ho
  unfold kill
  dsimp only
  rw [if_neg h2]
  exact this
 ·intro y hy
  rw [hfirst y _ (fun e=>by cases e)]
  exact G.full y (hon y _ (fun e=>by cases e) hy).1
 ·intro y hy
  rw [hfirst y _ (fun e=>by cases e)]
  exact G.shelf y (hon y _ (fun e=>by cases e) hy).1
 ·intro y x hy
  have:st.own y = .head x∨st.own y = .part x∨st.own y = .chain x:=by
   rcases hy with hy | hy | hy
   ·exact .inl (hon y _ (fun e=>by cases e) hy).1
   ·exact .inr (.inl (hon y _ (fun e=>by cases e) hy).1)
   ·exact .inr (.inr (hon y _ (fun e=>by cases e) hy).1)
  exact G.hpc y x this
 ·intro x
  rw [hfirst x _ (fun e=>by cases e)]
  exact G.l1 x
 ·intro x y
  rw [hfirst x _ (fun e=>by cases e)]
  exact G.l2 x y
 ·intro x
  rw [hsl _ (fun e=>by cases e),hsl _ (fun e=>by cases e)]
  exact G.cP x
 ·rw [hsl _ (fun e=>by cases e)]
  exact G.cS
 ·intro x
  rw [hsl _ (fun e=>by cases e)]
  exact G.cap x
 ·intro e
  obtain ⟨h1,h2,h3⟩:=G.rest e
  refine ⟨h1,?_,?_⟩
  ·rw [hsl _ (fun e=>by cases e)]
   exact h2
  ·unfold ZfV
   rw [hsl _ (fun e=>by cases e)]
   simp only [hfirst _ .first (fun e=>by cases e)]
   exact h3
theorem ZgM {j k s:Nat}{hx px:Option Nat}(hj:j≠k):ZaO c j hx px st (kill st k s):=by
 have hfirst:∀ x z,z≠.ZaB k→(kill st k s).ol x z=st.ol x z:=by
  intro x z hz
  unfold kill
  dsimp only
  rw [if_neg (fun e=>hz e.2)]
 have hsl:∀ y,y≠.mine k→(kill st k s).sl y=st.sl y:=by
  intro y hy
  unfold kill
  dsimp only
  rw [if_neg hy]
 refine { (ZaO.refl:ZaO c j hx px st st) with slm := ?_,slc := ?_,obj := ?_,fst := ?_,hd := ?_,pt := ?_,hdk := ?_,lock := ?_ }
 ·exact hsl _ (fun e=>by cases e; exact hj rfl)
 ·exact hsl _ (fun e=>by cases e)
 ·exact fun x=>hfirst x _ (fun e=>by cases e; exact hj rfl)
 ·intro x _
  rw [hfirst x _ (fun e=>by cases e)]
  exact ⟨⟨[],rfl⟩,fun _ h=>h⟩
 ·exact fun x _=>⟨hsl _ (fun e=>by cases e),fun y=>hfirst y _ (fun e=>by cases e)⟩
 ·exact fun x _=>hsl _ (fun e=>by cases e)
 ·intro e
  rw [hsl _ (fun e=>by cases e)]
  exact e
 ·exact fun e=>⟨e,rfl,rfl,hsl _ (fun e=>by cases e),fun _ _=>⟨rfl,rfl,rfl⟩⟩
end
end Go.Proofs.YtfcpdlbkmkhhcaaGreatDoor.Cv

namespace Go.Proofs.YtfcpdlbkmkhhcaaGreatDoor.Cv
open See Cw
section
variable {c:Ch}{mn cp:Nat}{st st' st'':St}
def Zan (c:Ch)(t:Tk):Prop:=0≤t.slab∧t.slab<c.S
def ZcG (c:Ch)(t:Tk):Prop:=0≤t.obj∧t.obj<c.O
def ZkF (c:Ch)(t:Tk):Prop:=0≤t.for_∧t.for_<c.C
def Live (st:St)(s:Nat):Prop:=st.lv s=true∧st.frz s=true
def Lim (st:St)(s:Nat):Prop:=st.lv s=true∧st.frz s=false
def Full (c:Ch)(st:St)(s:Nat):Prop:=(st.ol s .first).length=c.O
def HK (st:St)(x T:Nat)(P:Prop):Prop:=T≤st.ht x∧(T=st.ht x→P)
def PK (st:St)(x T:Nat)(P:Prop):Prop:=T≤st.pt x∧(T=st.pt x→P)
def KOk (c:Ch)(K:Nat)(P:Nat→Bool→Prop):Prop:=∃ iu f,K=Zat iu c.O f true∧iu≤c.O∧P iu f
def LkS (c:Ch)(mn:Nat)(st:St)(k:Nat)(cu:Option Nat)(a b e:Nat):Prop:=st.hold=some k∧st.cut=cu∧st.held+a=(st.sl .shelf).length+b∧ZfV c st≤mn+e
theorem LkS.hold {c:Ch}{mn:Nat}{st:St}{k:Nat}{cu:Option Nat}{a b e:Nat}(h:LkS c mn st k cu a b e):st.hold=some k:=h.1
theorem LkS.cut {c:Ch}{mn:Nat}{st:St}{k:Nat}{cu:Option Nat}{a b e:Nat}(h:LkS c mn st k cu a b e):st.cut=cu:=h.2.1
theorem LkS.held {c:Ch}{mn:Nat}{st:St}{k:Nat}{cu:Option Nat}{a b e:Nat}(h:LkS c mn st k cu a b e):st.held+a=(st.sl .shelf).length+b:=h.2.2.1
theorem LkS.em {c:Ch}{mn:Nat}{st:St}{k:Nat}{cu:Option Nat}{a b e:Nat}(h:LkS c mn st k cu a b e):ZfV c st≤mn+e:=h.2.2.2
def Zct (c:Ch)(t:Tk)(ch:List Nat):Prop:=t.back=0∧ch=[]∨t.back=73∧ch=[]∧ZkF c t∨t.back=95∧ch=[]∨t.back=79∧t.H=pw ch
def ZfS (st:St)(k:Nat):Prop:=st.sl (.head k)=[]
def FK (c:Ch)(st:St)(t:Tk)(s:Nat):Prop:=t.F=fr st s∧t.K=ct c st s
def alloc (pc:Int):Bool:=(0≤pc&&pc<10)||(20≤pc&&pc<50)
abbrev ky (c:Ch) (s:Nat):Nat:=See.keyOf c.key s
abbrev lkE (c:Ch) (i:Nat):Int:=if ((i+1:Nat):Int)<c.O then ((i+1:Nat):Int) else -1
section
variable (c:Ch)(mn cp:Nat)(st:St)(k:Nat)(t:Tk)
abbrev sn:Nat:=t.slab.toNat
abbrev on:Nat:=t.obj.toNat
def At:Prop:=match t.pc with
 | 0=>Has st k [] 0 [] []
 | 1=>Has st k [] 0 [] []∧t.T≤st.ht k
 | 2=>Has st k [] 0 [] []∧Zan c t∧ZcG c t∧HK st k t.T (t.H=hw st k∧st.sl (.head k)=[sn t]∧∃ r,st.ol (sn t) (.head k)=on t::r)
 | 3=>Has st k [] 0 [] []∧Zan c t∧ZcG c t∧(-1≤t.last∧t.last<c.O)∧HK st k t.T (t.H=hw st k∧st.sl (.head k)=[sn t]∧∃ r,st.ol (sn t) (.head k)=on t::r∧t.last=ZcP r (-1))
 | 20=>Has st k [] 0 [] []∧Zan c t∧HK st k t.T (t.H=hw st k∧st.sl (.head k)=[sn t]∧st.ol (sn t) (.head k)=[])
 | 21=>Has st k [sn t] (sn t) [] []∧Zan c t∧Live st (sn t)∧ZfS st k
 | 22=>Has st k [sn t] (sn t) [] []∧Zan c t∧Live st (sn t)∧ZfS st k∧t.F≤c.O
 | 23=>Has st k [sn t] (sn t) [] []∧Zan c t∧Live st (sn t)∧ZfS st k∧(1≤t.F∧t.F≤c.O)∧KOk c t.K fun _ f=>f=true
 | 24=>Has st k [sn t] (sn t) [] []∧Zan c t∧Live st (sn t)∧ZfS st k∧t.F=0∧KOk c t.K fun _ f=>f=true
 | 30=>Has st k [] 0 [] []∧ZfS st k
 | 31=>Has st k [] 0 [] []∧ZfS st k∧t.T≤st.pt k
 | 32=>Has st k [] 0 [] []∧ZfS st k∧Zan c t∧PK st k t.T (t.N=pw (st.sl (.part k))∧∃ r,st.sl (.part k)=sn t::r)
 | 33=>Has st k [] 0 [] []∧ZfS st k∧Zan c t∧t.F<18446744073709551616∧PK st k t.T (t.N=pw (st.sl (.part k))∧∃ r,st.sl (.part k)=sn t::r∧t.F=pw r)
 | 34=>Has st k [] 0 [] []∧ZfS st k
 | 35=>Has st k [] 0 [] []∧ZfS st k∧LkS c mn st k none 0 0 0
 | 36=>Has st k [] 0 [] []∧ZfS st k∧LkS c mn st k none 0 0 0
 | 37=>Has st k [] 0 [] []∧ZfS st k∧LkS c mn st k none 0 0 0∧Zan c t∧∃ r,st.sl .shelf=sn t::r
 | 38=>Has st k [] 0 [] []∧ZfS st k∧LkS c mn st k none 0 0 0∧Zan c t∧(∃ r,st.sl .shelf=sn t::r)∧1≤t.F∧t.F≤c.O
 | 39=>Has st k [] 0 [] []∧ZfS st k∧LkS c mn st k none 0 0 0∧Zan c t∧(∃ r,st.sl .shelf=sn t::r)∧(1≤t.F∧t.F≤c.O)∧KOk c t.K fun _ f=>f=false
 | 46=>(∃ l,Has st k [] (sn t) (on t::l) []∧lkd (st.lk (sn t)) (ky c (sn t)) (on t::l) (-1))∧ZfS st k∧Zan c t∧ZcG c t∧LkS c mn st k (some (sn t)) 0 0 0∧(∃ r,st.sl .shelf=sn t::r)∧Live st (sn t)
 | 47=>(∃ l,Has st k [] (sn t) (on t::l) []∧lkd (st.lk (sn t)) (ky c (sn t)) (on t::l) (-1))∧ZfS st k∧Zan c t∧ZcG c t∧LkS c mn st k (some (sn t)) 0 0 0∧(∃ r,st.sl .shelf=sn t::r∧t.N=sw r)∧Live st (sn t)
 | 48=>(∃ l,Has st k [sn t] (sn t) (on t::l) []∧lkd (st.lk (sn t)) (ky c (sn t)) (on t::l) (-1))∧ZfS st k∧Zan c t∧ZcG c t∧LkS c mn st k none 0 1 0∧Live st (sn t)
 | 49=>(∃ l,Has st k [sn t] (sn t) (on t::l) []∧lkd (st.lk (sn t)) (ky c (sn t)) (on t::l) (-1))∧ZfS st k∧Zan c t∧ZcG c t∧LkS c mn st k none 0 0 0∧Live st (sn t)
 | 40=>(∃ l,Has st k [sn t] (sn t) (on t::l) []∧lkd (st.lk (sn t)) (ky c (sn t)) (on t::l) (-1))∧ZfS st k∧Zan c t∧ZcG c t∧Live st (sn t)
 | 41=>(∃ l,Has st k [sn t] (sn t) (on t::l) []∧lkd (st.lk (sn t)) (ky c (sn t)) (on t::l) (-1)∧t.last=ZcP l (-1))∧ZfS st k∧Zan c t∧ZcG c t∧Live st (sn t)
 | 42=>(∃ l,Has st k [sn t] (sn t) (on t::l) []∧lkd (st.lk (sn t)) (ky c (sn t)) (on t::l) (-1)∧t.last=ZcP l (-1))∧ZfS st k∧Zan c t∧ZcG c t∧Live st (sn t)∧t.T≤st.ht k
 | 43=>(t.want=1→Has st k [] 0 [] []∧ZfS st k)∧(t.want=0→Has st k [sn t] (sn t) (List.range c.O) []∧ZfS st k∧Zan c t∧st.lv (sn t)=false∧(0≤t.many∧t.many<c.O)∧∀ i,i<t.many.toNat→st.lk (sn t) i=ZaR (lkE c i) (ky c (sn t)) i)
 | 44=>Has st k [sn t] (sn t) (List.range c.O) []∧ZfS st k∧Zan c t∧st.lv (sn t)=false∧∀ i,i<c.O→st.lk (sn t) i=ZaR (lkE c i) (ky c (sn t)) i
 | 10=>Has st k [] (sn t) [on t] []∧Zan c t∧ZcG c t
 | 11=>Has st k [] (sn t) [on t] []∧Zan c t∧ZcG c t∧t.T≤st.ht k
 | 12=>Has st k [] (sn t) [on t] []∧Zan c t∧ZcG c t∧(-1≤t.last∧t.last<c.O)∧HK st k t.T (t.H=hw st k∧st.sl (.head k)=[sn t]∧t.last=ZcP (st.ol (sn t) (.head k)) (-1))
 | 13=>Has st k [] (sn t) [on t] []∧Zan c t∧ZcG c t∧st.lk (sn t) (on t)=ZaR t.last (ky c (sn t)) (on t)∧HK st k t.T (t.H=hw st k∧st.sl (.head k)=[sn t]∧t.last=ZcP (st.ol (sn t) (.head k)) (-1))
 | 50=>Has st k [] (sn t) [on t] []∧Zan c t∧ZcG c t
 | 51=>Has st k [] (sn t) [on t] []∧Zan c t∧ZcG c t∧t.F≤c.O
 | 52=>Has st k [] (sn t) [on t] []∧Zan c t∧ZcG c t∧t.F≤c.O∧KOk c t.K fun iu _=>1≤iu
 | 53=>Has st k [] (sn t) [on t] []∧Zan c t∧ZcG c t∧t.F≤c.O∧(KOk c t.K fun iu f=>1≤iu∧(f=true∨t.F≠0∧1<iu))∧st.lk (sn t) (on t)=ZaR ((t.F:Int) - 1) (ky c (sn t)) (on t)
 | 54=>Has st k [] (sn t) [on t] []∧Zan c t∧ZcG c t∧t.F=0∧(KOk c t.K fun iu f=>1≤iu∧f=false)∧st.lk (sn t) (on t)=ZaR ((t.F:Int) - 1) (ky c (sn t)) (on t)
 | 55=>Has st k [] (sn t) [on t] []∧Zan c t∧ZcG c t∧(1≤t.F∧t.F≤c.O)∧(KOk c t.K fun iu f=>iu=1∧f=false)∧st.lk (sn t) (on t)=ZaR ((t.F:Int) - 1) (ky c (sn t)) (on t)
 | 56=>Has st k [] (sn t) [on t] []∧Zan c t∧ZcG c t∧(1≤t.F∧t.F≤c.O)∧(KOk c t.K fun iu f=>iu=1∧f=false)∧st.lk (sn t) (on t)=ZaR ((t.F:Int) - 1) (ky c (sn t)) (on t)∧LkS c mn st k none 0 0 0
 | 57=>Has st k [] (sn t) [on t] []∧Zan c t∧ZcG c t∧LkS c mn st k none 0 0 0
 | 58=>Has st k [] 0 [] []∧Zan c t∧st.own (sn t) = .shelf∧Full c st (sn t)∧FK c st t (sn t)∧LkS c mn st k none 0 0 1
 | 59=>Has st k [] 0 [] []∧LkS c mn st k none 0 0 0
 | 60=>Has st k [sn t] (sn t) [] []∧Zan c t∧Live st (sn t)
 | 61=>Has st k [sn t] (sn t) [] []∧Zan c t∧Live st (sn t)∧t.T≤st.pt k
 | 62=>Has st k [sn t] (sn t) [] []∧Zan c t∧Live st (sn t)∧(∃ a b,partOf t.N=some (a,b)∧a<c.S∧b<cp)∧PK st k t.T (t.N=pw (st.sl (.part k)))
 | 63=>Has st k [sn t] (sn t) [] []∧Zan c t∧Live st (sn t)∧(∃ a b,partOf t.N=some (a,b)∧a<c.S∧b<cp)∧PK st k t.T (t.N=pw (st.sl (.part k)))∧st.nx (sn t)=t.N
 | 64=>Has st k [] 0 [] []∧Zan c t∧st.own (sn t) = .shelf∧Full c st (sn t)∧FK c st t (sn t)∧LkS c mn st k none 0 0 1
 | 65=>Has st k [] 0 [] []∧Zan c t∧st.own (sn t) = .shelf∧Full c st (sn t)∧FK c st t (sn t)∧LkS c mn st k none 0 0 1∧0≤t.to_∧∃ p q,st.sl .shelf=p++t.to_.toNat::q∧sn t∈q
 | 66=>Has st k [] 0 [] []∧Zan c t∧st.own (sn t) = .shelf∧Full c st (sn t)∧FK c st t (sn t)∧LkS c mn st k none 0 0 1∧∃ p q,st.sl .shelf=p++sn t::q∧t.to_=ZeC p
 | 67=>Has st k [] 0 [] []∧Zan c t∧st.own (sn t) = .shelf∧Full c st (sn t)∧FK c st t (sn t)∧LkS c mn st k none 0 0 1∧∃ p q,st.sl .shelf=p++sn t::q∧t.to_=ZeC p∧t.N=sw q
 | 68=>Has st k [sn t] (sn t) [] []∧Zan c t∧Lim st (sn t)∧Full c st (sn t)∧FK c st t (sn t)∧LkS c mn st k none 0 1 0
 | 70=>Has st k [] 0 [] []∧ZkF c t
 | 71=>Has st k [] 0 [] []∧ZkF c t∧t.T≤st.ht t.for_.toNat
 | 72=>Has st k [] 0 [] []∧ZkF c t∧Zan c t∧(-1≤t.obj∧t.obj<c.O)∧HK st t.for_.toNat t.T (t.H=hw st t.for_.toNat∧st.sl (.head t.for_.toNat)=[sn t]∧t.obj=ZcP (st.ol (sn t) (.head t.for_.toNat)) (-1))
 | 73=>Has st k [] 0 [] []∧ZkF c t
 | 74=>Has st k [] 0 [] []∧ZkF c t∧t.T≤st.pt t.for_.toNat
 | 75=>Has st k [] 0 [] []∧ZkF c t∧(t.N≠0∧t.N<18446744073709551616)∧PK st t.for_.toNat t.T (t.N=pw (st.sl (.part t.for_.toNat)))
 | 79=>∃ ch,Has st k [] 0 [] ch∧ch≠[]∧t.H=pw ch
 | 80=>∃ l ch,Has st k [sn t] (sn t) l ch∧Zan c t∧Live st (sn t)∧t.many=0∧Zct c t ch∧t.obj=ZcP l (-1)∧lkd (st.lk (sn t)) (ky c (sn t)) l (-1)
 | 81=>∃ l ch,Has st k [sn t] (sn t) l ch∧Zan c t∧Live st (sn t)∧Zct c t ch∧t.obj=ZcP l (-1)∧lkd (st.lk (sn t)) (ky c (sn t)) l (-1)∧LkS c mn st k none 0 0 0∧∃ (p:List Nat) (a:Nat) (q:List Nat),l=p++a::q∧t.last=(a:Int)∧t.many=(p.length:Int)
 | 84=>∃ l ch,Has st k [sn t] (sn t) l ch∧Zan c t∧Live st (sn t)∧Zct c t ch∧t.obj=ZcP l (-1)∧(∃ e,lkd (st.lk (sn t)) (ky c (sn t)) l e)∧LkS c mn st k none 0 0 0∧t.many=(l.length:Int)∧(l=[]∨∃ (p:List Nat) (a:Nat),l=p++[a]∧t.last=(a:Int))
 | 85=>∃ l ch,Has st k [sn t] (sn t) l ch∧Zan c t∧Live st (sn t)∧Zct c t ch∧t.obj=ZcP l (-1)∧(∃ e,lkd (st.lk (sn t)) (ky c (sn t)) l e)∧LkS c mn st k none 0 0 0∧t.many=(l.length:Int)∧(l=[]∨∃ (p:List Nat) (a:Nat),l=p++[a]∧t.last=(a:Int))∧t.F≤c.O
 | 86=>∃ l ch,Has st k [sn t] (sn t) l ch∧Zan c t∧Live st (sn t)∧Zct c t ch∧t.obj=ZcP l (-1)∧(∃ e,lkd (st.lk (sn t)) (ky c (sn t)) l e)∧LkS c mn st k none 0 0 0∧t.many=(l.length:Int)∧(∃ (p:List Nat) (a:Nat),l=p++[a]∧t.last=(a:Int))∧t.F≤c.O∧KOk c t.K fun iu f=>f=true∧l.length≤iu
 | 87=>∃ l ch,Has st k [sn t] (sn t) l ch∧Zan c t∧Live st (sn t)∧Zct c t ch∧t.obj=ZcP l (-1)∧lkd (st.lk (sn t)) (ky c (sn t)) l ((t.F:Int) - 1)∧LkS c mn st k none 0 0 0∧t.many=(l.length:Int)∧(l=[]∨∃ (p:List Nat) (a:Nat),l=p++[a]∧t.last=(a:Int))∧t.F≤c.O∧KOk c t.K fun iu f=>f=true∧l.length≤iu
 | 88=>∃ ch,Has st k [sn t] (sn t) [] ch∧Zan c t∧Lim st (sn t)∧Full c st (sn t)∧FK c st t (sn t)∧LkS c mn st k none 0 0 0∧Zct c t ch
 | 90=>∃ ch,Has st k [sn t] (sn t) [] ch∧Zan c t∧Lim st (sn t)∧st.ol (sn t) .first≠[]∧(Full c st (sn t)→(st.sl .shelf).length<mn)∧LkS c mn st k none 0 0 0∧Zct c t ch
 | 91=>∃ ch,Has st k [sn t] (sn t) [] ch∧Zan c t∧Lim st (sn t)∧st.ol (sn t) .first≠[]∧(Full c st (sn t)→(st.sl .shelf).length<mn)∧LkS c mn st k none 0 0 0∧Zct c t ch∧t.N=sw (st.sl .shelf)
 | 92=>∃ ch,Has st k [sn t] (sn t) [] ch∧Zan c t∧Lim st (sn t)∧st.ol (sn t) .first≠[]∧(Full c st (sn t)→(st.sl .shelf).length<mn)∧LkS c mn st k none 0 0 0∧Zct c t ch∧st.nx (sn t)=sw (st.sl .shelf)
 | 93=>∃ ch,Has st k [] 0 [] ch∧LkS c mn st k none 1 0 0∧Zct c t ch
 | 94=>∃ ch,Has st k [] 0 [] ch∧LkS c mn st k none 0 0 0∧Zct c t ch
 | 76=>∃ ch,Has st k [sn t] (sn t) [] ch∧Zan c t∧Lim st (sn t)∧Full c st (sn t)∧FK c st t (sn t)∧LkS c mn st k none 0 0 0∧Zct c t ch
 | 77=>∃ l ch,Has st k [sn t] (sn t) l ch∧Zan c t∧st.lv (sn t)=false∧LkS c mn st k none 0 0 0∧Zct c t ch
 | 78=>∃ l ch,Has st k [sn t] (sn t) l ch∧Zan c t∧st.lv (sn t)=false∧Zct c t ch
 | 95=>Has st k [] 0 [] []
 | 96=>Has st k [] 0 [] []∧LkS c mn st k none 0 0 0
 | 97=>Has st k [] 0 [] []∧LkS c mn st k none 0 0 0∧Zan c t∧∃ p q,st.sl .shelf=p++sn t::q∧t.to_=ZeC p
 | 98=>Has st k [] 0 [] []∧LkS c mn st k none 0 0 0∧Zan c t∧∃ p q,st.sl .shelf=p++sn t::q∧t.to_=ZeC p
 | 99=>Has st k [] 0 [] []∧LkS c mn st k none 0 0 0
 | 100=>Has st k [] 0 [] []∧LkS c mn st k none 0 0 0∧Zan c t∧(∃ p q,st.sl .shelf=p++sn t::q∧t.to_=ZeC p)∧Full c st (sn t)∧t.K=ct c st (sn t)
 | 101=>Has st k [] 0 [] []∧LkS c mn st k none 0 0 0∧Zan c t∧(∃ p q,st.sl .shelf=p++sn t::q∧t.to_=ZeC p)∧Full c st (sn t)∧FK c st t (sn t)
 | 102=>Has st k [] 0 [] []∧LkS c mn st k none 0 0 0∧Zan c t∧(∃ p q,st.sl .shelf=p++sn t::q∧t.to_=ZeC p∧t.N=sw q)∧Full c st (sn t)∧FK c st t (sn t)
 | 103=>Has st k [sn t] (sn t) [] []∧Zan c t∧Lim st (sn t)∧Full c st (sn t)∧FK c st t (sn t)∧LkS c mn st k none 0 1 0
 | _=>False
structure Loc:Prop where
 cpu:t.cpu=k
 fin:t.fin=0
 job:t.job=1↔alloc t.pc=true
 want:t.want=0∨t.pc=43∧t.want=1∨t.pc=78∧t.want=2
 w78:t.pc=78→t.want=2
 at_:At c mn cp st k t
end
variable {k:Nat}{t:Tk}
theorem Has.keep {ms l ch:List Nat}{s:Nat}(h:Has st k ms s l ch)(L:Left c k st st'):Has st' k ms s l ch:=⟨L.slm.trans h.ms,fun x=>(L.obj x).trans (h.ob x),L.slc.trans h.ch⟩
theorem Has.own {s x:Nat}{l ch:List Nat}(G:Zbc c mn cp st)(h:Has st k [s] x l ch):st.own s = .mine k:=(G.sm _ rfl s).1 (by rw [h.ms]; simp)
theorem Has.loc {s o:Nat}{ms l ch:List Nat}(G:Zbc c mn cp st)(h:Has st k ms s l ch)(ho:o∈l):st.loc s o = .ZaB k:=(G.om _ _ rfl o).1 (by rw [h.ob,if_pos rfl]; exact ho)
theorem Has.lk {s o:Nat}{ms l ch:List Nat}(G:Zbc c mn cp st)(h:Has st k ms s l ch)(L:Left c k st st')(ho:o∈l):st'.lk s o=st.lk s o:=L.lk s o (h.loc G ho)
theorem Has.lkd {s key:Nat}{ms l l' ch:List Nat}{e:Int}(G:Zbc c mn cp st)(h:Has st k ms s l ch)(L:Left c k st st')(hs:∀ o∈l',o∈l)(hl:Cv.lkd (st.lk s) key l' e):Cv.lkd (st'.lk s) key l' e:=Ze4 (fun o ho=>h.lk G L (hs o ho)) hl
theorem Live.keep {s:Nat}(h:Live st s)(ho:st.own s = .mine k)(L:Left c k st st'):Live st' s:=by
 obtain ⟨h1,h2,_⟩:=L.flg s ho
 exact ⟨h1.trans h.1,h2.trans h.2⟩
theorem Lim.keep {s:Nat}(h:Lim st s)(ho:st.own s = .mine k)(L:Left c k st st'):Lim st' s:=by
 obtain ⟨h1,h2,_⟩:=L.flg s ho
 exact ⟨h1.trans h.1,h2.trans h.2⟩
theorem Zln (G:Zbc c mn cp st)(s:Nat):(st.ol s .first).length≤c.O:=Zqi (G.od s .first rfl) fun o ho=>(G.ob s o (by rw [(G.om s .first rfl o).1 ho]; simp)).2
theorem ZgB {s:Nat}(G':Zbc c mn cp st')(L:Left c k st st')(h:Full c st s)(ho:st.own s = .mine k∨st.hold=some k∧st.own s = .shelf):st'.ol s .first=st.ol s .first:=by
 obtain ⟨⟨l,hl⟩,_⟩:=L.fst s ho
 have h1:=Zln G' s
 unfold Full at h
 rw [hl,List.length_append] at h1
 have:l=[]:=List.length_eq_zero_iff.1 (by omega)
 rw [hl,this,List.nil_append]
theorem Full.keep {s:Nat}(G':Zbc c mn cp st')(L:Left c k st st')(h:Full c st s)(ho:st.own s = .mine k∨st.hold=some k∧st.own s = .shelf):Full c st' s:=by
 unfold Full
 rw [ZgB G' L h ho]
 exact h
theorem FK.keep {s:Nat}(G':Zbc c mn cp st')(L:Left c k st st')(h:FK c st t s)(hf:Full c st s)(ho:st.own s = .mine k∨st.hold=some k∧st.own s = .shelf):FK c st' t s:=by
 have e:=ZgB G' L hf ho
 have e2:st'.lv s=st.lv s∧st'.frz s=st.frz s:=by
  rcases ho with ho | ⟨h1,h2⟩
  ·exact ⟨(L.flg s ho).1,(L.flg s ho).2.1⟩
  ·exact (L.lock h1).2.2.2.2 s h2 |>.2
 unfold FK fr ct at h ⊢
 rw [e,e2.1,e2.2]
 exact h
theorem Zrw {s:Nat}(G':Zbc c mn cp st')(L:Left c k st st')(h:t.K=ct c st s)(hf:Full c st s)(ho:st.own s = .mine k∨st.hold=some k∧st.own s = .shelf):t.K=ct c st' s:=by
 have e:=ZgB G' L hf ho
 have e2:st'.lv s=st.lv s∧st'.frz s=st.frz s:=by
  rcases ho with ho | ⟨h1,h2⟩
  ·exact ⟨(L.flg s ho).1,(L.flg s ho).2.1⟩
  ·exact (L.lock h1).2.2.2.2 s h2 |>.2
 unfold ct at h ⊢
 rw [e,e2.1,e2.2]
 exact h
theorem Zaw (L:Left c k st st')(h:st.hold=some k):st'.sl .shelf=st.sl .shelf:=(L.lock h).2.2.2.1
theorem Zbo (G:Zbc c mn cp st){s:Nat}{p q:List Nat}(h:st.sl .shelf=p++s::q):st.own s = .shelf:=(G.sm .shelf rfl s).1 (by rw [h]; simp)
theorem LkS.keep {cu:Option Nat}{a b e:Nat}(G:Zbc c mn cp st)(h:LkS c mn st k cu a b e)(L:Left c k st st'):LkS c mn st' k cu a b e:=by
 obtain ⟨h1,h2,h3,h4,h5⟩:=L.lock h.hold
 refine ⟨h1,h2.trans h.cut,by rw [h3,h4]; exact h.held,Nat.le_trans ?_ h.em⟩
 unfold ZfV
 rw [h4]
 refine Zbh fun x hx he => ?_
 have hs:st.own x = .shelf:=(G.sm _ rfl x).1 hx
 simp only [Bool.and_eq_true,beq_iff_eq,Bool.not_eq_true'] at he ⊢
 rw [(h5 x hs).2.2] at he
 exact ⟨(L.fst x (.inr ⟨h.hold,hs⟩)).2 he.2 he.1,he.2⟩
theorem HK.keep {x T:Nat}{P Q:Prop}(L:Left c k st st')(h:HK st x T P)(hq:st'.sl (.head x)=st.sl (.head x)→(∀ s,st'.ol s (.head x)=st.ol s (.head x))→P→Q):HK st' x T Q:=by
 obtain ⟨h1,h2⟩:=L.hd x
 refine ⟨Nat.le_trans h.1 h1,fun e => ?_⟩
 have e1:st'.ht x=st.ht x:=by
  have:=h.1
  omega
 obtain ⟨h3,h4⟩:=h2 e1
 exact hq h3 h4 (h.2 (by omega))
theorem PK.keep {x T:Nat}{P Q:Prop}(L:Left c k st st')(h:PK st x T P)(hq:st'.sl (.part x)=st.sl (.part x)→P→Q):PK st' x T Q:=by
 obtain ⟨h1,h2⟩:=L.pt x
 refine ⟨Nat.le_trans h.1 h1,fun e => ?_⟩
 have e1:st'.pt x=st.pt x:=by
  have:=h.1
  omega
 exact hq (h2 e1) (h.2 (by omega))
theorem ZbX {x:Nat}(h1:st'.sl (.head x)=st.sl (.head x))(h2:∀ s,st'.ol s (.head x)=st.ol s (.head x)):hw st' x=hw st x:=by
 unfold hw
 rw [h1]
 simp only [h2]
end
end Go.Proofs.YtfcpdlbkmkhhcaaGreatDoor.Cv
