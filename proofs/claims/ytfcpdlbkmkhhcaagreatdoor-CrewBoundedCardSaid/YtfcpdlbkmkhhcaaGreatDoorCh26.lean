/-
  Texts of this claim, joined. No condition.
-/
import Derived.Test.YtfcpdlbkmkhhcaaGreatDoorCh1
import Derived.Test.YtfcpdlbkmkhhcaaGreatDoorCh25
namespace Go.Proofs.YtfcpdlbkmkhhcaaGreatDoor
set_option maxRecDepth 100000
set_option maxHeartbeats 40000000
namespace Cv
open See Cw
section
variable {c:Ch}{mn cp:Nat}{st st' Bj:St}
def eu (c:Ch)(t:Tk):Prop:=0≤t.aA∧t.aA<c.S
def nC (c:Ch)(t:Tk):Prop:=0≤t.obj∧t.obj<c.O
def GI (c:Ch)(t:Tk):Prop:=0≤t.for_∧t.for_<c.C
def Live (st:St)(s:Nat):Prop:=st.lv s=true∧st.dh s=true
def Bq (st:St)(s:Nat):Prop:=st.lv s=true∧st.dh s=false
def Full (c:Ch)(st:St)(s:Nat):Prop:=(st.ol s .first).length=c.O
def HK (st:St)(x T:Nat)(P:Prop):Prop:=T≤st.ht x∧(T=st.ht x→P)
def PK (st:St)(x T:Nat)(P:Prop):Prop:=T≤st.pt x∧(T=st.pt x→P)
def Bp (c:Ch)(K:Nat)(P:Nat→Bool→Prop):Prop:=∃ iu f,K=dF iu c.O f true∧iu≤c.O∧P iu f
def fK (c:Ch)(mn:Nat)(st:St)(k:Nat)(cu:Option Nat)(a b e:Nat):Prop:=st.hold=some k∧st.cut=cu∧st.held+a=(st.sl .shelf).length+b∧lT c st≤mn+e
theorem fK.hold {c:Ch}{mn:Nat}{st:St}{k:Nat}{cu:Option Nat}{a b e:Nat}(h:fK c mn st k cu a b e):st.hold=some k:=h.1
theorem fK.cut {c:Ch}{mn:Nat}{st:St}{k:Nat}{cu:Option Nat}{a b e:Nat}(h:fK c mn st k cu a b e):st.cut=cu:=h.2.1
theorem fK.held {c:Ch}{mn:Nat}{st:St}{k:Nat}{cu:Option Nat}{a b e:Nat}(h:fK c mn st k cu a b e):st.held+a=(st.sl .shelf).length+b:=h.2.2.1
theorem fK.em {c:Ch}{mn:Nat}{st:St}{k:Nat}{cu:Option Nat}{a b e:Nat}(h:fK c mn st k cu a b e):lT c st≤mn+e:=h.2.2.2
def um (c:Ch)(t:Tk)(ch:List Nat):Prop:=t.back=0∧ch=[]∨t.back=73∧ch=[]∧GI c t∨t.back=95∧ch=[]∨t.back=79∧t.H=pw ch
def mg (st:St)(k:Nat):Prop:=st.sl (.head k)=[]
def FK (c:Ch)(st:St)(t:Tk)(s:Nat):Prop:=t.F=fr st s∧t.K=ct c st s
def alloc (pc:Int):Bool:=(0≤pc&&pc<10)||(20≤pc&&pc<50)
abbrev ky (c:Ch) (s:Nat):Nat:=See.keyOf c.key s
abbrev xQ (c:Ch) (i:Nat):Int:=if ((i+1:Nat):Int)<c.O then ((i+1:Nat):Int) else -1
section
variable (c:Ch)(mn cp:Nat)(st:St)(k:Nat)(t:Tk)
abbrev sn:Nat:=t.aA.toNat
abbrev on:Nat:=t.obj.toNat
def At:Prop:=match t.pc with
 |0=>Has st k [] 0 [] []
 |1=>Has st k [] 0 [] []∧t.T≤st.ht k
 |2=>Has st k [] 0 [] []∧eu c t∧nC c t∧HK st k t.T (t.H=hw st k∧st.sl (.head k)=[sn t]∧∃ r,st.ol (sn t) (.head k)=on t::r)
 |3=>Has st k [] 0 [] []∧eu c t∧nC c t∧(-1≤t.last∧t.last<c.O)∧HK st k t.T (t.H=hw st k∧st.sl (.head k)=[sn t]∧∃ r,st.ol (sn t) (.head k)=on t::r∧t.last=gq r (-1))
 |20=>Has st k [] 0 [] []∧eu c t∧HK st k t.T (t.H=hw st k∧st.sl (.head k)=[sn t]∧st.ol (sn t) (.head k)=[])
 |21=>Has st k [sn t] (sn t) [] []∧eu c t∧Live st (sn t)∧mg st k
 |22=>Has st k [sn t] (sn t) [] []∧eu c t∧Live st (sn t)∧mg st k∧t.F≤c.O
 |23=>Has st k [sn t] (sn t) [] []∧eu c t∧Live st (sn t)∧mg st k∧(1≤t.F∧t.F≤c.O)∧Bp c t.K fun _ f=>f=true
 |24=>Has st k [sn t] (sn t) [] []∧eu c t∧Live st (sn t)∧mg st k∧t.F=0∧Bp c t.K fun _ f=>f=true
 |30=>Has st k [] 0 [] []∧mg st k
 |31=>Has st k [] 0 [] []∧mg st k∧t.T≤st.pt k
 |32=>Has st k [] 0 [] []∧mg st k∧eu c t∧PK st k t.T (t.N=pw (st.sl (.part k))∧∃ r,st.sl (.part k)=sn t::r)
 |33=>Has st k [] 0 [] []∧mg st k∧eu c t∧t.F<18446744073709551616∧PK st k t.T (t.N=pw (st.sl (.part k))∧∃ r,st.sl (.part k)=sn t::r∧t.F=pw r)
 |34=>Has st k [] 0 [] []∧mg st k
 |35=>Has st k [] 0 [] []∧mg st k∧fK c mn st k none 0 0 0
 |36=>Has st k [] 0 [] []∧mg st k∧fK c mn st k none 0 0 0
 |37=>Has st k [] 0 [] []∧mg st k∧fK c mn st k none 0 0 0∧eu c t∧∃ r,st.sl .shelf=sn t::r
 |38=>Has st k [] 0 [] []∧mg st k∧fK c mn st k none 0 0 0∧eu c t∧(∃ r,st.sl .shelf=sn t::r)∧1≤t.F∧t.F≤c.O
 |39=>Has st k [] 0 [] []∧mg st k∧fK c mn st k none 0 0 0∧eu c t∧(∃ r,st.sl .shelf=sn t::r)∧(1≤t.F∧t.F≤c.O)∧Bp c t.K fun _ f=>f=false
 |46=>(∃ l,Has st k [] (sn t) (on t::l) []∧gy (st.lk (sn t)) (ky c (sn t)) (on t::l) (-1))∧mg st k∧eu c t∧nC c t∧fK c mn st k (some (sn t)) 0 0 0∧(∃ r,st.sl .shelf=sn t::r)∧Live st (sn t)
 |47=>(∃ l,Has st k [] (sn t) (on t::l) []∧gy (st.lk (sn t)) (ky c (sn t)) (on t::l) (-1))∧mg st k∧eu c t∧nC c t∧fK c mn st k (some (sn t)) 0 0 0∧(∃ r,st.sl .shelf=sn t::r∧t.N=sw r)∧Live st (sn t)
 |48=>(∃ l,Has st k [sn t] (sn t) (on t::l) []∧gy (st.lk (sn t)) (ky c (sn t)) (on t::l) (-1))∧mg st k∧eu c t∧nC c t∧fK c mn st k none 0 1 0∧Live st (sn t)
 |49=>(∃ l,Has st k [sn t] (sn t) (on t::l) []∧gy (st.lk (sn t)) (ky c (sn t)) (on t::l) (-1))∧mg st k∧eu c t∧nC c t∧fK c mn st k none 0 0 0∧Live st (sn t)
 |40=>(∃ l,Has st k [sn t] (sn t) (on t::l) []∧gy (st.lk (sn t)) (ky c (sn t)) (on t::l) (-1))∧mg st k∧eu c t∧nC c t∧Live st (sn t)
 |41=>(∃ l,Has st k [sn t] (sn t) (on t::l) []∧gy (st.lk (sn t)) (ky c (sn t)) (on t::l) (-1)∧t.last=gq l (-1))∧mg st k∧eu c t∧nC c t∧Live st (sn t)
 |42=>(∃ l,Has st k [sn t] (sn t) (on t::l) []∧gy (st.lk (sn t)) (ky c (sn t)) (on t::l) (-1)∧t.last=gq l (-1))∧mg st k∧eu c t∧nC c t∧Live st (sn t)∧t.T≤st.ht k
 |43=>(t.want=1→Has st k [] 0 [] []∧mg st k)∧(t.want=0→Has st k [sn t] (sn t) (List.range c.O) []∧mg st k∧eu c t∧st.lv (sn t)=false∧(0≤t.many∧t.many<c.O)∧∀ i,i<t.many.toNat→st.lk (sn t) i=fZ (xQ c i) (ky c (sn t)) i)
 |44=>Has st k [sn t] (sn t) (List.range c.O) []∧mg st k∧eu c t∧st.lv (sn t)=false∧∀ i,i<c.O→st.lk (sn t) i=fZ (xQ c i) (ky c (sn t)) i
 |10=>Has st k [] (sn t) [on t] []∧eu c t∧nC c t
 |11=>Has st k [] (sn t) [on t] []∧eu c t∧nC c t∧t.T≤st.ht k
 |12=>Has st k [] (sn t) [on t] []∧eu c t∧nC c t∧(-1≤t.last∧t.last<c.O)∧HK st k t.T (t.H=hw st k∧st.sl (.head k)=[sn t]∧t.last=gq (st.ol (sn t) (.head k)) (-1))
 |13=>Has st k [] (sn t) [on t] []∧eu c t∧nC c t∧st.lk (sn t) (on t)=fZ t.last (ky c (sn t)) (on t)∧HK st k t.T (t.H=hw st k∧st.sl (.head k)=[sn t]∧t.last=gq (st.ol (sn t) (.head k)) (-1))
 |50=>Has st k [] (sn t) [on t] []∧eu c t∧nC c t
 |51=>Has st k [] (sn t) [on t] []∧eu c t∧nC c t∧t.F≤c.O
 |52=>Has st k [] (sn t) [on t] []∧eu c t∧nC c t∧t.F≤c.O∧Bp c t.K fun iu _=>1≤iu
 |53=>Has st k [] (sn t) [on t] []∧eu c t∧nC c t∧t.F≤c.O∧(Bp c t.K fun iu f=>1≤iu∧(f=true∨t.F≠0∧1<iu))∧st.lk (sn t) (on t)=fZ ((t.F:Int) - 1) (ky c (sn t)) (on t)
 |54=>Has st k [] (sn t) [on t] []∧eu c t∧nC c t∧t.F=0∧(Bp c t.K fun iu f=>1≤iu∧f=false)∧st.lk (sn t) (on t)=fZ ((t.F:Int) - 1) (ky c (sn t)) (on t)
 |55=>Has st k [] (sn t) [on t] []∧eu c t∧nC c t∧(1≤t.F∧t.F≤c.O)∧(Bp c t.K fun iu f=>iu=1∧f=false)∧st.lk (sn t) (on t)=fZ ((t.F:Int) - 1) (ky c (sn t)) (on t)
 |56=>Has st k [] (sn t) [on t] []∧eu c t∧nC c t∧(1≤t.F∧t.F≤c.O)∧(Bp c t.K fun iu f=>iu=1∧f=false)∧st.lk (sn t) (on t)=fZ ((t.F:Int) - 1) (ky c (sn t)) (on t)∧fK c mn st k none 0 0 0
 |57=>Has st k [] (sn t) [on t] []∧eu c t∧nC c t∧fK c mn st k none 0 0 0
 |58=>Has st k [] 0 [] []∧eu c t∧st.own (sn t) = .shelf∧Full c st (sn t)∧FK c st t (sn t)∧fK c mn st k none 0 0 1
 |59=>Has st k [] 0 [] []∧fK c mn st k none 0 0 0
 |60=>Has st k [sn t] (sn t) [] []∧eu c t∧Live st (sn t)
 |61=>Has st k [sn t] (sn t) [] []∧eu c t∧Live st (sn t)∧t.T≤st.pt k
 |62=>Has st k [sn t] (sn t) [] []∧eu c t∧Live st (sn t)∧(∃ a b,partOf t.N=some (a,b)∧a<c.S∧b<cp)∧PK st k t.T (t.N=pw (st.sl (.part k)))
 |63=>Has st k [sn t] (sn t) [] []∧eu c t∧Live st (sn t)∧(∃ a b,partOf t.N=some (a,b)∧a<c.S∧b<cp)∧PK st k t.T (t.N=pw (st.sl (.part k)))∧st.nx (sn t)=t.N
 |64=>Has st k [] 0 [] []∧eu c t∧st.own (sn t) = .shelf∧Full c st (sn t)∧FK c st t (sn t)∧fK c mn st k none 0 0 1
 |65=>Has st k [] 0 [] []∧eu c t∧st.own (sn t) = .shelf∧Full c st (sn t)∧FK c st t (sn t)∧fK c mn st k none 0 0 1∧0≤t.bS∧∃ p q,st.sl .shelf=p++t.bS.toNat::q∧sn t∈q
 |66=>Has st k [] 0 [] []∧eu c t∧st.own (sn t) = .shelf∧Full c st (sn t)∧FK c st t (sn t)∧fK c mn st k none 0 0 1∧∃ p q,st.sl .shelf=p++sn t::q∧t.bS=uq p
 |67=>Has st k [] 0 [] []∧eu c t∧st.own (sn t) = .shelf∧Full c st (sn t)∧FK c st t (sn t)∧fK c mn st k none 0 0 1∧∃ p q,st.sl .shelf=p++sn t::q∧t.bS=uq p∧t.N=sw q
 |68=>Has st k [sn t] (sn t) [] []∧eu c t∧Bq st (sn t)∧Full c st (sn t)∧FK c st t (sn t)∧fK c mn st k none 0 1 0
 |70=>Has st k [] 0 [] []∧GI c t
 |71=>Has st k [] 0 [] []∧GI c t∧t.T≤st.ht t.for_.toNat
 |72=>Has st k [] 0 [] []∧GI c t∧eu c t∧(-1≤t.obj∧t.obj<c.O)∧HK st t.for_.toNat t.T (t.H=hw st t.for_.toNat∧st.sl (.head t.for_.toNat)=[sn t]∧t.obj=gq (st.ol (sn t) (.head t.for_.toNat)) (-1))
 |73=>Has st k [] 0 [] []∧GI c t
 |74=>Has st k [] 0 [] []∧GI c t∧t.T≤st.pt t.for_.toNat
 |75=>Has st k [] 0 [] []∧GI c t∧(t.N≠0∧t.N<18446744073709551616)∧PK st t.for_.toNat t.T (t.N=pw (st.sl (.part t.for_.toNat)))
 |79=>∃ ch,Has st k [] 0 [] ch∧ch≠[]∧t.H=pw ch
 |80=>∃ l ch,Has st k [sn t] (sn t) l ch∧eu c t∧Live st (sn t)∧t.many=0∧um c t ch∧t.obj=gq l (-1)∧gy (st.lk (sn t)) (ky c (sn t)) l (-1)
 |81=>∃ l ch,Has st k [sn t] (sn t) l ch∧eu c t∧Live st (sn t)∧um c t ch∧t.obj=gq l (-1)∧gy (st.lk (sn t)) (ky c (sn t)) l (-1)∧fK c mn st k none 0 0 0∧∃ (p:List Nat) (a:Nat) (q:List Nat),l=p++a::q∧t.last=(a:Int)∧t.many=(p.length:Int)
 |84=>∃ l ch,Has st k [sn t] (sn t) l ch∧eu c t∧Live st (sn t)∧um c t ch∧t.obj=gq l (-1)∧(∃ e,gy (st.lk (sn t)) (ky c (sn t)) l e)∧fK c mn st k none 0 0 0∧t.many=(l.length:Int)∧(l=[]∨∃ (p:List Nat) (a:Nat),l=p++[a]∧t.last=(a:Int))
 |85=>∃ l ch,Has st k [sn t] (sn t) l ch∧eu c t∧Live st (sn t)∧um c t ch∧t.obj=gq l (-1)∧(∃ e,gy (st.lk (sn t)) (ky c (sn t)) l e)∧fK c mn st k none 0 0 0∧t.many=(l.length:Int)∧(l=[]∨∃ (p:List Nat) (a:Nat),l=p++[a]∧t.last=(a:Int))∧t.F≤c.O
 |86=>∃ l ch,Has st k [sn t] (sn t) l ch∧eu c t∧Live st (sn t)∧um c t ch∧t.obj=gq l (-1)∧(∃ e,gy (st.lk (sn t)) (ky c (sn t)) l e)∧fK c mn st k none 0 0 0∧t.many=(l.length:Int)∧(∃ (p:List Nat) (a:Nat),l=p++[a]∧t.last=(a:Int))∧t.F≤c.O∧Bp c t.K fun iu f=>f=true∧l.length≤iu
 |87=>∃ l ch,Has st k [sn t] (sn t) l ch∧eu c t∧Live st (sn t)∧um c t ch∧t.obj=gq l (-1)∧gy (st.lk (sn t)) (ky c (sn t)) l ((t.F:Int) - 1)∧fK c mn st k none 0 0 0∧t.many=(l.length:Int)∧(l=[]∨∃ (p:List Nat) (a:Nat),l=p++[a]∧t.last=(a:Int))∧t.F≤c.O∧Bp c t.K fun iu f=>f=true∧l.length≤iu
 |88=>∃ ch,Has st k [sn t] (sn t) [] ch∧eu c t∧Bq st (sn t)∧Full c st (sn t)∧FK c st t (sn t)∧fK c mn st k none 0 0 0∧um c t ch
 |90=>∃ ch,Has st k [sn t] (sn t) [] ch∧eu c t∧Bq st (sn t)∧st.ol (sn t) .first≠[]∧(Full c st (sn t)→(st.sl .shelf).length<mn)∧fK c mn st k none 0 0 0∧um c t ch
 |91=>∃ ch,Has st k [sn t] (sn t) [] ch∧eu c t∧Bq st (sn t)∧st.ol (sn t) .first≠[]∧(Full c st (sn t)→(st.sl .shelf).length<mn)∧fK c mn st k none 0 0 0∧um c t ch∧t.N=sw (st.sl .shelf)
 |92=>∃ ch,Has st k [sn t] (sn t) [] ch∧eu c t∧Bq st (sn t)∧st.ol (sn t) .first≠[]∧(Full c st (sn t)→(st.sl .shelf).length<mn)∧fK c mn st k none 0 0 0∧um c t ch∧st.nx (sn t)=sw (st.sl .shelf)
 |93=>∃ ch,Has st k [] 0 [] ch∧fK c mn st k none 1 0 0∧um c t ch
 |94=>∃ ch,Has st k [] 0 [] ch∧fK c mn st k none 0 0 0∧um c t ch
 |76=>∃ ch,Has st k [sn t] (sn t) [] ch∧eu c t∧Bq st (sn t)∧Full c st (sn t)∧FK c st t (sn t)∧fK c mn st k none 0 0 0∧um c t ch
 |77=>∃ l ch,Has st k [sn t] (sn t) l ch∧eu c t∧st.lv (sn t)=false∧fK c mn st k none 0 0 0∧um c t ch
 |78=>∃ l ch,Has st k [sn t] (sn t) l ch∧eu c t∧st.lv (sn t)=false∧um c t ch
 |95=>Has st k [] 0 [] []
 |96=>Has st k [] 0 [] []∧fK c mn st k none 0 0 0
 |97=>Has st k [] 0 [] []∧fK c mn st k none 0 0 0∧eu c t∧∃ p q,st.sl .shelf=p++sn t::q∧t.bS=uq p
 |98=>Has st k [] 0 [] []∧fK c mn st k none 0 0 0∧eu c t∧∃ p q,st.sl .shelf=p++sn t::q∧t.bS=uq p
 |99=>Has st k [] 0 [] []∧fK c mn st k none 0 0 0
 |100=>Has st k [] 0 [] []∧fK c mn st k none 0 0 0∧eu c t∧(∃ p q,st.sl .shelf=p++sn t::q∧t.bS=uq p)∧Full c st (sn t)∧t.K=ct c st (sn t)
 |101=>Has st k [] 0 [] []∧fK c mn st k none 0 0 0∧eu c t∧(∃ p q,st.sl .shelf=p++sn t::q∧t.bS=uq p)∧Full c st (sn t)∧FK c st t (sn t)
 |102=>Has st k [] 0 [] []∧fK c mn st k none 0 0 0∧eu c t∧(∃ p q,st.sl .shelf=p++sn t::q∧t.bS=uq p∧t.N=sw q)∧Full c st (sn t)∧FK c st t (sn t)
 |103=>Has st k [sn t] (sn t) [] []∧eu c t∧Bq st (sn t)∧Full c st (sn t)∧FK c st t (sn t)∧fK c mn st k none 0 1 0
 |_=>False
structure Loc:Prop where
 aB:t.aB=k
 fin:t.fin=0
 job:t.job=1↔alloc t.pc=true
 want:t.want=0∨t.pc=43∧t.want=1∨t.pc=78∧t.want=2
 w78:t.pc=78→t.want=2
 at_:At c mn cp st k t
end
variable {k:Nat}{t:Tk}
theorem Has.keep {ms l ch:List Nat}{s:Nat}(h:Has st k ms s l ch)(L:Left c k st st'):Has st' k ms s l ch:=⟨L.CO.trans h.ms,fun x=>(L.obj x).trans (h.ob x),L.Bi.trans h.ch⟩
theorem Has.own {s x:Nat}{l ch:List Nat}(G:dH c mn cp st)(h:Has st k [s] x l ch):st.own s = .mine k:=(G.sm _ rfl s).1 (by rw[h.ms];simp)
theorem Has.loc {s o:Nat}{ms l ch:List Nat}(G:dH c mn cp st)(h:Has st k ms s l ch)(ho:o∈l):st.loc s o = .aU k:=(G.om _ _ rfl o).1 (by rw[h.ob,if_pos rfl];exact ho)
theorem Has.lk {s o:Nat}{ms l ch:List Nat}(G:dH c mn cp st)(h:Has st k ms s l ch)(L:Left c k st st')(ho:o∈l):st'.lk s o=st.lk s o:=L.lk s o (h.loc G ho)
theorem Has.gy {s key:Nat}{ms l l' ch:List Nat}{e:Int}(G:dH c mn cp st)(h:Has st k ms s l ch)(L:Left c k st st')(hs:∀ o∈l',o∈l)(hl:Cv.gy (st.lk s) key l' e):Cv.gy (st'.lk s) key l' e:=Pn (fun o ho=>h.lk G L (hs o ho)) hl
theorem Live.keep {s:Nat}(h:Live st s)(ho:st.own s = .mine k)(L:Left c k st st'):Live st' s:=by
 obtain⟨h1,h2,_⟩:=L.oL s ho;exact⟨h1.trans h.1,h2.trans h.2⟩
theorem Bq.keep {s:Nat}(h:Bq st s)(ho:st.own s = .mine k)(L:Left c k st st'):Bq st' s:=by
 obtain⟨h1,h2,_⟩:=L.oL s ho;exact⟨h1.trans h.1,h2.trans h.2⟩
theorem Qv (G:dH c mn cp st)(s:Nat):(st.ol s .first).length≤c.O:=zP (G.od s .first rfl) fun o ho=>(G.ob s o (by rw[(G.om s .first rfl o).1 ho];simp)).2
theorem S9 {s:Nat}(G':dH c mn cp st')(L:Left c k st st')(h:Full c st s)(ho:st.own s = .mine k∨st.hold=some k∧st.own s = .shelf):st'.ol s .first=st.ol s .first:=by
 obtain⟨⟨l,hl⟩,_⟩:=L.fst s ho;have h1:=Qv G' s;unfold Full at h;rw[hl,Zxw]at h1;have:l=[]:=List.length_eq_zero_iff.1 (by omega);rw[hl,this,List.nil_append]
theorem Full.keep {s:Nat}(G':dH c mn cp st')(L:Left c k st st')(h:Full c st s)(ho:st.own s = .mine k∨st.hold=some k∧st.own s = .shelf):Full c st' s:=by
 unfold Full;rw[S9 G' L h ho];exact h
theorem FK.keep {s:Nat}(G':dH c mn cp st')(L:Left c k st st')(h:FK c st t s)(hf:Full c st s)(ho:st.own s = .mine k∨st.hold=some k∧st.own s = .shelf):FK c st' t s:=by
 have e:=S9 G' L hf ho;have e2:st'.lv s=st.lv s∧st'.dh s=st.dh s:=by
  rcases ho with ho|⟨h1,h2⟩
  ·exact⟨(L.oL s ho).1,(L.oL s ho).2.1⟩
  ·exact(L.lock h1).2.2.2.2 s h2 |>.2
 unfold FK fr ct at h ⊢;rw[e,e2.1,e2.2];exact h
theorem Zrw {s:Nat}(G':dH c mn cp st')(L:Left c k st st')(h:t.K=ct c st s)(hf:Full c st s)(ho:st.own s = .mine k∨st.hold=some k∧st.own s = .shelf):t.K=ct c st' s:=by
 have e:=S9 G' L hf ho;have e2:st'.lv s=st.lv s∧st'.dh s=st.dh s:=by
  rcases ho with ho|⟨h1,h2⟩
  ·exact⟨(L.oL s ho).1,(L.oL s ho).2.1⟩
  ·exact(L.lock h1).2.2.2.2 s h2 |>.2
 unfold ct at h ⊢;rw[e,e2.1,e2.2];exact h
theorem ny (L:Left c k st st')(h:st.hold=some k):st'.sl .shelf=st.sl .shelf:=(L.lock h).2.2.2.1
theorem yh (G:dH c mn cp st){s:Nat}{p q:List Nat}(h:st.sl .shelf=p++s::q):st.own s = .shelf:=(G.sm .shelf rfl s).1 (by rw[h];simp)
theorem fK.keep {cu:Option Nat}{a b e:Nat}(G:dH c mn cp st)(h:fK c mn st k cu a b e)(L:Left c k st st'):fK c mn st' k cu a b e:=by
 obtain⟨h1,h2,h3,h4,h5⟩:=L.lock h.hold;refine⟨h1,h2.trans h.cut,by rw[h3,h4];exact h.held,ZxL ?_ h.em⟩;unfold lT;rw[h4];refine Ey fun x hx he => ?_;have hs:st.own x = .shelf:=(G.sm _ rfl x).1 hx;simp only[Zxu,beq_iff_eq,Bool.not_eq_true']at he ⊢;rw[(h5 x hs).2.2]at he;exact⟨(L.fst x (.inr ⟨h.hold,hs⟩)).2 he.2 he.1,he.2⟩
theorem HK.keep {x T:Nat}{P Q:Prop}(L:Left c k st st')(h:HK st x T P)(hq:st'.sl (.head x)=st.sl (.head x)→(∀ s,st'.ol s (.head x)=st.ol s (.head x))→P→Q):HK st' x T Q:=by
 obtain⟨h1,h2⟩:=L.hd x;refine⟨ZxL h.1 h1,fun e => ?_⟩;have e1:st'.ht x=st.ht x:=by
  have:=h.1;omega
 obtain⟨h3,h4⟩:=h2 e1;exact hq h3 h4 (h.2 (by omega))
theorem PK.keep {x T:Nat}{P Q:Prop}(L:Left c k st st')(h:PK st x T P)(hq:st'.sl (.part x)=st.sl (.part x)→P→Q):PK st' x T Q:=by
 obtain⟨h1,h2⟩:=L.pt x;refine⟨ZxL h.1 h1,fun e => ?_⟩;have e1:st'.pt x=st.pt x:=by
  have:=h.1;omega
 exact hq (h2 e1) (h.2 (by omega))
theorem zl {x:Nat}(h1:st'.sl (.head x)=st.sl (.head x))(h2:∀ s,st'.ol s (.head x)=st.ol s (.head x)):hw st' x=hw st x:=by
 unfold hw;rw[h1];simp only[h2]
end
end Cv
namespace Cv
open See Cw
section
variable {c:Ch}{mn cp:Nat}{st st':St}{k:Nat}{t:Tk}
theorem At.keep (G:dH c mn cp st)(G':dH c mn cp st')(L:Left c k st st')(h:At c mn cp st k t):At c mn cp st' k t:=by
 unfold At at h ⊢;split at h
 case h_1=>exact h.keep L
 case h_2=>exact⟨h.1.keep L,ZxL h.2 (L.hd k).1⟩
 case h_3 =>
  obtain⟨h1,h2,h3,h4⟩:=h;exact⟨h1.keep L,h2,h3,h4.keep L fun e1 e2 h=>by rw[zl e1 e2,e1,e2];exact h⟩
 case h_4 =>
  obtain⟨h1,h2,h3,h4,h5⟩:=h;exact⟨h1.keep L,h2,h3,h4,h5.keep L fun e1 e2 h=>by rw[zl e1 e2,e1,e2];exact h⟩
 case h_5 =>
  obtain⟨h1,h2,h3⟩:=h;exact⟨h1.keep L,h2,h3.keep L fun e1 e2 h=>by rw[zl e1 e2,e1,e2];exact h⟩
 case h_6 =>
  obtain⟨h1,h2,h3,h4⟩:=h;exact⟨h1.keep L,h2,h3.keep (h1.own G) L,L.hdk h4⟩
 case h_7 =>
  obtain⟨h1,h2,h3,h4,h5⟩:=h;exact⟨h1.keep L,h2,h3.keep (h1.own G) L,L.hdk h4,h5⟩
 case h_8 =>
  obtain⟨h1,h2,h3,h4,h5⟩:=h;exact⟨h1.keep L,h2,h3.keep (h1.own G) L,L.hdk h4,h5⟩
 case h_9 =>
  obtain⟨h1,h2,h3,h4,h5⟩:=h;exact⟨h1.keep L,h2,h3.keep (h1.own G) L,L.hdk h4,h5⟩
 case h_10=>exact⟨h.1.keep L,L.hdk h.2⟩
 case h_11=>exact⟨h.1.keep L,L.hdk h.2.1,ZxL h.2.2 (L.pt k).1⟩
 case h_12 =>
  obtain⟨h1,h2,h3,h4⟩:=h;exact⟨h1.keep L,L.hdk h2,h3,h4.keep L fun e h=>by rw[e];exact h⟩
 case h_13 =>
  obtain⟨h1,h2,h3,h4,h5⟩:=h;exact⟨h1.keep L,L.hdk h2,h3,h4,h5.keep L fun e h=>by rw[e];exact h⟩
 case h_14=>exact⟨h.1.keep L,L.hdk h.2⟩
 case h_15=>exact⟨h.1.keep L,L.hdk h.2.1,h.2.2.keep G L⟩
 case h_16=>exact⟨h.1.keep L,L.hdk h.2.1,h.2.2.keep G L⟩
 case h_17 =>
  obtain⟨h1,h2,h3,h4,h5⟩:=h;exact⟨h1.keep L,L.hdk h2,h3.keep G L,h4,by rw[ny L h3.hold];exact h5⟩
 case h_18 =>
  obtain⟨h1,h2,h3,h4,h5,h6⟩:=h;exact⟨h1.keep L,L.hdk h2,h3.keep G L,h4,by rw[ny L h3.hold];exact h5,h6⟩
 case h_19 =>
  obtain⟨h1,h2,h3,h4,h5,h6⟩:=h;exact⟨h1.keep L,L.hdk h2,h3.keep G L,h4,by rw[ny L h3.hold];exact h5,h6⟩
 case h_20 =>
  obtain⟨⟨l,h1,h2⟩,h3,h4,h5,h6,⟨r,h7⟩,h8⟩:=h;have ho:=yh (p:=[]) G h7;have hl:=(L.lock h6.hold).2.2.2.2 _ ho;exact⟨⟨l,h1.keep L,h1.gy G L (fun _ h=>h) h2⟩,L.hdk h3,h4,h5,h6.keep G L,⟨r,by rw[ny L h6.hold];exact h7⟩,hl.2.1.trans h8.1,hl.2.2.trans h8.2⟩
 case h_21 =>
  obtain⟨⟨l,h1,h2⟩,h3,h4,h5,h6,⟨r,h7,h9⟩,h8⟩:=h;have ho:=yh (p:=[]) G h7;have hl:=(L.lock h6.hold).2.2.2.2 _ ho;exact⟨⟨l,h1.keep L,h1.gy G L (fun _ h=>h) h2⟩,L.hdk h3,h4,h5,h6.keep G L,⟨r,by rw[ny L h6.hold];exact h7,h9⟩,hl.2.1.trans h8.1,hl.2.2.trans h8.2⟩
 case h_22 =>
  obtain⟨⟨l,h1,h2⟩,h3,h4,h5,h6,h8⟩:=h;exact⟨⟨l,h1.keep L,h1.gy G L (fun _ h=>h) h2⟩,L.hdk h3,h4,h5,h6.keep G L,h8.keep (h1.own G) L⟩
 case h_23 =>
  obtain⟨⟨l,h1,h2⟩,h3,h4,h5,h6,h8⟩:=h;exact⟨⟨l,h1.keep L,h1.gy G L (fun _ h=>h) h2⟩,L.hdk h3,h4,h5,h6.keep G L,h8.keep (h1.own G) L⟩
 case h_24 =>
  obtain⟨⟨l,h1,h2⟩,h3,h4,h5,h8⟩:=h;exact⟨⟨l,h1.keep L,h1.gy G L (fun _ h=>h) h2⟩,L.hdk h3,h4,h5,h8.keep (h1.own G) L⟩
 case h_25 =>
  obtain⟨⟨l,h1,h2,h9⟩,h3,h4,h5,h8⟩:=h;exact⟨⟨l,h1.keep L,h1.gy G L (fun _ h=>h) h2,h9⟩,L.hdk h3,h4,h5,h8.keep (h1.own G) L⟩
 case h_26 =>
  obtain⟨⟨l,h1,h2,h9⟩,h3,h4,h5,h8,lX⟩:=h;exact⟨⟨l,h1.keep L,h1.gy G L (fun _ h=>h) h2,h9⟩,L.hdk h3,h4,h5,h8.keep (h1.own G) L,ZxL lX (L.hd k).1⟩
 case h_27 =>
  refine⟨fun e=>⟨(h.1 e).1.keep L,L.hdk (h.1 e).2⟩,fun e => ?_⟩;obtain⟨h1,h2,h3,h4,h5,h6⟩:=h.2 e;exact⟨h1.keep L,L.hdk h2,h3,(L.oL _ (h1.own G)).1.trans h4,h5,fun i hi=>(h1.lk G L (List.mem_range.2 (by omega))).trans (h6 i hi)⟩
 case h_28 =>
  obtain⟨h1,h2,h3,h4,h6⟩:=h;exact⟨h1.keep L,L.hdk h2,h3,(L.oL _ (h1.own G)).1.trans h4,fun i hi=>(h1.lk G L (List.mem_range.2 (by omega))).trans (h6 i hi)⟩
 case h_29=>exact⟨h.1.keep L,h.2⟩
 case h_30=>exact⟨h.1.keep L,h.2.1,h.2.2.1,ZxL h.2.2.2 (L.hd k).1⟩
 case h_31 =>
  obtain⟨h1,h2,h3,h4,h5⟩:=h;exact⟨h1.keep L,h2,h3,h4,h5.keep L fun e1 e2 h=>by rw[zl e1 e2,e1,e2];exact h⟩
 case h_32 =>
  obtain⟨h1,h2,h3,h4,h5⟩:=h;exact⟨h1.keep L,h2,h3,(h1.lk G L (by simp)).trans h4,h5.keep L fun e1 e2 h=>by rw[zl e1 e2,e1,e2];exact h⟩
 case h_33=>exact⟨h.1.keep L,h.2⟩
 case h_34=>exact⟨h.1.keep L,h.2⟩
 case h_35=>exact⟨h.1.keep L,h.2⟩
 case h_36 =>
  obtain⟨h1,h2,h3,h4,h5,h6⟩:=h;exact⟨h1.keep L,h2,h3,h4,h5,(h1.lk G L (by simp)).trans h6⟩
 case h_37 =>
  obtain⟨h1,h2,h3,h4,h5,h6⟩:=h;exact⟨h1.keep L,h2,h3,h4,h5,(h1.lk G L (by simp)).trans h6⟩
 case h_38 =>
  obtain⟨h1,h2,h3,h4,h5,h6⟩:=h;exact⟨h1.keep L,h2,h3,h4,h5,(h1.lk G L (by simp)).trans h6⟩
 case h_39 =>
  obtain⟨h1,h2,h3,h4,h5,h6,h7⟩:=h;exact⟨h1.keep L,h2,h3,h4,h5,(h1.lk G L (by simp)).trans h6,h7.keep G L⟩
 case h_40=>exact⟨h.1.keep L,h.2.1,h.2.2.1,h.2.2.2.keep G L⟩
 case h_41 =>
  obtain⟨h1,h2,h3,h4,h5,h6⟩:=h;have hs:st'.own (sn t) = .shelf:=by rw[← G'.sm _ rfl,ny L h6.hold,G.sm _ rfl];exact h3
  exact⟨h1.keep L,h2,hs,h4.keep G' L (.inr ⟨h6.hold,h3⟩),h5.keep G' L h4 (.inr ⟨h6.hold,h3⟩),h6.keep G L⟩
 case h_42=>exact⟨h.1.keep L,h.2.keep G L⟩
 case h_43=>exact⟨h.1.keep L,h.2.1,h.2.2.keep (h.1.own G) L⟩
 case h_44=>exact⟨h.1.keep L,h.2.1,h.2.2.1.keep (h.1.own G) L,ZxL h.2.2.2 (L.pt k).1⟩
 case h_45 =>
  obtain⟨h1,h2,h3,h4,h5⟩:=h;exact⟨h1.keep L,h2,h3.keep (h1.own G) L,h4,h5.keep L fun e h=>by rw[e];exact h⟩
 case h_46 =>
  obtain⟨h1,h2,h3,h4,h5,h6⟩:=h;exact⟨h1.keep L,h2,h3.keep (h1.own G) L,h4,h5.keep L (fun e h=>by rw[e];exact h),(L.oL _ (h1.own G)).2.2.trans h6⟩
 case h_47 =>
  obtain⟨h1,h2,h3,h4,h5,h6⟩:=h;have hs:st'.own (sn t) = .shelf:=by rw[← G'.sm _ rfl,ny L h6.hold,G.sm _ rfl];exact h3
  exact⟨h1.keep L,h2,hs,h4.keep G' L (.inr ⟨h6.hold,h3⟩),h5.keep G' L h4 (.inr ⟨h6.hold,h3⟩),h6.keep G L⟩
 case h_48 =>
  obtain⟨h1,h2,h3,h4,h5,h6,h7⟩:=h;have hs:st'.own (sn t) = .shelf:=by rw[← G'.sm _ rfl,ny L h6.hold,G.sm _ rfl];exact h3
  exact⟨h1.keep L,h2,hs,h4.keep G' L (.inr ⟨h6.hold,h3⟩),h5.keep G' L h4 (.inr ⟨h6.hold,h3⟩),h6.keep G L,by rw[ny L h6.hold];exact h7⟩
 case h_49 =>
  obtain⟨h1,h2,h3,h4,h5,h6,h7⟩:=h;have hs:st'.own (sn t) = .shelf:=by rw[← G'.sm _ rfl,ny L h6.hold,G.sm _ rfl];exact h3
  exact⟨h1.keep L,h2,hs,h4.keep G' L (.inr ⟨h6.hold,h3⟩),h5.keep G' L h4 (.inr ⟨h6.hold,h3⟩),h6.keep G L,by rw[ny L h6.hold];exact h7⟩
 case h_50 =>
  obtain⟨h1,h2,h3,h4,h5,h6,h7⟩:=h;have hs:st'.own (sn t) = .shelf:=by rw[← G'.sm _ rfl,ny L h6.hold,G.sm _ rfl];exact h3
  exact⟨h1.keep L,h2,hs,h4.keep G' L (.inr ⟨h6.hold,h3⟩),h5.keep G' L h4 (.inr ⟨h6.hold,h3⟩),h6.keep G L,by rw[ny L h6.hold];exact h7⟩
 case h_51 =>
  obtain⟨h1,h2,h3,h4,h5,h6⟩:=h;have ho:=h1.own G;exact⟨h1.keep L,h2,h3.keep ho L,h4.keep G' L (.inl ho),h5.keep G' L h4 (.inl ho),h6.keep G L⟩
 case h_52=>exact⟨h.1.keep L,h.2⟩
 case h_53=>exact⟨h.1.keep L,h.2.1,ZxL h.2.2 (L.hd _).1⟩
 case h_54 =>
  obtain⟨h1,h2,h3,h4,h5⟩:=h;exact⟨h1.keep L,h2,h3,h4,h5.keep L fun e1 e2 h=>by rw[zl e1 e2,e1,e2];exact h⟩
 case h_55=>exact⟨h.1.keep L,h.2⟩
 case h_56=>exact⟨h.1.keep L,h.2.1,ZxL h.2.2 (L.pt _).1⟩
 case h_57 =>
  obtain⟨h1,h2,h3,h4⟩:=h;exact⟨h1.keep L,h2,h3,h4.keep L fun e h=>by rw[e];exact h⟩
 case h_58 =>
  obtain⟨ch,h1,h2⟩:=h;exact⟨ch,h1.keep L,h2⟩
 case h_59 =>
  obtain⟨l,ch,h1,h2,h3,h4,h5,h6,h7⟩:=h;exact⟨l,ch,h1.keep L,h2,h3.keep (h1.own G) L,h4,h5,h6,h1.gy G L (fun _ h=>h) h7⟩
 case h_60 =>
  obtain⟨l,ch,h1,h2,h3,h5,h6,h7,h8,h9⟩:=h;exact⟨l,ch,h1.keep L,h2,h3.keep (h1.own G) L,h5,h6,h1.gy G L (fun _ h=>h) h7,h8.keep G L,h9⟩
 case h_61 =>
  obtain⟨l,ch,h1,h2,h3,h5,h6,⟨e,h7⟩,h8,h9⟩:=h;exact⟨l,ch,h1.keep L,h2,h3.keep (h1.own G) L,h5,h6,⟨e,h1.gy G L (fun _ h=>h) h7⟩,h8.keep G L,h9⟩
 case h_62 =>
  obtain⟨l,ch,h1,h2,h3,h5,h6,⟨e,h7⟩,h8,h9⟩:=h;exact⟨l,ch,h1.keep L,h2,h3.keep (h1.own G) L,h5,h6,⟨e,h1.gy G L (fun _ h=>h) h7⟩,h8.keep G L,h9⟩
 case h_63 =>
  obtain⟨l,ch,h1,h2,h3,h5,h6,⟨e,h7⟩,h8,h9⟩:=h;exact⟨l,ch,h1.keep L,h2,h3.keep (h1.own G) L,h5,h6,⟨e,h1.gy G L (fun _ h=>h) h7⟩,h8.keep G L,h9⟩
 case h_64 =>
  obtain⟨l,ch,h1,h2,h3,h5,h6,h7,h8,h9⟩:=h;exact⟨l,ch,h1.keep L,h2,h3.keep (h1.own G) L,h5,h6,h1.gy G L (fun _ h=>h) h7,h8.keep G L,h9⟩
 case h_65 =>
  obtain⟨ch,h1,h2,h3,h4,h5,h6,h7⟩:=h;have ho:=h1.own G;exact⟨ch,h1.keep L,h2,h3.keep ho L,h4.keep G' L (.inl ho),h5.keep G' L h4 (.inl ho),h6.keep G L,h7⟩
 case h_66 =>
  obtain⟨ch,h1,h2,h3,h4,h5,h6,h7⟩:=h;have ho:=h1.own G;obtain⟨⟨l,e1⟩,e2⟩:=L.fst (sn t) (.inl ho);refine⟨ch,h1.keep L,h2,h3.keep ho L,?_,fun e => ?_,h6.keep G L,h7⟩
  ·rw[e1]
   exact fun e=>h4 (List.append_eq_nil_iff.1 e).2
  ·rw[ny L h6.hold]
   exact h5 (e2 h3.2 e)
 case h_67 =>
  obtain⟨ch,h1,h2,h3,h4,h5,h6,h7,h8⟩:=h;have ho:=h1.own G;obtain⟨⟨l,e1⟩,e2⟩:=L.fst (sn t) (.inl ho);refine⟨ch,h1.keep L,h2,h3.keep ho L,?_,fun e => ?_,h6.keep G L,h7,?_⟩
  ·rw[e1]
   exact fun e=>h4 (List.append_eq_nil_iff.1 e).2
  ·rw[ny L h6.hold]
   exact h5 (e2 h3.2 e)
  ·rw[ny L h6.hold]
   exact h8
 case h_68 =>
  obtain⟨ch,h1,h2,h3,h4,h5,h6,h7,h8⟩:=h;have ho:=h1.own G;obtain⟨⟨l,e1⟩,e2⟩:=L.fst (sn t) (.inl ho);refine⟨ch,h1.keep L,h2,h3.keep ho L,?_,fun e => ?_,h6.keep G L,h7,?_⟩
  ·rw[e1]
   exact fun e=>h4 (List.append_eq_nil_iff.1 e).2
  ·rw[ny L h6.hold]
   exact h5 (e2 h3.2 e)
  ·rw[ny L h6.hold,(L.oL _ ho).2.2]
   exact h8
 case h_69 =>
  obtain⟨ch,h1,h2,h3⟩:=h;exact⟨ch,h1.keep L,h2.keep G L,h3⟩
 case h_70 =>
  obtain⟨ch,h1,h2,h3⟩:=h;exact⟨ch,h1.keep L,h2.keep G L,h3⟩
 case h_71 =>
  obtain⟨ch,h1,h2,h3,h4,h5,h6,h7⟩:=h;have ho:=h1.own G;exact⟨ch,h1.keep L,h2,h3.keep ho L,h4.keep G' L (.inl ho),h5.keep G' L h4 (.inl ho),h6.keep G L,h7⟩
 case h_72 =>
  obtain⟨l,ch,h1,h2,h3,h4,h5⟩:=h;exact⟨l,ch,h1.keep L,h2,(L.oL _ (h1.own G)).1.trans h3,h4.keep G L,h5⟩
 case h_73 =>
  obtain⟨l,ch,h1,h2,h3,h5⟩:=h;exact⟨l,ch,h1.keep L,h2,(L.oL _ (h1.own G)).1.trans h3,h5⟩
 case h_74=>exact h.keep L
 case h_75=>exact⟨h.1.keep L,h.2.keep G L⟩
 case h_76 =>
  obtain⟨h1,h2,h3,h4⟩:=h;exact⟨h1.keep L,h2.keep G L,h3,by rw[ny L h2.hold];exact h4⟩
 case h_77 =>
  obtain⟨h1,h2,h3,h4⟩:=h;exact⟨h1.keep L,h2.keep G L,h3,by rw[ny L h2.hold];exact h4⟩
 case h_78=>exact⟨h.1.keep L,h.2.keep G L⟩
 case h_79 =>
  obtain⟨h1,h2,h3,⟨p,q,h4⟩,h5,h6⟩:=h;have hs:=yh G h4.1;exact⟨h1.keep L,h2.keep G L,h3,⟨p,q,by rw[ny L h2.hold];exact h4⟩,h5.keep G' L (.inr ⟨h2.hold,hs⟩),Zrw G' L h6 h5 (.inr ⟨h2.hold,hs⟩)⟩
 case h_80 =>
  obtain⟨h1,h2,h3,⟨p,q,h4⟩,h5,h6⟩:=h;have hs:=yh G h4.1;exact⟨h1.keep L,h2.keep G L,h3,⟨p,q,by rw[ny L h2.hold];exact h4⟩,h5.keep G' L (.inr ⟨h2.hold,hs⟩),h6.keep G' L h5 (.inr ⟨h2.hold,hs⟩)⟩
 case h_81 =>
  obtain⟨h1,h2,h3,⟨p,q,h4⟩,h5,h6⟩:=h;have hs:=yh G h4.1;exact⟨h1.keep L,h2.keep G L,h3,⟨p,q,by rw[ny L h2.hold];exact h4⟩,h5.keep G' L (.inr ⟨h2.hold,hs⟩),h6.keep G' L h5 (.inr ⟨h2.hold,hs⟩)⟩
 case h_82 =>
  obtain⟨h1,h2,h3,h4,h5,h6⟩:=h;have ho:=h1.own G;exact⟨h1.keep L,h2,h3.keep ho L,h4.keep G' L (.inl ho),h5.keep G' L h4 (.inl ho),h6.keep G L⟩
 case h_83=>exact h.elim
theorem Loc.keep (G:dH c mn cp st)(G':dH c mn cp st')(L:Left c k st st')(h:Loc c mn cp st k t):Loc c mn cp st' k t:=⟨h.aB,h.fin,h.job,h.want,h.w78,h.at_.keep G G' L⟩
end
end Cv
end Go.Proofs.YtfcpdlbkmkhhcaaGreatDoor
