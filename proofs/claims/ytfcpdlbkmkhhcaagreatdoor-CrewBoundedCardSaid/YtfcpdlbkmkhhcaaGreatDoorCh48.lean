/-
  Texts of this claim, joined. No condition.
-/
import Derived.Test.YtfcpdlbkmkhhcaaGreatDoorCh1
import Derived.Test.YtfcpdlbkmkhhcaaGreatDoorCh12
import Derived.Test.YtfcpdlbkmkhhcaaGreatDoorCh14
namespace Go.Proofs.YtfcpdlbkmkhhcaaGreatDoor
set_option maxRecDepth 100000
set_option maxHeartbeats 40000000
section
open Go.ChangeShapes Go.WideShapes Go.ChangeAt Go.RowKit
section
variable {H:Type}{enc:TypeId×Value→H}{P:Program}{w:World}{base:Nat}{spare:Nat→Bool}{held:Bool}
theorem YD {t e:TypeId}{fuel:Nat}{cs:List Value}{x:DataW H×List MemPlace}(ht:P.underlying t=some (.slice e))(iT:Gh P 4 e=some [some .i64])(hce:P.cellsOf e=1)(h:DataW.trod enc P w base spare held fuel t cs=some x)(aK:∀ z∈x.2,z.block<w.heap.size) :
 ∃ (v:Value) (l:List Int),cs=[v]∧jP w v l∧∀ j∈l,(Lit.int .i64 j).wf=true:=by
 have jK:∃ v:Value,cs=[v]∧v.cells.toList=[v]:=by
  rcases Deep.open_slice ht h with⟨h0,_⟩|⟨a,len,cap,m,n',D,Pl,hcs,_⟩
  ·exact⟨_,h0,rfl⟩
  ·exact⟨_,hcs,rfl⟩
 obtain⟨v,rfl,hv⟩:=jK;have hT:DataW.Trod enc P w base spare held t v x.1 x.2:=⟨fuel,by rw[hv];exact h⟩;rcases ZgY 4 ht iT hv hT aK (by rw[hce];omega) with rfl|⟨a,len,cap,rfl,hl,hm,hb,hc⟩
 ·exact⟨_,[],rfl,⟨rfl,.inl ⟨rfl,rfl⟩⟩,fun j hj=>by cases hj⟩
 ·have key:∀ i,i<len→∃ n:Int,w.cell? (a.add i)=some (.int .i64 n)∧(Lit.int .i64 n).wf=true:=fun i hi=>by
   obtain⟨u,hu,n,rfl,hn⟩:=hc i hi 0 _ rfl;rw[hce,Nat.mul_one,Nat.add_zero]at hu;exact⟨n,hu,hn⟩
  have jI:∀ k,k≤len→∃ l:List Int,l.length=k∧∀ j n,l[j]?=some n→w.cell? (a.add j)=some (.int .i64 n)∧(Lit.int .i64 n).wf=true:=by
   intro k
   induction k with
   |zero=>exact fun _=>⟨[],rfl,fun j n h=>by simp at h⟩
   |succ k ih =>
    intro hk;obtain⟨l,h1,h2⟩:=ih (by omega);obtain⟨n,h3,h4⟩:=key k (by omega);refine⟨l++[n],by simp[h1],fun j z hz => ?_⟩;rw[List.getElem?_append]at hz;split at hz
    ·exact h2 j z hz
    ·rename_i hj
     rw[List.getElem?_singleton]at hz;split at hz
     ·cases hz
      have:j=k:=(by omega);subst this;exact⟨h3,h4⟩
     ·cases hz
  obtain⟨l,h1,h2⟩:=jI len (Zxt _);subst h1;refine⟨_,l,rfl,⟨by rw[ZoU,Nat.mul_one],.inr ⟨a,cap,rfl,fun j u hj => ?_⟩⟩,fun j hj => ?_⟩
  ·unfold ints at hj
   rw[List.getElem?_map]at hj;cases hn:l[j]? with
   |none=>rw[hn]at hj;cases hj
   |some n =>
    rw[hn]at hj;cases hj;exact(h2 j n hn).1
  ·obtain⟨i,hi,rfl⟩:=List.getElem_of_mem hj
   exact(h2 i _ (Zxp hi)).2
end
section
variable {H:Type}{enc:TypeId×Value→H}{w:World}{base:Nat}{spare:Nat→Bool}{held:Bool}
theorem ZY {fuel:Nat}{cs:Array Value}{x:DataW H×List MemPlace}(h:DataW.trod enc Tryz.prog w base spare held fuel 27 cs.toList=some x)(Rj:cs.size=8)(aK:∀ z∈x.2,z.block<w.heap.size) :
 ∃ (a0 a1 a2 a3 a4:Int) (key:Nat) (jv qv:Value) (aj picks:List Int),cs=#[.int .i64 a0,.int .i64 a1,.int .i64 a2,.int .i64 a3,.int .i64 a4,.int .u64 (key:Int),jv,qv]∧(Lit.int .i64 a0).wf=true∧(Lit.int .i64 a1).wf=true∧(Lit.int .i64 a2).wf=true∧(Lit.int .i64 a3).wf=true∧(Lit.int .i64 a4).wf=true∧key<18446744073709551616 ∧
  jP w jv aj∧(∀ j∈aj,(Lit.int .i64 j).wf=true)∧jP w qv picks∧∀ j∈picks,(Lit.int .i64 j).wf=true:=by
 obtain⟨xs,n,_,hx,hlen,Kj,Ig⟩:=DataW.trod_struct Tryz.underlying27 h;have sj:∀ (i:Nat) y,xs[i]?=some y→∀ z∈y.2,z.block<w.heap.size:=fun i y hi z hz=>aK z (by
  have:x.2=xs.flatMap (·.2):=congrArg Prod.snd hx;rw[this,List.mem_flatMap];exact⟨y,Zxz hi,hz⟩)
 have get:∀ i,i<3→∃ y,xs[i]?=some y:=fun i hi=>by
  have:xs.length=3:=by rw[Kj];kernel_rfl
  exact⟨_,Zxp (by omega)⟩
 obtain⟨y0,g0⟩:=get 0 (by omega);obtain⟨y1,g1⟩:=get 1 (by omega);obtain⟨y2,g2⟩:=get 2 (by omega);have gM:=PN n 4 24 _ _ [some .i64,some .i64,some .i64,some .i64,some .i64,some .u64] ((Ig 0 _ rfl).trans g0) (by kernel_rfl);have ch:∀ i k,[some IntKind.i64,some .i64,some .i64,some .i64,some .i64,some .u64][i]?=some k→∃ v,cs[i]?=some v∧CellIs k v:=fun i k hk=>by
  obtain⟨v,h1,h2⟩:=gM i k hk;refine⟨v,?_,h2⟩;have hi:i<6:=(List.getElem?_eq_some_iff.1 hk).1;have h3:((cs.toList.drop 0).take 6)[i]?=some v:=h1;rw[List.getElem?_take,if_pos hi,List.drop_zero]at h3;simpa using h3
 obtain⟨v0,c0,a0,rfl,w0⟩:=ch 0 _ rfl;obtain⟨v1,c1,a1,rfl,w1⟩:=ch 1 _ rfl;obtain⟨v2,c2,a2,rfl,w2⟩:=ch 2 _ rfl;obtain⟨v3,c3,a3,rfl,w3⟩:=ch 3 _ rfl;obtain⟨v4,c4,a4,rfl,w4⟩:=ch 4 _ rfl;obtain⟨v5,c5,ky,rfl,w5⟩:=ch 5 _ rfl;have tk:∀ (i:Nat) (v:Value),(cs.toList.drop i).take 1=[v]→cs[i]?=some v:=fun i v h=>by
  have:((cs.toList.drop i).take 1)[0]?=some v:=by rw[h];rfl
  rw[List.getElem?_take,if_pos (by omega),List.getElem?_drop]at this;simpa using this
 obtain⟨jv,aj,e1,s1,f1⟩:=YD Tryz.underlying25 (by kernel_rfl) (by kernel_rfl) ((Ig 1 _ rfl).trans g1) (sj 1 _ g1);obtain⟨qv,picks,e2,s2,f2⟩:=YD Tryz.underlying25 (by kernel_rfl) (by kernel_rfl) ((Ig 2 _ rfl).trans g2) (sj 2 _ g2);have hky:0≤ky∧ky<18446744073709551616:=by
  simp[Lit.wf,IntKind.min,IntKind.max,IntKind.signed,IntKind.bits]at w5;omega
 refine⟨a0,a1,a2,a3,a4,ky.toNat,jv,qv,aj,picks,?_,w0,w1,w2,w3,w4,by omega,s1,f1,s2,f2⟩;rw[show((ky.toNat:Nat):Int)=ky by omega];apply Array.ext_getElem?;intro i
 match i with
 |0=>rw[c0];rfl
 |1=>rw[c1];rfl
 |2=>rw[c2];rfl
 |3=>rw[c3];rfl
 |4=>rw[c4];rfl
 |5=>rw[c5];rfl
 |6=>rw[tk 6 _ e1];rfl
 |7=>rw[tk 7 _ e2];rfl
 |i+8=>rw[Zx1 (by omega)];rfl
end
end
end Go.Proofs.YtfcpdlbkmkhhcaaGreatDoor
