/-
  CrewBounded, as a tied card: crewBounded.card_holds. No condition.
-/
import Derived.Test.YtfcpdlbkmkhhcaaGreatDoorCh1
import Derived.Test.YtfcpdlbkmkhhcaaGreatDoorCh47
import Derived.Test.YtfcpdlbkmkhhcaaGreatDoorCh48
import Derived.Test.YtfcpdlbkmkhhcaaGreatDoorCh10
import Derived.Test.YtfcpdlbkmkhhcaaGreatDoorTie
import Derived.Test.YtfcpdlbkmkhhcaaGreatDoorCards
import Derived.SevenTiedAt
import Derived.LaidLaws
namespace Go.Proofs.YtfcpdlbkmkhhcaaGreatDoor.crewBounded
open Go.ChangeShapes Go.WideShapes Go.ChangeAt Go.RowKit
set_option maxRecDepth 100000 in
set_option maxHeartbeats 1000000 in
theorem lifted (os:Os)(started:os.Started)(H:Type)(enc:TypeId×Value→H) :
 ReturnsInHanded {} Tryz.checked os 5 .any (fun w args => (Rows.crewBoundedSpec.pre enc Tryz.prog Tryz.f5 Rows.crewBoundedRow.domain false w args ∧ laidMetH Tryz.prog [("wainscot/fill.goesOn", Rows.laid_wainscot_fill_goesOn)] w) ∧ sizedMet enc Tryz.prog Tryz.f5 (OpenSpec.ofChange Rows.crewBoundedSpec) false w args) (Rows.crewBoundedSpec.post enc Tryz.prog Tryz.f5 false true false false) := by
 refine returnsInHanded_of_change_and (C := Tryz.checked) (X := fun w _ => laidMetH Tryz.prog [("wainscot/fill.goesOn", Rows.laid_wainscot_fill_goesOn)] w) (fun _ _ _ hh h => h.of_heap hh) Tryz.own started (by kernel_rfl) Tryz.func5
  (ChangeSpec.witness_shaped (enc := enc) (C := Tryz.checked) (os := os) (X := fun w _ => laidMetH Tryz.prog [("wainscot/fill.goesOn", Rows.laid_wainscot_fill_goesOn)] w) false (World.doorLaid Tryz.prog 400 os) #[.agg #[.int .i64 0, .int .i64 0, .int .i64 0, .int .i64 0, .int .i64 0, .int .u64 0, .slice none 0 0, .slice none 0 0]] 8 rfl (World.shaped_of_RefB (by kernel_rfl) (by kernel_rfl)) (by kernel_rfl) (by kernel_rfl) (by kernel_rfl) (aJ.ZoC os _)) ?_
 intro W base args ds gs before AP hW _ _ zY _;have hg:=aJ.Zq3 zY;have hval:∀ (j:Nat) t v,Tryz.f5.params[j]?=some t→args[j]?=some v→Value.okWide Tryz.prog W .any base t v:=AP;have hW':=hW;obtain⟨p,q,VH,hV,rfl,bT,jZ⟩:=hW;have hA:DataW.TrodAll enc Tryz.prog W 0 (fun _=>true) true Tryz.f5.params.toList args.toList ds p:=VH;rw[Tryz.params5]at hA hval;obtain⟨v0,vs0,d0,ds0,p0,q0,bJ,rfl,rfl,h0,r0⟩:=trodAll_cons hA;obtain⟨rfl,rfl,rfl⟩:=trodAll_nil r0;obtain rfl:args=#[v0]:=by cases args;simp_all
 obtain⟨rfl,rfl⟩:=trodVars_none hV;obtain⟨cs,rfl,hcs⟩:=Zp3 (by kernel_rfl) (hval 0 _ _ rfl rfl);obtain⟨fuel,hf⟩:=h0;have Rj:cs.size=8:=by rw[hcs];kernel_rfl
 obtain⟨a0,a1,a2,a3,a4,key,jv,qv,aj,picks,rfl,w0,w1,w2,w3,w4,aV,s1,f1,s2,f2⟩:=ZY hf Rj (fun z hz=>hW'.lt z (by simp[hz]));have hc:Calls Tryz.prog 5 #[.agg #[.int .i64 a0,.int .i64 a1,.int .i64 a2,.int .i64 a3,.int .i64 a4,.int .u64 (key:Int),jv,qv]] W fun e w'=>e = .returned (.bool true)∧Own W [] w':=by
  exact Cw.ZwV hg s1 s2 f1 f2 aV w0 w1 w2 w3 w4
 exact hc.mono fun e W' ⟨he,hO⟩=>⟨_,he,ZoZ Tryz.laidOut Tryz.underlying4 rfl rfl (by intro t ht;simp[Tryz.params5]at ht;subst ht;exact⟨by kernel_rfl,Zx6 (by kernel_rfl)⟩) hW' rfl hO.below⟩
theorem holds:Rows.CrewBoundedSaid :=
 OpenClaim.holds_of_wide 5 Tryz.f5 rfl rfl rfl rfl rfl rfl rfl ⟨rfl,rfl,rfl,rfl,rfl⟩ rfl rfl rfl rfl rfl (by kernel_rfl) Tryz.func5 (by kernel_rfl)
  (Zx6 (by kernel_rfl)) (by unfold Func.isWrapper;first|(rw[if_pos (by decide +kernel)];kernel_rfl)|(rw[if_neg (by decide +kernel)];exact⟨rfl,rfl⟩))
  (fun os started H enc _=>lifted os started H enc)
theorem card_holds:Rows.CrewBoundedCardSaid :=
 Claim7.holds_tied_plain_at .later [] [.data] true Rows.crewBoundedCard.stood.harness Rows.crewBoundedCard.stood.looks
  holds (fun _ h=>by cases h) (by kernel_rfl) (fun _ h=>by cases h) crewBounded_row_tie rfl ⟨rfl,rfl⟩ (by kernel_rfl) (by kernel_rfl)
  (fun f fn hf Nr=>by
    obtain rfl : f = 5 := ZxZ ((show Tryz.prog.funcNamed "wainscot/wainscotlaw26.CrewBounded" = some 5 by kernel_rfl).symm.trans hf) |>.symm
    obtain rfl:fn=Tryz.f5:=(ZxZ (Tryz.func5.symm.trans Nr)).symm;exact⟨by kernel_rfl,fun j t ht=>by
     have hm:t∈Tryz.f5.params.toList:=(by simpa using Array.mem_of_getElem? ht);have hall:(Tryz.f5.params.toList.all fun u => !Tryz.prog.wantsStandIn u)=true:=(by kernel_rfl);exact(show Tryz.prog.wantsStandIn t=false by simpa using List.all_eq_true.1 hall t hm)⟩)
  (by kernel_rfl)
end Go.Proofs.YtfcpdlbkmkhhcaaGreatDoor.crewBounded
