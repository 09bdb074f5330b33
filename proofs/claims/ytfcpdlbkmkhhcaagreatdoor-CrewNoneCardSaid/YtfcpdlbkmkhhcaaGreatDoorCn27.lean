/-
  Texts of this claim, joined. No condition.
-/
import Derived.Test.YtfcpdlbkmkhhcaaGreatDoorCn26
namespace Go.Proofs.YtfcpdlbkmkhhcaaGreatDoor.Cv
open See Cw
section
variable {c:Ch}{mn cp:Nat}{st st':St}{k:Nat}{t:Tk}
set_option maxHeartbeats 1000000 in
theorem At.keep (G:Zbc c mn cp st)(G':Zbc c mn cp st')(L:Left c k st st')(h:At c mn cp st k t):At c mn cp st' k t:=by
 unfold At at h ⊢
 split at h
 case h_1=>exact h.keep L
 case h_2=>exact ⟨h.1.keep L,Nat.le_trans h.2 (L.hd k).1⟩
 case h_3 =>
  obtain ⟨h1,h2,h3,h4⟩:=h
  exact ⟨h1.keep L,h2,h3,h4.keep L fun e1 e2 h=>by rw [ZbX e1 e2,e1,e2]; exact h⟩
 case h_4 =>
  obtain ⟨h1,h2,h3,h4,h5⟩:=h
  exact ⟨h1.keep L,h2,h3,h4,h5.keep L fun e1 e2 h=>by rw [ZbX e1 e2,e1,e2]; exact h⟩
 case h_5 =>
  obtain ⟨h1,h2,h3⟩:=h
  exact ⟨h1.keep L,h2,h3.keep L fun e1 e2 h=>by rw [ZbX e1 e2,e1,e2]; exact h⟩
 case h_6 =>
  obtain ⟨h1,h2,h3,h4⟩:=h
  exact ⟨h1.keep L,h2,h3.keep (h1.own G) L,L.hdk h4⟩
 case h_7 =>
  obtain ⟨h1,h2,h3,h4,h5⟩:=h
  exact ⟨h1.keep L,h2,h3.keep (h1.own G) L,L.hdk h4,h5⟩
 case h_8 =>
  obtain ⟨h1,h2,h3,h4,h5⟩:=h
  exact ⟨h1.keep L,h2,h3.keep (h1.own G) L,L.hdk h4,h5⟩
 case h_9 =>
  obtain ⟨h1,h2,h3,h4,h5⟩:=h
  exact ⟨h1.keep L,h2,h3.keep (h1.own G) L,L.hdk h4,h5⟩
 case h_10=>exact ⟨h.1.keep L,L.hdk h.2⟩
 case h_11=>exact ⟨h.1.keep L,L.hdk h.2.1,Nat.le_trans h.2.2 (L.pt k).1⟩
 case h_12 =>
  obtain ⟨h1,h2,h3,h4⟩:=h
  exact ⟨h1.keep L,L.hdk h2,h3,h4.keep L fun e h=>by rw [e]; exact h⟩
 case h_13 =>
  obtain ⟨h1,h2,h3,h4,h5⟩:=h
  exact ⟨h1.keep L,L.hdk h2,h3,h4,h5.keep L fun e h=>by rw [e]; exact h⟩
 case h_14=>exact ⟨h.1.keep L,L.hdk h.2⟩
 case h_15=>exact ⟨h.1.keep L,L.hdk h.2.1,h.2.2.keep G L⟩
 case h_16=>exact ⟨h.1.keep L,L.hdk h.2.1,h.2.2.keep G L⟩
 case h_17 =>
  obtain ⟨h1,h2,h3,h4,h5⟩:=h
  exact ⟨h1.keep L,L.hdk h2,h3.keep G L,h4,by rw [Zaw L h3.hold]; exact h5⟩
 case h_18 =>
  obtain ⟨h1,h2,h3,h4,h5,h6⟩:=h
  exact ⟨h1.keep L,L.hdk h2,h3.keep G L,h4,by rw [Zaw L h3.hold]; exact h5,h6⟩
 case h_19 =>
  obtain ⟨h1,h2,h3,h4,h5,h6⟩:=h
  exact ⟨h1.keep L,L.hdk h2,h3.keep G L,h4,by rw [Zaw L h3.hold]; exact h5,h6⟩
 case h_20 =>
  obtain ⟨⟨l,h1,h2⟩,h3,h4,h5,h6,⟨r,h7⟩,h8⟩:=h
  have ho:=Zbo (p:=[]) G h7
  have hl:=(L.lock h6.hold).2.2.2.2 _ ho
  exact ⟨⟨l,h1.keep L,h1.lkd G L (fun _ h=>h) h2⟩,L.hdk h3,h4,h5,h6.keep G L,⟨r,by rw [Zaw L h6.hold]; exact h7⟩,hl.2.1.trans h8.1,hl.2.2.trans h8.2⟩
 case h_21 =>
  obtain ⟨⟨l,h1,h2⟩,h3,h4,h5,h6,⟨r,h7,h9⟩,h8⟩:=h
  have ho:=Zbo (p:=[]) G h7
  have hl:=(L.lock h6.hold).2.2.2.2 _ ho
  exact ⟨⟨l,h1.keep L,h1.lkd G L (fun _ h=>h) h2⟩,L.hdk h3,h4,h5,h6.keep G L,⟨r,by rw [Zaw L h6.hold]; exact h7,h9⟩,hl.2.1.trans h8.1,hl.2.2.trans h8.2⟩
 case h_22 =>
  obtain ⟨⟨l,h1,h2⟩,h3,h4,h5,h6,h8⟩:=h
  exact ⟨⟨l,h1.keep L,h1.lkd G L (fun _ h=>h) h2⟩,L.hdk h3,h4,h5,h6.keep G L,h8.keep (h1.own G) L⟩
 case h_23 =>
  obtain ⟨⟨l,h1,h2⟩,h3,h4,h5,h6,h8⟩:=h
  exact ⟨⟨l,h1.keep L,h1.lkd G L (fun _ h=>h) h2⟩,L.hdk h3,h4,h5,h6.keep G L,h8.keep (h1.own G) L⟩
 case h_24 =>
  obtain ⟨⟨l,h1,h2⟩,h3,h4,h5,h8⟩:=h
  exact ⟨⟨l,h1.keep L,h1.lkd G L (fun _ h=>h) h2⟩,L.hdk h3,h4,h5,h8.keep (h1.own G) L⟩
 case h_25 =>
  obtain ⟨⟨l,h1,h2,h9⟩,h3,h4,h5,h8⟩:=h
  exact ⟨⟨l,h1.keep L,h1.lkd G L (fun _ h=>h) h2,h9⟩,L.hdk h3,h4,h5,h8.keep (h1.own G) L⟩
 case h_26 =>
  obtain ⟨⟨l,h1,h2,h9⟩,h3,h4,h5,h8,h10⟩:=h
  exact ⟨⟨l,h1.keep L,h1.lkd G L (fun _ h=>h) h2,h9⟩,L.hdk h3,h4,h5,h8.keep (h1.own G) L,Nat.le_trans h10 (L.hd k).1⟩
 case h_27 =>
  refine ⟨fun e=>⟨(h.1 e).1.keep L,L.hdk (h.1 e).2⟩,fun e => ?_⟩
  obtain ⟨h1,h2,h3,h4,h5,h6⟩:=h.2 e
  exact ⟨h1.keep L,L.hdk h2,h3,(L.flg _ (h1.own G)).1.trans h4,h5,fun i hi=>(h1.lk G L (List.mem_range.2 (by omega))).trans (h6 i hi)⟩
 case h_28 =>
  obtain ⟨h1,h2,h3,h4,h6⟩:=h
  exact ⟨h1.keep L,L.hdk h2,h3,(L.flg _ (h1.own G)).1.trans h4,fun i hi=>(h1.lk G L (List.mem_range.2 (by omega))).trans (h6 i hi)⟩
 case h_29=>exact ⟨h.1.keep L,h.2⟩
 case h_30=>exact ⟨h.1.keep L,h.2.1,h.2.2.1,Nat.le_trans h.2.2.2 (L.hd k).1⟩
 case h_31 =>
  obtain ⟨h1,h2,h3,h4,h5⟩:=h
  exact ⟨h1.keep L,h2,h3,h4,h5.keep L fun e1 e2 h=>by rw [ZbX e1 e2,e1,e2]; exact h⟩
 case h_32 =>
  obtain ⟨h1,h2,h3,h4,h5⟩:=h
  exact ⟨h1.keep L,h2,h3,(h1.lk G L (by simp)).trans h4,h5.keep L fun e1 e2 h=>by rw [ZbX e1 e2,e1,e2]; exact h⟩
 case h_33=>exact ⟨h.1.keep L,h.2⟩
 case h_34=>exact ⟨h.1.keep L,h.2⟩
 case h_35=>exact ⟨h.1.keep L,h.2⟩
 case h_36 =>
  obtain ⟨h1,h2,h3,h4,h5,h6⟩:=h
  exact ⟨h1.keep L,h2,h3,h4,h5,(h1.lk G L (by simp)).trans h6⟩
 case h_37 =>
  obtain ⟨h1,h2,h3,h4,h5,h6⟩:=h
  exact ⟨h1.keep L,h2,h3,h4,h5,(h1.lk G L (by simp)).trans h6⟩
 case h_38 =>
  obtain ⟨h1,h2,h3,h4,h5,h6⟩:=h
  exact ⟨h1.keep L,h2,h3,h4,h5,(h1.lk G L (by simp)).trans h6⟩
 case h_39 =>
  obtain ⟨h1,h2,h3,h4,h5,h6,h7⟩:=h
  exact ⟨h1.keep L,h2,h3,h4,h5,(h1.lk G L (by simp)).trans h6,h7.keep G L⟩
 case h_40=>exact ⟨h.1.keep L,h.2.1,h.2.2.1,h.2.2.2.keep G L⟩
 case h_41 =>
  obtain ⟨h1,h2,h3,h4,h5,h6⟩:=h
  have hs:st'.own (sn t) = .shelf:=by rw [← G'.sm _ rfl,Zaw L h6.hold,G.sm _ rfl]; exact h3
  exact ⟨h1.keep L,h2,hs,h4.keep G' L (.inr ⟨h6.hold,h3⟩),h5.keep G' L h4 (.inr ⟨h6.hold,h3⟩),h6.keep G L⟩
 case h_42=>exact ⟨h.1.keep L,h.2.keep G L⟩
 case h_43=>exact ⟨h.1.keep L,h.2.1,h.2.2.keep (h.1.own G) L⟩
 case h_44=>exact ⟨h.1.keep L,h.2.1,h.2.2.1.keep (h.1.own G) L,Nat.le_trans h.2.2.2 (L.pt k).1⟩
 case h_45 =>
  obtain ⟨h1,h2,h3,h4,h5⟩:=h
  exact ⟨h1.keep L,h2,h3.keep (h1.own G) L,h4,h5.keep L fun e h=>by rw [e]; exact h⟩
 case h_46 =>
  obtain ⟨h1,h2,h3,h4,h5,h6⟩:=h
  exact ⟨h1.keep L,h2,h3.keep (h1.own G) L,h4,h5.keep L (fun e h=>by rw [e]; exact h),(L.flg _ (h1.own G)).2.2.trans h6⟩
 case h_47 =>
  obtain ⟨h1,h2,h3,h4,h5,h6⟩:=h
  have hs:st'.own (sn t) = .shelf:=by rw [← G'.sm _ rfl,Zaw L h6.hold,G.sm _ rfl]; exact h3
  exact ⟨h1.keep L,h2,hs,h4.keep G' L (.inr ⟨h6.hold,h3⟩),h5.keep G' L h4 (.inr ⟨h6.hold,h3⟩),h6.keep G L⟩
 case h_48 =>
  obtain ⟨h1,h2,h3,h4,h5,h6,h7⟩:=h
  have hs:st'.own (sn t) = .shelf:=by rw [← G'.sm _ rfl,Zaw L h6.hold,G.sm _ rfl]; exact h3
  exact ⟨h1.keep L,h2,hs,h4.keep G' L (.inr ⟨h6.hold,h3⟩),h5.keep G' L h4 (.inr ⟨h6.hold,h3⟩),h6.keep G L,by rw [Zaw L h6.hold]; exact h7⟩
 case h_49 =>
  obtain ⟨h1,h2,h3,h4,h5,h6,h7⟩:=h
  have hs:st'.own (sn t) = .shelf:=by rw [← G'.sm _ rfl,Zaw L h6.hold,G.sm _ rfl]; exact h3
  exact ⟨h1.keep L,h2,hs,h4.keep G' L (.inr ⟨h6.hold,h3⟩),h5.keep G' L h4 (.inr ⟨h6.hold,h3⟩),h6.keep G L,by rw [Zaw L h6.hold]; exact h7⟩
 case h_50 =>
  obtain ⟨h1,h2,h3,h4,h5,h6,h7⟩:=h
  have hs:st'.own (sn t) = .shelf:=by rw [← G'.sm _ rfl,Zaw L h6.hold,G.sm _ rfl]; exact h3
  exact ⟨h1.keep L,h2,hs,h4.keep G' L (.inr ⟨h6.hold,h3⟩),h5.keep G' L h4 (.inr ⟨h6.hold,h3⟩),h6.keep G L,by rw [Zaw L h6.hold]; exact h7⟩
 case h_51 =>
  obtain ⟨h1,h2,h3,h4,h5,h6⟩:=h
  have ho:=h1.own G
  exact ⟨h1.keep L,h2,h3.keep ho L,h4.keep G' L (.inl ho),h5.keep G' L h4 (.inl ho),h6.keep G L⟩
 case h_52=>exact ⟨h.1.keep L,h.2⟩
 case h_53=>exact ⟨h.1.keep L,h.2.1,Nat.le_trans h.2.2 (L.hd _).1⟩
 case h_54 =>
  obtain ⟨h1,h2,h3,h4,h5⟩:=h
  exact ⟨h1.keep L,h2,h3,h4,h5.keep L fun e1 e2 h=>by rw [ZbX e1 e2,e1,e2]; exact h⟩
 case h_55=>exact ⟨h.1.keep L,h.2⟩
 case h_56=>exact ⟨h.1.keep L,h.2.1,Nat.le_trans h.2.2 (L.pt _).1⟩
 case h_57 =>
  obtain ⟨h1,h2,h3,h4⟩:=h
  exact ⟨h1.keep L,h2,h3,h4.keep L fun e h=>by rw [e]; exact h⟩
 case h_58 =>
  obtain ⟨ch,h1,h2⟩:=h
  exact ⟨ch,h1.keep L,h2⟩
 case h_59 =>
  obtain ⟨l,ch,h1,h2,h3,h4,h5,h6,h7⟩:=h
  exact ⟨l,ch,h1.keep L,h2,h3.keep (h1.own G) L,h4,h5,h6,h1.lkd G L (fun _ h=>h) h7⟩
 case h_60 =>
  obtain ⟨l,ch,h1,h2,h3,h5,h6,h7,h8,h9⟩:=h
  exact ⟨l,ch,h1.keep L,h2,h3.keep (h1.own G) L,h5,h6,h1.lkd G L (fun _ h=>h) h7,h8.keep G L,h9⟩
 case h_61 =>
  obtain ⟨l,ch,h1,h2,h3,h5,h6,⟨e,h7⟩,h8,h9⟩:=h
  exact ⟨l,ch,h1.keep L,h2,h3.keep (h1.own G) L,h5,h6,⟨e,h1.lkd G L (fun _ h=>h) h7⟩,h8.keep G L,h9⟩
 case h_62 =>
  obtain ⟨l,ch,h1,h2,h3,h5,h6,⟨e,h7⟩,h8,h9⟩:=h
  exact ⟨l,ch,h1.keep L,h2,h3.keep (h1.own G) L,h5,h6,⟨e,h1.lkd G L (fun _ h=>h) h7⟩,h8.keep G L,h9⟩
 case h_63 =>
  obtain ⟨l,ch,h1,h2,h3,h5,h6,⟨e,h7⟩,h8,h9⟩:=h
  exact ⟨l,ch,h1.keep L,h2,h3.keep (h1.own G) L,h5,h6,⟨e,h1.lkd G L (fun _ h=>h) h7⟩,h8.keep G L,h9⟩
 case h_64 =>
  obtain ⟨l,ch,h1,h2,h3,h5,h6,h7,h8,h9⟩:=h
  exact ⟨l,ch,h1.keep L,h2,h3.keep (h1.own G) L,h5,h6,h1.lkd G L (fun _ h=>h) h7,h8.keep G L,h9⟩
 case h_65 =>
  obtain ⟨ch,h1,h2,h3,h4,h5,h6,h7⟩:=h
  have ho:=h1.own G
  exact ⟨ch,h1.keep L,h2,h3.keep ho L,h4.keep G' L (.inl ho),h5.keep G' L h4 (.inl ho),h6.keep G L,h7⟩
 case h_66 =>
  obtain ⟨ch,h1,h2,h3,h4,h5,h6,h7⟩:=h
  have ho:=h1.own G
  obtain ⟨⟨l,e1⟩,e2⟩:=L.fst (sn t) (.inl ho)
  refine ⟨ch,h1.keep L,h2,h3.keep ho L,?_,fun e => ?_,h6.keep G L,h7⟩
  ·rw [e1]
   exact fun e=>h4 (List.append_eq_nil_iff.1 e).2
  ·rw [Zaw L h6.hold]
   exact h5 (e2 h3.2 e)
 case h_67 =>
  obtain ⟨ch,h1,h2,h3,h4,h5,h6,h7,h8⟩:=h
  have ho:=h1.own G
  obtain ⟨⟨l,e1⟩,e2⟩:=L.fst (sn t) (.inl ho)
  refine ⟨ch,h1.keep L,h2,h3.keep ho L,?_,fun e => ?_,h6.keep G L,h7,?_⟩
  ·rw [e1]
   exact fun e=>h4 (List.append_eq_nil_iff.1 e).2
  ·rw [Zaw L h6.hold]
   exact h5 (e2 h3.2 e)
  ·rw [Zaw L h6.hold]
   exact h8
 case h_68 =>
  obtain ⟨ch,h1,h2,h3,h4,h5,h6,h7,h8⟩:=h
  have ho:=h1.own G
  obtain ⟨⟨l,e1⟩,e2⟩:=L.fst (sn t) (.inl ho)
  refine ⟨ch,h1.keep L,h2,h3.keep ho L,?_,fun e => ?_,h6.keep G L,h7,?_⟩
  ·rw [e1]
   exact fun e=>h4 (List.append_eq_nil_iff.1 e).2
  ·rw [Zaw L h6.hold]
   exact h5 (e2 h3.2 e)
  ·rw [Zaw L h6.hold,(L.flg _ ho).2.2]
   exact h8
 case h_69 =>
  obtain ⟨ch,h1,h2,h3⟩:=h
  exact ⟨ch,h1.keep L,h2.keep G L,h3⟩
 case h_70 =>
  obtain ⟨ch,h1,h2,h3⟩:=h
  exact ⟨ch,h1.keep L,h2.keep G L,h3⟩
 case h_71 =>
  obtain ⟨ch,h1,h2,h3,h4,h5,h6,h7⟩:=h
  have ho:=h1.own G
  exact ⟨ch,h1.keep L,h2,h3.keep ho L,h4.keep G' L (.inl ho),h5.keep G' L h4 (.inl ho),h6.keep G L,h7⟩
 case h_72 =>
  obtain ⟨l,ch,h1,h2,h3,h4,h5⟩:=h
  exact ⟨l,ch,h1.keep L,h2,(L.flg _ (h1.own G)).1.trans h3,h4.keep G L,h5⟩
 case h_73 =>
  obtain ⟨l,ch,h1,h2,h3,h5⟩:=h
  exact ⟨l,ch,h1.keep L,h2,(L.flg _ (h1.own G)).1.trans h3,h5⟩
 case h_74=>exact h.keep L
 case h_75=>exact ⟨h.1.keep L,h.2.keep G L⟩
 case h_76 =>
  obtain ⟨h1,h2,h3,h4⟩:=h
  exact ⟨h1.keep L,h2.keep G L,h3,by rw [Zaw L h2.hold]; exact h4⟩
 case h_77 =>
  obtain ⟨h1,h2,h3,h4⟩:=h
  exact ⟨h1.keep L,h2.keep G L,h3,by rw [Zaw L h2.hold]; exact h4⟩
 case h_78=>exact ⟨h.1.keep L,h.2.keep G L⟩
 case h_79 =>
  obtain ⟨h1,h2,h3,⟨p,q,h4⟩,h5,h6⟩:=h
  have hs:=Zbo G h4.1
  exact ⟨h1.keep L,h2.keep G L,h3,⟨p,q,by rw [Zaw L h2.hold]; exact h4⟩,h5.keep G' L (.inr ⟨h2.hold,hs⟩),Zrw G' L h6 h5 (.inr ⟨h2.hold,hs⟩)⟩
 case h_80 =>
  obtain ⟨h1,h2,h3,⟨p,q,h4⟩,h5,h6⟩:=h
  have hs:=Zbo G h4.1
  exact ⟨h1.keep L,h2.keep G L,h3,⟨p,q,by rw [Zaw L h2.hold]; exact h4⟩,h5.keep G' L (.inr ⟨h2.hold,hs⟩),h6.keep G' L h5 (.inr ⟨h2.hold,hs⟩)⟩
 case h_81 =>
  obtain ⟨h1,h2,h3,⟨p,q,h4⟩,h5,h6⟩:=h
  have hs:=Zbo G h4.1
  exact ⟨h1.keep L,h2.keep G L,h3,⟨p,q,by rw [Zaw L h2.hold]; exact h4⟩,h5.keep G' L (.inr ⟨h2.hold,hs⟩),h6.keep G' L h5 (.inr ⟨h2.hold,hs⟩)⟩
 case h_82 =>
  obtain ⟨h1,h2,h3,h4,h5,h6⟩:=h
  have ho:=h1.own G
  exact ⟨h1.keep L,h2,h3.keep ho L,h4.keep G' L (.inl ho),h5.keep G' L h4 (.inl ho),h6.keep G L⟩
 case h_83=>exact h.elim
theorem Loc.keep (G:Zbc c mn cp st)(G':Zbc c mn cp st')(L:Left c k st st')(h:Loc c mn cp st k t):Loc c mn cp st' k t:=⟨h.cpu,h.fin,h.job,h.want,h.w78,h.at_.keep G G' L⟩
end
end Go.Proofs.YtfcpdlbkmkhhcaaGreatDoor.Cv

namespace Go.Proofs.YtfcpdlbkmkhhcaaGreatDoor.Cv
open See Cw
section
variable {c:Ch}{mn cp:Nat}{st st':St}{k:Nat}{t:Tk}{g:List Nat}
structure Inv (c:Ch)(mn cp:Nat)(st:St):Prop where
 G:Zbc c mn cp st
 loc:∀ k t,st.tk k=some t→k<c.C∧Loc c mn cp st k t
 idle:∀ k,st.tk k=none→Has st k [] 0 [] []
 lockd:∀ k,st.hold=some k→∃ t,st.tk k=some t∧Zcj t.pc=true∧t.want=0
theorem Inv.step (I:Inv c mn cp st)(hk:k<c.C)(G':Zbc c mn cp st')(hL:∀ j,j≠k→Left c j st st')(h:st'.tk k=none∧Has st' k [] 0 [] []∨∃ t',st'.tk k=some t'∧Loc c mn cp st' k t')
 (hh:st'.hold=some k→∃ t',st'.tk k=some t'∧Zcj t'.pc=true∧t'.want=0):Inv c mn cp st':=by
 refine ⟨G',?_,?_,?_⟩
 ·intro j t ht
  by_cases e:j=k
  ·subst e
   rcases h with ⟨h1,_⟩ | ⟨t',h1,h2⟩
   ·rw [h1] at ht
    cases ht
   ·rw [h1] at ht
    cases ht
    exact ⟨hk,h2⟩
  ·have L:=hL j e
   rw [L.tk] at ht
   obtain ⟨h1,h2⟩:=I.loc j t ht
   exact ⟨h1,h2.keep I.G G' L⟩
 ·intro j hj
  by_cases e:j=k
  ·subst e
   rcases h with ⟨_,h1⟩ | ⟨t',h1,_⟩
   ·exact h1
   ·rw [h1] at hj
    cases hj
  ·have L:=hL j e
   rw [L.tk] at hj
   exact (I.idle j hj).keep L
 ·intro j hj
  by_cases e:j=k
  ·subst e
   exact hh hj
  ·have L:=hL j e
   rw [L.tk]
   exact I.lockd j (L.hl hj)
theorem Zax {i x:Nat}{f:Nat→Out}(h:g[i]?=some x):rd g i f=f x:=by
 unfold rd
 rw [h]
theorem ZbG {i x y:Nat}(h:g[i]?=some y):wr g i x t=some (t,g.set i x):=Zax h
theorem Zag {p:Prop}[Decidable p]{o:Out}(h:p):need p o=o:=if_pos h
theorem Zai {f:Nat→Out}(h:Zan c t):Za9 c t f=f (sn t):=Zag h
theorem Zbm {x:Int}{f:Nat→Out}(h:0≤x∧x<c.O):Zmq c x f=f x.toNat:=Zag h
theorem Zcv {i old sec x y p q:Nat}{a b:Tk}(hp:g[i]?=some p)(hq:g[i+1]?=some q):Zf3 g i old sec x y a b=if p=old∧q=sec then some (a,(g.set i x).set (i+1) y) else some (b,g):=by
 unfold Zf3
 rw [Zax hp,Zax hq]
theorem Zdl {iu ob:Nat}{f:Bool}(h1:iu≤ob)(h2:1≤ob)(h3:ob≤16):ZbA (Zat iu ob f true)=some ⟨iu,ob,f,true⟩:=by
 have e:Zat iu ob f true=iu+256 * ob+(if f then 65536 else 0)+131072:=rfl
 unfold ZbA
 cases f
 ·simp only [Bool.false_eq_true,if_false] at e
  rw [e,if_neg (by omega),if_pos (by omega)]
  congr 2
  ·omega
  ·omega
  ·rw [decide_eq_false_iff_not]
   omega
 ·simp only [if_true] at e
  rw [e,if_neg (by omega),if_pos (by omega)]
  congr 2
  ·omega
  ·omega
  ·rw [decide_eq_true_eq]
   omega
theorem pack_inj {a b ob:Nat}{f f':Bool}(h1:a≤ob)(h1':b≤ob)(h2:1≤ob)(h3:ob≤16)(h:Zat a ob f true=Zat b ob f' true):a=b∧f=f':=by
 have e:=Zdl (f:=f) h1 h2 h3
 rw [h,Zdl h1' h2 h3] at e
 simp only [Option.some.injEq,Zfq.mk.injEq] at e
 exact ⟨e.1.symm,e.2.2.1.symm⟩
theorem Zbd {iu ob:Nat}{f:Bool}{x:Nat→Nat→Bool→Out}(h1:iu≤ob)(h2:1≤ob)(h3:ob≤16):Zkk (Zat iu ob f true) x=x iu ob f:=by
 unfold Zkk
 rw [Zdl h1 h2 h3]
 exact if_pos ⟨rfl,h2⟩
theorem Zjm {s:Nat}{o:Int}(hs:s<32)(h1 : -1≤o)(h2:o<16):ZdD (headW (s:Int) o)=some ((s:Int),o):=by
 unfold ZdD headW
 rw [if_neg (by omega),if_pos (by omega)]
 congr 2
 ·omega
 ·omega
theorem ZjJ {s n:Nat}(hs:s<32)(h1:1≤n)(h2:n<64):partOf (ZdG (s:Int) (n:Int))=some ((s:Int),(n:Int)):=by
 unfold partOf ZdG
 rw [if_neg (by omega),if_pos (by omega)]
 congr 2
 ·omega
 ·omega
theorem ZmE (a b:Nat):a ^^^ b ^^^ b=a:=by rw [Nat.xor_assoc,Nat.xor_self,Nat.xor_zero]
theorem ZeL {n:Int}{key o:Nat}(h1 : -1≤n)(h2:n<16):Zdc (ZaR n key o) key o=some n:=by
 unfold Zdc ZaR
 rw [ZmE,if_pos (by omega)]
 congr 1
 omega
theorem Zfo {key o:Nat}:turned key o<18446744073709551616:=Nat.mod_lt _ (by omega)
theorem ZcR {n:Int}{key o:Nat}(h2:n<16):ZaR n key o<18446744073709551616:=by
 unfold ZaR
 have:=Zfo (key:=key) (o:=o)
 exact Nat.xor_lt_two_pow (n:=64) (by omega) this
theorem Zh9 {s:Nat}{o:Int}(hs:s<32)(h1 : -1≤o)(h2:o<16):headW (s:Int) o<18446744073709551616:=by
 unfold headW
 omega
theorem ZcS {iu ob:Nat}{f:Bool}(h1:iu≤ob)(h3:ob≤16):Zat iu ob f true<18446744073709551616:=by
 have e:Zat iu ob f true=iu+256 * ob+(if f then 65536 else 0)+131072:=rfl
 rw [e]
 split <;> omega
theorem ZtG {l:List Nat}(hb:∀ s∈l,s<32)(hl:l.length<64):pw l<18446744073709551616:=by
 cases l with
 | nil=>decide
 | cons a l =>
   have:=hb a List.mem_cons_self
   simp only [List.length_cons] at hl
   show ZdG (a:Int) ((l.length+1:Nat):Int)<_
   unfold ZdG
   omega
theorem Zrp {l:List Nat}(hb:∀ s∈l,s<32):sw l<18446744073709551616:=by
 cases l with
 | nil=>decide
 | cons a l =>
   have:=hb a List.mem_cons_self
   show a+1<_
   omega
theorem ZnZ {a:Nat}{l:List Nat}:pw (a::l)≠0:=by
 show ZdG (a:Int) ((l.length+1:Nat):Int)≠0
 unfold ZdG
 omega
theorem Ze9 {l:List Nat}(hb:∀ s∈l,s<32)(hl:l.length<64):partOf (pw l)=some (ZcP l (-1),(l.length:Int)):=by
 cases l with
 | nil=>rfl
 | cons a l=>exact ZjJ (hb a List.mem_cons_self) (by omega) hl
theorem Zd3 {l:List Nat}{f:Int→Int→Out}(hb:∀ s∈l,s<32)(hl:l.length<64):ZeH (pw l) f=f (ZcP l (-1)) (l.length:Int):=by
 unfold ZeH
 rw [Ze9 hb hl]
theorem Ze3 {w:Nat}{a b:Int}{f:Int→Int→Out}(h:ZdD w=some (a,b)):Zh8 w f=f a b:=by
 unfold Zh8
 rw [h]
theorem Zo9 {w:Nat}{a b:Int}{f:Int→Int→Out}(h:partOf w=some (a,b)):ZeH w f=f a b:=by
 unfold ZeH
 rw [h]
def Zba (c:Ch)(mn cp:Nat)(g:List Nat)(t:Tk):Out:=if t.pc<20 then Zbq c g t else if t.pc<50 then Zas c g t else if t.pc<69 then ZaD c mn cp g t else Zaf c mn g t
theorem Zeg (h:t.pc<20):Zba c mn cp g t=Zbq c g t:=if_pos h
theorem ZbE (h:20≤t.pc)(h2:t.pc<50):Zba c mn cp g t=Zas c g t:=by
 unfold Zba
 rw [if_neg (by omega),if_pos h2]
theorem Zb3 (h:50≤t.pc)(h2:t.pc<69):Zba c mn cp g t=ZaD c mn cp g t:=by
 unfold Zba
 rw [if_neg (by omega),if_neg (by omega),if_pos h2]
theorem Zbb (h:69≤t.pc):Zba c mn cp g t=Zaf c mn g t:=by
 unfold Zba
 rw [if_neg (by omega),if_neg (by omega),if_neg (by omega)]
end
end Go.Proofs.YtfcpdlbkmkhhcaaGreatDoor.Cv

namespace Go.Proofs.YtfcpdlbkmkhhcaaGreatDoor.Cv
open See Cw
section
variable (c:Ch)(st:St)(t:Tk)
def cont (b:Int)(k:Nat):Nat:=if b=73 then 20 else if b=95 then 2 * c.S+12 else if b=79 then 36 * (st.sl (.chain k)).length else 0
def plc (x:Int):Nat:=if st.hold=some t.cpu then (st.sl .shelf).idxOf x.toNat else 0
def shl:Nat:=if st.hold=some t.cpu then (st.sl .shelf).length else 0
abbrev AA:Nat:=2 * c.S+c.O+79
def base:Nat:=match t.pc with
 | 0=>AA c+51
 | 1=>AA c+50
 | 2=>AA c+49
 | 3=>AA c+48
 | 20=>AA c+48
 | 21=>AA c+31
 | 22=>AA c+30
 | 23=>AA c+29
 | 24=>AA c+29
 | 30=>AA c+4
 | 31=>AA c+3
 | 32=>AA c+2
 | 33=>AA c+1
 | 34=>AA c+2
 | 35=>AA c+1
 | 36=>AA c
 | 37=>50
 | 38=>49
 | 39=>48
 | 46=>23
 | 47=>22
 | 48=>21
 | 49=>20
 | 40=>19
 | 41=>18
 | 42=>17
 | 43=>if t.want=1 then AA c - 1 else 77+2 * c.S+(c.O - t.many.toNat)
 | 44=>77+2 * c.S
 | 10=>97
 | 11=>96
 | 12=>95
 | 13=>94
 | 50=>95
 | 51=>94
 | 52=>93
 | 53=>92
 | 54=>92
 | 55=>92
 | 56=>91
 | 57=>96
 | 58=>9+c.S
 | 59=>1
 | 60=>67
 | 61=>66
 | 62=>65
 | 63=>64
 | 64=>8+c.S
 | 65=>7+(c.S - plc st t t.to_)
 | 66=>6
 | 67=>5
 | 68=>4
 | 70=>74+c.O
 | 71=>73+c.O
 | 72=>72+c.O
 | 73=>20
 | 74=>19
 | 75=>18
 | 79=>36 * (st.sl (.chain t.cpu)).length
 | 80=>35+cont c st t.back t.cpu+(if t.obj<0 then 0 else c.O)
 | 81=>34+cont c st t.back t.cpu+(c.O - t.many.toNat)
 | 84=>34+cont c st t.back t.cpu
 | 85=>33+cont c st t.back t.cpu
 | 86=>32+cont c st t.back t.cpu
 | 87=>31+cont c st t.back t.cpu
 | 88=>6+cont c st t.back t.cpu
 | 90=>5+cont c st t.back t.cpu
 | 91=>4+cont c st t.back t.cpu
 | 92=>3+cont c st t.back t.cpu
 | 93=>2+cont c st t.back t.cpu
 | 94=>1+cont c st t.back t.cpu
 | 76=>if t.back=95 then 7 else 3+cont c st t.back t.cpu
 | 77=>2+cont c st t.back t.cpu
 | 78=>1+cont c st t.back t.cpu
 | 95=>2 * c.S+12
 | 96=>2 * c.S+11
 | 97=>2 * (shl st t - plc st t t.slab)+10
 | 98=>2 * (shl st t - plc st t t.slab)+9
 | 99=>1
 | 100=>11
 | 101=>10
 | 102=>9
 | 103=>8
 | _=>0
def pen:Nat :=
 if t.pc=1∨t.pc=2∨t.pc=3∨t.pc=20∨t.pc=11∨t.pc=12∨t.pc=13∨t.pc=42 then (if st.ht t.cpu=t.T then 0 else 4)
 else if t.pc=71∨t.pc=72 then (if st.ht t.for_.toNat=t.T then 0 else 4)
 else if t.pc=31∨t.pc=32∨t.pc=33∨t.pc=61∨t.pc=62∨t.pc=63 then (if st.pt t.cpu=t.T then 0 else 4)
 else if t.pc=74∨t.pc=75 then (if st.pt t.for_.toNat=t.T then 0 else 4)
 else if t.pc=22∨t.pc=38∨t.pc=51∨t.pc=85 then (if fr st (sn t)=t.F then 0 else 6)
 else if t.pc=23∨t.pc=24∨t.pc=39∨t.pc=52∨t.pc=53∨t.pc=54∨t.pc=55∨t.pc=56∨t.pc=86∨t.pc=87 then (if fr st (sn t)=t.F∧ct c st (sn t)=t.K then 0 else 6)
 else 0
def pot:Nat:=base c st t+pen c st t
def Zkl (k:Nat):Nat:=match st.tk k with
 | none=>0
 | some t=>pot c st t
def Zde (f:Nat→Nat):Nat→Nat
 | 0=>0
 | n+1=>Zde f n+f n
def lvN (s:Nat):Nat:=if st.lv s=true then 1 else 0
def ptN (k:Nat):Nat:=(st.sl (.part k)).length
def Phi:Nat:=Zde (Zkl c st) c.C+47 * Zde (ptN st) c.C+(2 * c.S+33) * Zde (lvN st) c.S
end
section
variable {c:Ch}{mn cp:Nat}{st st':St}{k:Nat}{t:Tk}
theorem Zk7 {f f':Nat→Nat}{k q:Nat}:∀ {n:Nat},k<n→(∀ j,j<n→j≠k→f' j≤f j+q)→Zde f' n+f k≤Zde f n+f' k+(n - 1) * q
 | 0,h,_=>by omega
 | n+1,h,hq=>by
   have aux:∀ m,m≤n→k≥m→Zde f' m≤Zde f m+m * q:=by
    intro m hm hk
    induction m with
    | zero=>simp [Zde]
    | succ m ih =>
      have:=ih (by omega) (by omega)
      have h2:=hq m (by omega) (by omega)
      simp only [Zde,Nat.succ_mul]
      omega
   by_cases e:k=n
   ·subst e
    have:=aux k (Nat.le_refl _) (Nat.le_refl _)
    simp only [Zde,Nat.add_sub_cancel]
    omega
   ·have ih:=Zk7 (f:=f) (f':=f') (k:=k) (q:=q) (n:=n) (by omega) (fun j hj hne=>hq j (by omega) hne)
    have h2:=hq n (by omega) (fun e2=>e e2.symm)
    have h3:(n+1 - 1) * q=(n - 1) * q+q:=by
     have:n+1 - 1=(n - 1)+1:=by omega
     rw [this,Nat.succ_mul]
    simp only [Zde]
    omega
theorem ZbK {f f':Nat→Nat}:∀ {n:Nat},(∀ j,j<n→f' j=f j)→Zde f' n=Zde f n
 | 0,_=>rfl
 | n+1,h=>by
   simp only [Zde]
   rw [ZbK (fun j hj=>h j (by omega)),h n (by omega)]
theorem Zgf {f f':Nat→Nat}{k:Nat}:∀ {n:Nat},k<n→(∀ j,j≠k→f' j=f j)→Zde f' n+f k=Zde f n+f' k
 | 0,h,_=>by omega
 | n+1,h,hq=>by
   simp only [Zde]
   by_cases e:k=n
   ·subst e
    rw [ZbK (f:=f) (f':=f') (fun j hj=>hq j (by omega))]
    omega
   ·have:=Zgf (f:=f) (f':=f') (k:=k) (n:=n) (by omega) hq
    rw [hq n (fun e2=>e e2.symm)]
    omega
theorem ZmT (L:Left c k st st')(hc:t.cpu=k):base c st' t=base c st t:=by
 have e1:st'.sl (.chain t.cpu)=st.sl (.chain t.cpu):=by rw [hc]; exact L.slc
 have e2:∀ x,plc st' t x=plc st t x:=by
  intro x
  unfold plc
  rw [hc]
  by_cases h:st.hold=some k
  ·obtain ⟨h1,_,_,h4,_⟩:=L.lock h
   rw [if_pos h,if_pos h1,h4]
  ·rw [if_neg h,if_neg (fun e=>h (L.hl e))]
 have e3:shl st' t=shl st t:=by
  unfold shl
  rw [hc]
  by_cases h:st.hold=some k
  ·obtain ⟨h1,_,_,h4,_⟩:=L.lock h
   rw [if_pos h,if_pos h1,h4]
  ·rw [if_neg h,if_neg (fun e=>h (L.hl e))]
 have e4:cont c st' t.back t.cpu=cont c st t.back t.cpu:=by
  unfold cont
  rw [e1]
 unfold base
 simp only [e1,e2,e3,e4]
theorem ZsT (q1 q2 q3:Nat)(h1:q1=0→∀ x,st'.ht x=st.ht x)(h2:q2=0→∀ x,st'.pt x=st.pt x)(h3:q3=0→∀ s,fr st' s=fr st s∧ct c st' s=ct c st s)(hq:(q1=0∨q1=4)∧(q2=0∨q2=4)∧(q3=0∨q3=6)):pen c st' t≤pen c st t+(max q1 (max q2 q3)):=by
 obtain ⟨hq1,hq2,hq3⟩:=hq
 unfold pen
 split
 ·rcases hq1 with rfl | rfl
  ·rw [h1 rfl]
   omega
  ·split <;> split <;> omega
 split
 ·rcases hq1 with rfl | rfl
  ·rw [h1 rfl]
   omega
  ·split <;> split <;> omega
 split
 ·rcases hq2 with rfl | rfl
  ·rw [h2 rfl]
   omega
  ·split <;> split <;> omega
 split
 ·rcases hq2 with rfl | rfl
  ·rw [h2 rfl]
   omega
  ·split <;> split <;> omega
 split
 ·rcases hq3 with rfl | rfl
  ·rw [(h3 rfl _).1]
   omega
  ·split <;> split <;> omega
 split
 ·rcases hq3 with rfl | rfl
  ·rw [(h3 rfl _).1,(h3 rfl _).2]
   omega
  ·split <;> split <;> omega
 ·omega
theorem ZjN {q1 q2 q3:Nat}(I:Inv c mn cp st)(L:Left c k st st')(h1:q1=0→∀ x,st'.ht x=st.ht x)(h2:q2=0→∀ x,st'.pt x=st.pt x)(h3:q3=0→∀ s,fr st' s=fr st s∧ct c st' s=ct c st s)(hq:(q1=0∨q1=4)∧(q2=0∨q2=4)∧(q3=0∨q3=6)) :
 Zkl c st' k≤Zkl c st k+max q1 (max q2 q3):=by
 unfold Zkl
 rw [L.tk]
 split
 ·omega
 ·rename_i t ht
  have hc:=(I.loc k t ht).2.cpu
  unfold pot
  rw [ZmT L hc]
  have:=ZsT (c:=c) (t:=t) (st:=st) (st':=st') q1 q2 q3 h1 h2 h3 hq
  omega
theorem ZiT {q1 q2 q3 p p' l l':Nat}(I:Inv c mn cp st)(hk:k<c.C)(hC:c.C≤5)(hL:∀ j,j≠k→Left c j st st')(h1:q1=0→∀ x,st'.ht x=st.ht x)(h2:q2=0→∀ x,st'.pt x=st.pt x)(h3:q3=0→∀ s,fr st' s=fr st s∧ct c st' s=ct c st s)(hq:(q1=0∨q1=4)∧(q2=0∨q2=4)∧(q3=0∨q3=6))
 (hp:Zde (ptN st') c.C+p=Zde (ptN st) c.C+p') (hl:Zde (lvN st') c.S+l=Zde (lvN st) c.S+l') (_hl1:l≤1∧l'≤1)
 (hpot:Zkl c st' k+4 * (max q1 (max q2 q3))+47 * p'+(2 * c.S+33) * l'+1≤Zkl c st k+47 * p+(2 * c.S+33) * l):Phi c st'+1≤Phi c st:=by
 have h:=Zk7 (f:=Zkl c st) (f':=Zkl c st') (k:=k) (q:=max q1 (max q2 q3)) hk fun j _ hj=>ZjN I (hL j hj) h1 h2 h3 hq
 have h4:(c.C - 1) * max q1 (max q2 q3)≤4 * max q1 (max q2 q3):=Nat.mul_le_mul_right _ (by omega)
 unfold Phi
 have e1:47 * Zde (ptN st') c.C+47 * p=47 * Zde (ptN st) c.C+47 * p':=by omega
 have e2:(2 * c.S+33) * Zde (lvN st') c.S+(2 * c.S+33) * l=(2 * c.S+33) * Zde (lvN st) c.S+(2 * c.S+33) * l':=by
  rw [← Nat.mul_add,← Nat.mul_add,hl]
 omega
end
end Go.Proofs.YtfcpdlbkmkhhcaaGreatDoor.Cv
