/-
  Texts of this claim, joined. No condition.
-/
import Derived.Test.YtfgomgodfcdijaaGreatDoorKn15
import Derived.Test.YtfgomgodfcdijaaGreatDoorKn21
import Derived.Test.YtfgomgodfcdijaaGreatDoorKn22
import Derived.Test.YtfgomgodfcdijaaGreatDoorKn23
import Derived.Test.YtfgomgodfcdijaaGreatDoorKn24
import Derived.Test.YtfgomgodfcdijaaGreatDoorKn25
import Derived.Test.YtfgomgodfcdijaaGreatDoorKn26
import Derived.Test.YtfgomgodfcdijaaGreatDoorKn27
import Derived.Test.YtfgomgodfcdijaaGreatDoorKn28
import Derived.Test.YtfgomgodfcdijaaGreatDoorKn29
import Derived.Test.YtfgomgodfcdijaaGreatDoorKn30
import Derived.Test.YtfgomgodfcdijaaGreatDoorKn31
import Derived.Test.YtfgomgodfcdijaaGreatDoorKn32
/-
  wainscotlaw29.works and KmemNames: the pieces of their runs, joined. No condition.
-/
namespace Go.Proofs.YtfgomgodfcdijaaGreatDoor.Kn
open Go Ex
theorem rng_sound : RngS Tryz.prog rng := fun v h he => by
  unfold rng at he
  split at he
  · rename_i hb
    exact rngB_sound v h hb
  · exact rngN_sound v h he
theorem sp_sound : CallS Tryz.prog sp := orSp_sound spHead_sound (orSp_sound spPath_sound (orSp_sound spHeir_sound spNext_sound))
theorem cal_sound {s : Sp} (hs : CallS Tryz.prog s) : CallS Tryz.prog (cal s) := callX_sound mixed hs rng_sound 40
theorem pc_rw {s : Sp} (hs : CallS Tryz.prog s) {nt k : Nat} {en en' e9 : T AV} {h h' h9 : AH} {x : AX} (hp : pc s nt k en h en' h' = true) (hr : RW Tryz.prog nt body en' h' x e9 h9) : RW Tryz.prog nt body en h x e9 h9 := rw_piece mixed (cal_sound hs) hr hp
theorem pcX_rw {s : Sp} (hs : CallS Tryz.prog s) {nt k : Nat} {en e9 : T AV} {h h9 : AH} {x : AX} (hp : pcX s nt k en h x e9 h9 = true) : RW Tryz.prog nt body en h x e9 h9 := rw_last mixed (cal_sound hs) hp
theorem body_is {c : Code} (hc : Tryz.f5.body = some c) : body = loopAt pL c := by
  unfold body
  rw [Tryz.func5]
  simp only [hc]
theorem wLoop : RW Tryz.prog wnt body we0 wh0 wx9 we9 wh9 := pc_rw sp_sound w0 (pc_rw sp_sound w1 (pc_rw sp_sound w2 (pcX_rw sp_sound w3)))
theorem wBg : BgOk Tryz.prog [wB] := by
  obtain ⟨c, hc⟩ : ∃ c, Tryz.f5.body = some c := ⟨_, rfl⟩
  have hr := wLoop
  rw [body_is hc] at hr
  exact callL_bgL mixed (cal_sound sp_sound) Tryz.func5 hc (show RW Tryz.prog Tryz.f5.ntmps (loopAt pL c) we0 wh0 wx9 we9 wh9 from hr) wRun
theorem works_true (w : World) (hg : Tabs Fc.globs w) (hro : Ros w) : Calls Tryz.prog 19 #[] w fun e w' => e = .returned (.bool true) ∧ RowKit.Below w.heap.size w w' :=
  runsBL_calls mixed (cal_sound sp_sound) wBg wTop rfl w hg hro
theorem fn_works : FnOk Tryz.prog 19 := ⟨Tryz.f19, _, Tryz.func19, by kernel_rfl, rfl⟩
theorem spW_sound : CallS Tryz.prog spW := by
  have h : spW = spTrue 19 := rfl
  rw [h]
  exact spTrue_sound fn_works works_true
theorem sp2_sound : CallS Tryz.prog sp2 := orSp_sound spW_sound sp_sound
theorem kLoop : RW Tryz.prog knt body ke0 kh0 kx9 ke9 kh9 := pc_rw sp2_sound k0 (pc_rw sp2_sound k1 (pc_rw sp2_sound k2 (pc_rw sp2_sound k3 (pc_rw sp2_sound k4 (pcX_rw sp2_sound k5)))))
theorem kBg : BgOk Tryz.prog [kB] := by
  obtain ⟨c, hc⟩ : ∃ c, Tryz.f5.body = some c := ⟨_, rfl⟩
  have hr := kLoop
  rw [body_is hc] at hr
  exact callL_bgL mixed (cal_sound sp2_sound) Tryz.func5 hc (show RW Tryz.prog Tryz.f5.ntmps (loopAt pL c) ke0 kh0 kx9 ke9 kh9 from hr) kRun
end Go.Proofs.YtfgomgodfcdijaaGreatDoor.Kn
namespace Go.Proofs.YtfgomgodfcdijaaGreatDoor.kmemNames
open Go Ex Kn
theorem walk (W : World) (hg : Tabs FillTab.gs W) : Calls Tryz.prog 3 #[] W fun e w' => e = .returned (.bool true) ∧ Own W [] w' :=
  (runsBL_calls mixed (cal_sound sp2_sound) kBg kTop rfl W hg (ros_nil rfl)).mono fun _ _ h => ⟨h.1, ⟨h.2, by simp, by simp⟩⟩
end Go.Proofs.YtfgomgodfcdijaaGreatDoor.kmemNames
