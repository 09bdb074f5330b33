/-
  Texts of this claim, joined. No condition.
-/
import Derived.Test.YtfcpdlbkmkhhcaaGreatDoorCh1
import Derived.Test.YtfcpdlbkmkhhcaaGreatDoorCh45
import Derived.Test.YtfcpdlbkmkhhcaaGreatDoorCh39
import Derived.Test.YtfcpdlbkmkhhcaaGreatDoorCh37
import Derived.StillTailTactics
namespace Go.Proofs.YtfcpdlbkmkhhcaaGreatDoor
set_option maxRecDepth 100000
set_option maxHeartbeats 40000000
namespace Cw
open Go Mem See
open Go.RowKit
attribute [local go_sem ↓] Go.wp_at_zero Go.wp_at_succ
section
variable {W w:World}{m:List (Nat×Obj)}{a0 a1 a2 a3 a4:Int}{key:Nat}{jv qv:Value}{aj picks:List Int}
theorem Zvz:Ex.iA Tryz.prog 41=some 4:=by kernel_rfl
def lV (b:Nat)(A0 A1 A2:Option Addr)(c0 c1 c2 n0 n1 n2:Nat)(lk:Bool):Nat×Obj:=(b,.cells #[.slice A0 n0 c0,.slice A1 n1 c1,.bool lk,.slice A2 n2 c2] 41)
theorem xh {b:Nat}{A0 A1 A2:Option Addr}{c0 c1 c2 n0 n1 n2:Nat}{lk:Bool}{l:List (Nat×Obj)}(h:Own W (lV b A0 A1 A2 c0 c1 c2 n0 n1 n2 lk::l) w) :
 w.cell? ⟨b,0,Option.none⟩=some (.slice A0 n0 c0)∧w.cell? ⟨b,1,Option.none⟩=some (.slice A1 n1 c1)∧w.cell? ⟨b,2,Option.none⟩=some (.bool lk)∧w.cell? ⟨b,3,Option.none⟩=some (.slice A2 n2 c2):=by
 have:=h.cell (b:=b) ZnJ;exact⟨this 0,this 1,this 2,this 3⟩
end
end Cw
end Go.Proofs.YtfcpdlbkmkhhcaaGreatDoor
