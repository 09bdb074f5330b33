/-
  Texts of this claim, joined. No condition.
-/
import Derived.Test.YtfgomgodfcdijaaGreatDoorKn11
import Derived.Test.YtfgomgodfcdijaaGreatDoorTie
import Derived.LaidMore
import Derived.OpenShut
import Derived.Stop.Joined
import Derived.Test.YtfgomgodfcdijaaGreatDoorKn18
import Derived.Test.YtfgomgodfcdijaaGreatDoorKn13
import Derived.Test.YtfgomgodfcdijaaGreatDoorKn15
/-
  The table that the layer 'fill' goes on by: what the given premise tells of memory. No condition.
-/
namespace Go.Proofs.YtfgomgodfcdijaaGreatDoor.FillTab
open Go Go.ChangeShapes Go.WideShapes Go.ChangeAt Go.WideElems Go.RowKit
def L : List Int := [0, 0, 0, 0, 0, 0, 0, 0, 0, 0, 0, 0, 0, 0, 0, 0, 0, 0, 0, 0, 0, 22, 0, 0, 0, 0, 0, 0, 0, 0, 31, 0, 0, 0, 0, 0, 43, 38, 0, 0, 41, 42, 0, 0, 0, 0, 47, 48, 49, 40]
def gs : List (Nat × List Int) := [(0, L)]
theorem gNo : Tryz.prog.globalNamed "wainscot/fill.goesOn" = some 0 := by kernel_rfl
theorem tNo : (Tryz.prog.globals[0]?).map (·.type) = some 410 := by kernel_rfl
theorem door_met (os : Os) (args : Array Value) : laidMetH Tryz.prog [("wainscot/fill.goesOn", Rows.laid_wainscot_fill_goesOn)] ((World.doorLaid Tryz.prog 400 os).forCall (fun _ _ => 0) ⟨#[], args, []⟩).memory :=
  laidMetH_of_parts3 (fuel := 8) (laidMet_of_run' 8 (by kernel_rfl) (by kernel_rfl)) (by kernel_rfl) (by kernel_rfl)
theorem of_laid {W : World} (h : laidMetH Tryz.prog [("wainscot/fill.goesOn", Rows.laid_wainscot_fill_goesOn)] W) : Ex.Tabs gs W := by
  rw [MakeChecks.laidMetH_plain _ _ _ (by kernel_rfl)] at h
  obtain ⟨ps, ⟨g0, t0, cs0, f0, p0, q0, hg0, ht0, hv0, hd0, _⟩, _, _⟩ := h
  obtain rfl := Option.some.inj (gNo.symm.trans hg0)
  obtain rfl := Option.some.inj (tNo.symm.trans ht0)
  obtain ⟨xs, m1, rfl, hx1, hlen, hn, hel⟩ := DataW.trod_array Tryz.underlying410 hd0
  have c1 : Tryz.prog.cellsOf 3 = 1 := by kernel_rfl
  have c50 : Tryz.prog.cellsOf 410 = 50 := by kernel_rfl
  have hL : L.length = 50 := rfl
  simp only [Prod.mk.injEq] at hx1
  have hxs : xs.map (·.1) = L.map fun n => DataW.lit (.int .i64 n) := by
    have e : (Rows.laid_wainscot_fill_goesOn : DataW Unit) = .agg (L.map fun n => .lit (.int .i64 n)) := rfl
    have h1 := hx1.1
    rw [e] at h1
    exact (DataW.agg.inj h1).symm
  have hcs : cs0.toList = L.map (Value.int .i64) := by
    refine List.ext_getElem? fun i => ?_
    rw [c50] at hlen
    by_cases hi : i < 50
    · have h1 := hel i hi
      rw [c1, Nat.mul_one] at h1
      obtain ⟨x, hx⟩ : ∃ x, xs[i]? = some x := ⟨xs[i]'(by omega), List.getElem?_eq_getElem _⟩
      rw [hx] at h1
      obtain ⟨k, e1, e2, _⟩ := DataW.trod_int Tryz.underlying3 h1
      have e3 : (cs0.toList)[i]? = some (.int .i64 k) := by
        have := congrArg (fun l : List Value => l[0]?) e1
        simpa [List.getElem?_take, List.getElem?_drop] using this
      have e4 : (L.map fun n => (DataW.lit (.int .i64 n) : DataW Unit))[i]? = some (.lit (.int .i64 k)) := by
        rw [← hxs, List.getElem?_map, hx, e2]
        rfl
      rw [List.getElem?_map] at e4
      rw [e3, List.getElem?_map]
      cases hLi : L[i]? with
      | none => rw [hLi] at e4; cases e4
      | some n =>
        rw [hLi] at e4
        simp at e4
        simp [e4]
    · rw [List.getElem?_eq_none (by omega), List.getElem?_eq_none (by simp [hL]; omega)]
  have hheap : ∃ e q, W.heap[(0 : Nat)]? = some (.cells cs0 e q) := by
    simp only [World.var?, gNo, Option.bind_some] at hv0
    split at hv0 <;> simp_all
  intro g l hf
  unfold gs Ex.findG at hf
  split at hf
  · rename_i hg
    have hg := Nat.eq_of_beq_eq_true hg
    subst hg
    simp only [Option.some.injEq] at hf
    subst hf
    obtain ⟨e, q, hw⟩ := hheap
    refine ⟨e, q, ?_⟩
    rw [hw, ← hcs]
  · cases hf
end Go.Proofs.YtfgomgodfcdijaaGreatDoor.FillTab

/-
  Law 29: the calls, as they are run; a loop's end. No condition.
-/
namespace Go.Proofs.YtfgomgodfcdijaaGreatDoor.Kn
open Go Ex
noncomputable section
instance nm : Nums := { facts := [], globs := FillTab.gs, σ := fun _ => 0, ok := fun _ h => by cases h }
def spW : Sp := fun f args h => match Nat.beq f 19 with
  | true => match args with
    | [] => some (.bool true, h)
    | _ => none
  | false => none
def sp : Sp := orSp spHead (orSp spPath (orSp spHeir spNext))
def sp2 : Sp := orSp spW sp
def rng : AV → AH → Bool := fun v h => match rngB v h with
  | true => true
  | false => rngN v h
def gp : List (Nat × List Bool) := [(62, [true, true, true, true, false, true, true, true, false, false, true, false, true, false, true, false]), (102, [true, false, true, false])]
noncomputable def cal (s : Sp) : Sp := callX Tryz.prog s rng gp 40
def pL : List Bool := [true, true, false, true, false]
noncomputable def body : Code := match Tryz.prog.funcs[5]? with
  | some fn => match fn.body with
    | some c => loopAt pL c
    | none => .skip
  | none => .skip
noncomputable def bodyX (s : Sp) (nt : Nat) : T AV → AH → Option (AX × T AV × AH) := exec Tryz.prog (cal s) nt body
/-! memories, in few words -/
def i (n : Nat) : AV := .int .i64 (.ofNat n)
def j (n : Nat) : AV := .int .i64 (.negSucc (Nat.sub n 1))
def u (n : Nat) : AV := .int .u64 (.ofNat n)
def tr : AV := .bool true
def fa : AV := .bool false
def q (n o : Nat) : AV := .ptr n o
def w (n l z : Nat) : AV := .sl n 0 l z .whole
def c (ty : Nat) (l : List AV) : AO := .cells (mkCells l) l.length ty
def tA (t : T AV) : List (Nat × AV) → T AV
  | [] => t
  | (k, v) :: l => tA (t.put k (some v)) l
def t (l : List (Nat × AV)) : T AV := tA .e l
def gA (m : T AO) : List (Nat × AO) → T AO
  | [] => m
  | (k, o) :: l => gA (m.put k (some o)) l
def g (n : Nat) (l : List (Nat × AO)) : AH := .mk (gA .e l) n
/-- a piece: so many rounds -/
noncomputable def pc (s : Sp) (nt k : Nat) (en : T AV) (h : AH) (en' : T AV) (h' : AH) : Bool := okE (itr (bodyX s nt) k en h) en' h'
def AX.beq : AX → AX → Bool
  | .normal, .normal => true
  | .ret, .ret => true
  | .exit m, .exit n => Nat.beq m n
  | _, _ => false
/-- the last rounds -/
def okX (r : Option (AX × T AV × AH)) (x : AX) (ev : T AV) (h : AH) : Bool := match r with
  | some (y, en, g) => AX.beq y x && (T.le AV.beq ev en && AH.le h g)
  | none => false
noncomputable def pcX (s : Sp) (nt k : Nat) (en : T AV) (h : AH) (x : AX) (en' : T AV) (h' : AH) : Bool := okX (iter (bodyX s nt) k en h) x en' h'
end
end Go.Proofs.YtfgomgodfcdijaaGreatDoor.Kn

/-
  Law 29: what memory holds between the pieces. No condition.
-/
namespace Go.Proofs.YtfgomgodfcdijaaGreatDoor.Kn
open Go Ex
set_option maxRecDepth 100000
noncomputable def wnt : Nat := 71
noncomputable def wA : AH := g 584 [(16,c 94 [i 1,i 0,fa,.nilsl,i 0,i 0,i 0,i 0,i 0,i 0,.nilsl,i 0]),
 (18,c 71 [i 1,i 8,w 28 1 1,.nilsl,q 319 0,q 320 0,q 315 0,q 317 0,i 0,i 0,i 0,i 0,i 0,i 0,i 0,i 0,i 0,i 0,i 0,i 0,i 0,i 0,i 0,i 0,i 0,q 312 0,q 313 0,w 502 1 1,.nilsl,w 16 1 12,w 549 1 6,i 1,i 0,j 1]),
 (28,c 32 [w 48 4 4]),
 (48,c 31 [i 0,i 0,i 23,i 0,i 1,i 0,i 0,i 0,i 2,i 0,i 0,i 0,i 8,i 0,i 0,i 0]),
 (49,c 27 [.nilsl]),
 (50,c 202 [w 49 1 1,i 6]),
 (51,c 191 [i 0,i 3,i 0,i 1,i 0,i 0,i 1,i 0,i 0,i 1,i 0,i 0,i 1,i 0,i 0,i 1,i 0,i 0,i 1,i 0,i 0,i 1,i 0,i 0]),
 (52,c 204 [w 51 8 3]),
 (311,.map [] [] 0),
 (312,c 136 [q 52 0,q 50 0,i 1,i 8,.map 311]),
 (313,c 141 [i 1,i 0,i 0,i 0,i 0,i 0,i 0,i 0,i 0,.ifc 230 (.nilsl),.nilif,.nilif,.nilif,.nilif,.nilif,.nilif,.nilif,i 0,fa,fa,fa,fa,fa,fa,fa,fa,fa]),
 (314,c 195 [i 0,i 0]),
 (315,c 144 [w 314 1 2]),
 (316,.map [] [] 0),
 (317,c 147 [i 256,i 16,.map 316]),
 (318,c 149 [i 0,i 1,fa]),
 (319,c 152 [w 318 1 3]),
 (320,c 155 [tr,i 0,i 0,i 0,i 0,i 0,i 0,i 0,i 0,i 0,i 0,i 0,i 0,i 0,i 0,i 0,i 0,i 9007199254740991,i 9007199254740991,i 9007199254740991,i 9007199254740991,i 9007199254740991,i 9007199254740991,i 9007199254740991,i 9007199254740991,i 9007199254740991,i 9007199254740991,i 9007199254740991,i 9007199254740991,i 9007199254740991,i 9007199254740991,i 9007199254740991,i 9007199254740991]),
 (437,c 178 [u 0,u 0,u 0,u 0,u 0,u 0,u 0,u 0,u 0,u 0,u 0,u 0,u 0,u 0,u 0,u 0,u 0,u 0,u 0,u 0,u 0,u 0,u 0,u 0,u 0,u 0,u 0,u 0,u 0,u 0,u 0,u 0,u 0,u 0,u 0,u 0,u 0,u 0,u 0,u 0,u 0,u 0,u 0,u 0,u 0,u 0,u 0,u 0,u 0,u 0,u 0,u 0,u 0,u 0,u 0,u 0,u 0,u 0,u 0,u 0,u 0,u 0,u 0,u 0,u 0,u 0,u 0,u 0,u 0,u 0,u 0,u 0,u 0,u 0,u 0,u 0,u 0,u 0,u 0,u 0,u 0,u 0,u 0,u 0,u 0,u 0,u 0,u 0,u 0,u 0,u 0,u 0,u 0,u 0,u 0,u 0,u 0,u 0,u 0,u 0,u 0,u 0,u 0,u 0,u 0,u 0,u 0,u 0,u 0,u 0,u 0,u 0,u 0,u 0,u 0,u 0,u 0,u 0,u 0,u 0,u 0,u 0,u 0,u 0,u 0,u 0,u 0,u 0,u 0,u 0,u 0,u 0,u 0,u 0,u 0,u 0,u 0,u 0,u 0,u 0,u 0,u 0,u 0,u 0,u 0,u 0,u 0,u 0,u 0,u 0,u 0,u 0,u 0,u 0,u 0,u 0,u 0,u 0,u 0,u 0,u 0,u 0,u 0,u 0,u 0,u 0,u 0,u 0,u 0,u 0,u 0,u 0,u 0,u 0,u 0,u 0,u 0,u 0,u 0,u 0,u 0,u 0,u 0,u 0,u 0,u 0,u 0,u 0,u 0,u 0,u 0,u 0,u 0,u 0,u 0,u 0,u 0,u 0,u 0,u 0,u 0,u 0,u 0,u 0,u 0,u 0,u 0,u 0,u 0,u 0,u 0,u 0,u 0,u 0,u 0,u 0,u 0,u 0,u 0,u 0,u 0,u 0,u 0,u 0,u 0,u 0,u 0,u 0,u 0,u 0,u 0,u 0,u 0,u 0,u 0,u 0,u 0,u 0,u 0,u 0,u 0,u 0,u 0,u 0,u 0,u 0,u 0,u 0,u 0,u 0,u 0,u 0,u 0,u 0,u 0,u 0,u 0,u 0,u 0,u 0,u 0,u 0,u 0,u 0,u 0,u 0,u 0,u 0,u 0,u 0,u 0,u 0,u 0,u 0,u 0,u 0,u 0,u 0,u 0,u 0,u 0,u 0,u 0,u 0,u 0,u 0,u 0,u 0,u 0,u 0,u 0,u 0,u 0,u 0,u 0,u 0,u 0,u 0,u 0,u 0,u 0,u 0,u 0,u 0,u 0,u 0,u 0,u 0,u 0,u 0,u 0,u 0,u 0,u 0,u 0,u 0,u 0,u 0,u 0,u 0,u 0,u 0,u 0,u 0,u 0,u 0,u 0,u 0,u 0,u 0,u 0,u 0,u 0,u 0,u 0,u 0,u 0,u 0,u 0,u 0,u 0,u 0,u 0,u 0,u 0,u 0,u 0,u 0,u 0,u 0,u 0,u 0,u 0,u 0,u 0,u 0,u 0,u 0,u 0,u 0,u 0,u 0,u 0,u 0,u 0,u 0,u 0,u 0,u 0,u 0,u 0,u 0,u 0,u 0,u 0,u 0,u 0,u 0,u 0,u 0,u 0,u 0,u 0,u 0,u 0,u 0,u 0,u 0,u 0,u 0,u 0,u 0,u 0,u 0,u 0,u 0,u 0,u 0,u 0,u 0,u 0,u 0,u 0,u 0,u 0,u 0,u 0,u 0,u 0,u 0,u 0,u 0,u 0,u 0,u 0,u 0,u 0,u 0,u 0,u 0,u 0,u 0,u 0,u 0,u 0,u 0,u 0,u 0,u 0,u 0,u 0,u 0,u 0,u 0,u 0,u 0,u 0,u 0,u 0,u 0,u 0,u 0,u 0,u 0,u 0,u 0,u 0,u 0,u 0,u 0,u 0,u 0,u 0,u 0,u 0,u 0]),
 (438,c 256 [w 437 456 1,i 0]),
 (439,.map [] [] 0),
 (440,c 184 [i 1,i 32,i 10,i 1,i 2,u 1000003,q 438 0,.map 439]),
 (448,c 105 [i 24,i 8,i 0,i 1,tr,i 0,w 450 32 1,i 24,i 8,i 24,i 0,i 0,i 10,i 16,q 440 0]),
 (450,c 3 [j 1,j 1,j 1,j 1,j 1,j 1,j 1,j 1,j 1,j 1,j 1,j 1,j 1,j 1,j 1,j 1,j 1,j 1,j 1,j 1,j 1,j 1,j 1,j 1,j 1,j 1,j 1,j 1,j 1,j 1,j 1,j 1]),
 (502,c 106 [q 448 0]),
 (549,c 38 [i 0,i 0,i 1,i 1,i 0,.nilsl])]
noncomputable def we0 : T AV := t [(0,q 18 0),(1,i 1000),(4,i 0),(7,q 18 0),(8,fa),(9,i 1000),(10,i 1000)]
noncomputable def wh0 : AH := g 584 [(16,c 94 [i 1,i 0,fa,.nilsl,i 0,i 0,i 0,i 0,i 0,i 0,.nilsl,i 0]),
 (18,c 71 [i 1,i 8,w 28 1 1,.nilsl,q 319 0,q 320 0,q 315 0,q 317 0,i 0,i 0,i 0,i 0,i 0,i 0,i 0,i 0,i 0,i 0,i 0,i 0,i 0,i 0,i 0,i 0,i 0,q 312 0,q 313 0,w 502 1 1,.nilsl,w 16 1 12,w 549 1 6,i 1,i 0,j 1]),
 (28,c 32 [w 48 4 4]),
 (48,c 31 [i 0,i 0,i 23,i 0,i 1,i 0,i 0,i 0,i 2,i 0,i 0,i 0,i 8,i 0,i 0,i 0]),
 (49,c 27 [.nilsl]),
 (50,c 202 [w 49 1 1,i 6]),
 (51,c 191 [i 0,i 3,i 0,i 1,i 0,i 0,i 1,i 0,i 0,i 1,i 0,i 0,i 1,i 0,i 0,i 1,i 0,i 0,i 1,i 0,i 0,i 1,i 0,i 0]),
 (52,c 204 [w 51 8 3]),
 (311,.map [] [] 0),
 (312,c 136 [q 52 0,q 50 0,i 1,i 8,.map 311]),
 (313,c 141 [i 1,i 0,i 0,i 0,i 0,i 0,i 0,i 0,i 0,.ifc 230 (.nilsl),.nilif,.nilif,.nilif,.nilif,.nilif,.nilif,.nilif,i 0,fa,fa,fa,fa,fa,fa,fa,fa,fa]),
 (314,c 195 [i 0,i 0]),
 (315,c 144 [w 314 1 2]),
 (316,.map [] [] 0),
 (317,c 147 [i 256,i 16,.map 316]),
 (318,c 149 [i 0,i 1,fa]),
 (319,c 152 [w 318 1 3]),
 (320,c 155 [tr,i 0,i 0,i 0,i 0,i 0,i 0,i 0,i 0,i 0,i 0,i 0,i 0,i 0,i 0,i 0,i 0,i 9007199254740991,i 9007199254740991,i 9007199254740991,i 9007199254740991,i 9007199254740991,i 9007199254740991,i 9007199254740991,i 9007199254740991,i 9007199254740991,i 9007199254740991,i 9007199254740991,i 9007199254740991,i 9007199254740991,i 9007199254740991,i 9007199254740991,i 9007199254740991]),
 (437,c 178 [u 0,u 0,u 0,u 0,u 0,u 0,u 0,u 0,u 0,u 0,u 0,u 0,u 0,u 0,u 0,u 0,u 0,u 0,u 0,u 0,u 0,u 0,u 0,u 0,u 0,u 0,u 0,u 0,u 0,u 0,u 0,u 0,u 0,u 0,u 0,u 0,u 0,u 0,u 0,u 0,u 0,u 0,u 0,u 0,u 0,u 0,u 0,u 0,u 0,u 0,u 0,u 0,u 0,u 0,u 0,u 0,u 0,u 0,u 0,u 0,u 0,u 0,u 0,u 0,u 0,u 0,u 0,u 0,u 0,u 0,u 0,u 0,u 0,u 0,u 0,u 0,u 0,u 0,u 0,u 0,u 0,u 0,u 0,u 0,u 0,u 0,u 0,u 0,u 0,u 0,u 0,u 0,u 0,u 0,u 0,u 0,u 0,u 0,u 0,u 0,u 0,u 0,u 0,u 0,u 0,u 0,u 0,u 0,u 0,u 0,u 0,u 0,u 0,u 0,u 0,u 0,u 0,u 0,u 0,u 0,u 0,u 0,u 0,u 0,u 0,u 0,u 0,u 0,u 0,u 0,u 0,u 0,u 0,u 0,u 0,u 0,u 0,u 0,u 0,u 0,u 0,u 0,u 0,u 0,u 0,u 0,u 0,u 0,u 0,u 0,u 0,u 0,u 0,u 0,u 0,u 0,u 0,u 0,u 0,u 0,u 0,u 0,u 0,u 0,u 0,u 0,u 0,u 0,u 0,u 0,u 0,u 0,u 0,u 0,u 0,u 0,u 0,u 0,u 0,u 0,u 0,u 0,u 0,u 0,u 0,u 0,u 0,u 0,u 0,u 0,u 0,u 0,u 0,u 0,u 0,u 0,u 0,u 0,u 0,u 0,u 0,u 0,u 0,u 0,u 0,u 0,u 0,u 0,u 0,u 0,u 0,u 0,u 0,u 0,u 0,u 0,u 0,u 0,u 0,u 0,u 0,u 0,u 0,u 0,u 0,u 0,u 0,u 0,u 0,u 0,u 0,u 0,u 0,u 0,u 0,u 0,u 0,u 0,u 0,u 0,u 0,u 0,u 0,u 0,u 0,u 0,u 0,u 0,u 0,u 0,u 0,u 0,u 0,u 0,u 0,u 0,u 0,u 0,u 0,u 0,u 0,u 0,u 0,u 0,u 0,u 0,u 0,u 0,u 0,u 0,u 0,u 0,u 0,u 0,u 0,u 0,u 0,u 0,u 0,u 0,u 0,u 0,u 0,u 0,u 0,u 0,u 0,u 0,u 0,u 0,u 0,u 0,u 0,u 0,u 0,u 0,u 0,u 0,u 0,u 0,u 0,u 0,u 0,u 0,u 0,u 0,u 0,u 0,u 0,u 0,u 0,u 0,u 0,u 0,u 0,u 0,u 0,u 0,u 0,u 0,u 0,u 0,u 0,u 0,u 0,u 0,u 0,u 0,u 0,u 0,u 0,u 0,u 0,u 0,u 0,u 0,u 0,u 0,u 0,u 0,u 0,u 0,u 0,u 0,u 0,u 0,u 0,u 0,u 0,u 0,u 0,u 0,u 0,u 0,u 0,u 0,u 0,u 0,u 0,u 0,u 0,u 0,u 0,u 0,u 0,u 0,u 0,u 0,u 0,u 0,u 0,u 0,u 0,u 0,u 0,u 0,u 0,u 0,u 0,u 0,u 0,u 0,u 0,u 0,u 0,u 0,u 0,u 0,u 0,u 0,u 0,u 0,u 0,u 0,u 0,u 0,u 0,u 0,u 0,u 0,u 0,u 0,u 0,u 0,u 0,u 0,u 0,u 0,u 0,u 0,u 0,u 0,u 0,u 0,u 0,u 0,u 0,u 0,u 0,u 0,u 0,u 0,u 0,u 0,u 0,u 0,u 0,u 0,u 0,u 0,u 0,u 0,u 0,u 0,u 0,u 0,u 0,u 0,u 0,u 0,u 0,u 0,u 0,u 0,u 0,u 0,u 0,u 0,u 0,u 0,u 0,u 0,u 0,u 0,u 0,u 0]),
 (438,c 256 [w 437 456 1,i 0]),
 (439,.map [] [] 0),
 (440,c 184 [i 1,i 32,i 10,i 1,i 2,u 1000003,q 438 0,.map 439]),
 (448,c 105 [i 24,i 8,i 0,i 1,tr,i 0,w 450 32 1,i 24,i 8,i 24,i 0,i 0,i 10,i 16,q 440 0]),
 (450,c 3 [j 1,j 1,j 1,j 1,j 1,j 1,j 1,j 1,j 1,j 1,j 1,j 1,j 1,j 1,j 1,j 1,j 1,j 1,j 1,j 1,j 1,j 1,j 1,j 1,j 1,j 1,j 1,j 1,j 1,j 1,j 1,j 1]),
 (502,c 106 [q 448 0]),
 (549,c 38 [i 0,i 0,i 1,i 1,i 0,.nilsl])]
noncomputable def we1 : T AV := t [(0,q 18 0),(1,i 1000),(4,i 20),(7,q 18 0),(8,fa),(9,i 1000),(10,i 1000)]
noncomputable def wh1 : AH := g 4793 [(16,c 94 [i 1,i 2,tr,w 683 2 1,i 0,i 0,i 0,i 0,i 0,i 0,.nilsl,i 0]),
 (18,c 71 [i 1,i 8,w 28 1 1,.nilsl,q 319 0,q 320 0,q 315 0,q 317 0,i 0,i 0,i 0,i 0,i 0,i 0,i 0,i 0,i 0,i 0,i 0,i 0,i 0,i 0,i 0,i 0,i 0,q 312 0,q 313 0,w 502 1 1,.nilsl,w 16 1 12,w 549 1 6,i 21,i 0,i 0]),
 (28,c 32 [w 48 4 4]),
 (48,c 31 [i 0,i 0,i 23,i 0,i 1,i 0,i 0,i 0,i 2,i 0,i 0,i 0,i 8,i 0,i 0,i 0]),
 (49,c 27 [.nilsl]),
 (50,c 202 [w 49 1 1,i 6]),
 (51,c 191 [i 2,i 0,i 1,i 0,i 0,i 0,i 0,i 1,i 0,i 1,i 0,i 0,i 0,i 2,i 0,i 1,i 0,i 0,i 1,i 0,i 0,i 1,i 0,i 0]),
 (52,c 204 [w 51 8 3]),
 (311,.map [(.int .i64 0,.int .i64 1)] [0] 1),
 (312,c 136 [q 52 0,q 50 0,i 1,i 8,.map 311]),
 (313,c 141 [i 1,i 0,i 0,i 0,i 0,i 0,i 0,i 0,i 0,.ifc 230 (.nilsl),.nilif,.nilif,.nilif,.nilif,.nilif,.nilif,.nilif,i 0,fa,fa,fa,fa,fa,fa,fa,fa,fa]),
 (314,c 195 [i 0,i 0]),
 (315,c 144 [w 314 1 2]),
 (316,.map [] [] 0),
 (317,c 147 [i 256,i 16,.map 316]),
 (318,c 149 [i 0,i 1,fa]),
 (319,c 152 [w 318 1 3]),
 (320,c 155 [tr,i 0,i 0,i 0,i 0,i 0,i 0,i 0,i 0,i 0,i 0,i 0,i 0,i 0,i 0,i 0,i 0,i 9007199254740991,i 9007199254740991,i 9007199254740991,i 9007199254740991,i 9007199254740991,i 9007199254740991,i 9007199254740991,i 9007199254740991,i 9007199254740991,i 9007199254740991,i 9007199254740991,i 9007199254740991,i 9007199254740991,i 9007199254740991,i 9007199254740991,i 9007199254740991]),
 (437,c 178 [u 0,u 0,u 0,u 0,u 0,u 0,u 0,u 0,u 0,u 0,u 0,u 0,u 0,u 0,u 0,u 0,u 0,u 0,u 0,u 0,u 0,u 0,u 0,u 0,u 0,u 0,u 0,u 0,u 0,u 0,u 0,u 0,u 0,u 0,u 0,u 0,u 0,u 0,u 0,u 0,u 0,u 0,u 0,u 0,u 0,u 0,u 0,u 0,u 0,u 0,u 0,u 0,u 0,u 0,u 0,u 0,u 0,u 0,u 0,u 0,u 0,u 0,u 0,u 0,u 0,u 0,u 0,u 0,u 0,u 0,u 0,u 0,u 0,u 0,u 0,u 0,u 0,u 0,u 0,u 0,u 0,u 0,u 0,u 0,u 0,u 0,u 0,u 0,u 0,u 0,u 0,u 0,u 0,u 0,u 0,u 0,u 0,u 0,u 0,u 0,u 0,u 0,u 0,u 0,u 0,u 0,u 0,u 0,u 0,u 0,u 0,u 0,u 0,u 0,u 0,u 0,u 0,u 0,u 0,u 0,u 0,u 0,u 0,u 0,u 0,u 0,u 0,u 0,u 0,u 0,u 0,u 0,u 0,u 0,u 0,u 0,u 1000001,u 2686435866,u 6332874614,u 40731405614,u 1059196888802,u 33567804842138,u 1073760971840094,u 34359860028265478,u 1099514947546369474,u 16737733592128636802,u 0,u 0,u 0,u 0,u 0,u 0,u 0,u 0,u 0,u 0,u 0,u 0,u 0,u 0,u 0,u 0,u 0,u 0,u 0,u 0,u 0,u 0,u 0,u 0,u 0,u 0,u 0,u 0,u 0,u 0,u 0,u 0,u 0,u 0,u 0,u 0,u 0,u 0,u 0,u 0,u 0,u 0,u 0,u 0,u 0,u 0,u 0,u 0,u 0,u 0,u 0,u 0,u 0,u 0,u 0,u 0,u 0,u 0,u 0,u 0,u 0,u 0,u 0,u 0,u 0,u 0,u 0,u 0,u 0,u 0,u 0,u 0,u 0,u 0,u 0,u 0,u 0,u 0,u 0,u 0,u 0,u 0,u 0,u 0,u 0,u 0,u 0,u 0,u 0,u 0,u 0,u 0,u 0,u 0,u 0,u 0,u 0,u 0,u 0,u 0,u 0,u 0,u 0,u 0,u 0,u 0,u 0,u 0,u 0,u 0,u 0,u 0,u 0,u 0,u 0,u 0,u 0,u 0,u 0,u 0,u 0,u 0,u 0,u 0,u 0,u 0,u 0,u 0,u 0,u 0,u 0,u 0,u 0,u 0,u 0,u 0,u 0,u 0,u 0,u 0,u 0,u 0,u 0,u 0,u 0,u 0,u 0,u 0,u 0,u 0,u 0,u 0,u 0,u 0,u 0,u 0,u 0,u 0,u 0,u 0,u 0,u 0,u 0,u 0,u 0,u 0,u 0,u 0,u 0,u 0,u 0,u 0,u 0,u 0,u 0,u 0,u 0,u 0,u 0,u 0,u 0,u 0,u 0,u 0,u 0,u 0,u 0,u 0,u 0,u 0,u 0,u 0,u 0,u 0,u 0,u 0,u 0,u 0,u 0,u 0,u 0,u 0,u 0,u 0,u 0,u 0,u 0,u 0,u 0,u 0,u 0,u 0,u 0,u 0,u 0,u 0,u 0,u 0,u 0,u 0,u 0,u 0,u 0,u 0,u 0,u 0,u 0,u 0,u 0,u 0,u 0,u 0,u 0,u 0,u 0,u 0,u 0,u 0,u 0,u 0,u 0,u 0,u 0,u 0,u 0,u 0,u 0,u 0,u 0,u 0,u 0,u 0,u 0,u 0,u 0,u 0,u 0,u 0,u 0,u 0,u 0,u 0,u 0,u 0,u 0,u 0,u 0,u 0,u 0,u 0,u 0,u 0,u 0,u 0,u 0,u 0,u 0,u 0,u 0,u 0,u 0,u 0,u 0,u 0,u 0,u 0,u 0,u 0,u 0,u 0,u 0,u 0,u 0,u 0,u 0,u 0,u 0,u 0,u 0,u 0,u 0,u 0,u 0,u 0,u 0,u 0,u 0,u 0,u 0,u 0]),
 (438,c 256 [w 437 456 1,i 17]),
 (439,.map [(.int .i64 0,.agg [.int .i64 1,.int .i64 0,.int .i64 44,.int .i64 0,.int .i64 0,.int .i64 0,.int .i64 (-1),.int .u64 0,.int .u64 0,.int .u64 0,.int .u64 0,.int .u64 0,.int .i64 0,.int .i64 10,.int .i64 0,.int .i64 0,.int .i64 0])] [0] 1),
 (440,c 184 [i 1,i 32,i 10,i 1,i 2,u 1000003,q 438 0,.map 439]),
 (448,c 105 [i 24,i 8,i 0,i 1,tr,i 0,w 450 32 1,i 24,i 8,i 24,i 0,i 0,i 10,i 16,q 440 0]),
 (450,c 3 [i 0,j 1,j 1,j 1,j 1,j 1,j 1,j 1,j 1,j 1,j 1,j 1,j 1,j 1,j 1,j 1,j 1,j 1,j 1,j 1,j 1,j 1,j 1,j 1,j 1,j 1,j 1,j 1,j 1,j 1,j 1,j 1]),
 (502,c 106 [q 448 0]),
 (549,c 38 [i 0,i 0,i 1,i 1,i 0,.nilsl]),
 (683,c 20 [.ifc 162 (.agg [i 3,i 1,i 0,i 0]),.ifc 165 (.agg [i 4,i 0,i 0,i 0])])]
noncomputable def we2 : T AV := t [(0,q 18 0),(1,i 1000),(4,i 41),(7,q 18 0),(8,fa),(9,i 1000),(10,i 1000)]
noncomputable def wh2 : AH := g 9036 [(16,c 94 [i 3,i 33,tr,w 6975 3 1,i 0,i 0,i 0,i 0,i 0,i 0,.nilsl,i 0]),
 (18,c 71 [i 1,i 8,w 28 1 1,.nilsl,q 319 0,q 320 0,q 315 0,q 317 0,i 0,i 0,i 0,i 0,i 0,i 0,i 0,i 0,i 0,i 0,i 0,i 0,i 0,i 0,i 0,i 0,i 0,q 312 0,q 313 0,w 502 1 1,w 5753 1 5,w 16 1 12,w 6845 3 6,i 42,i 0,i 0]),
 (28,c 32 [w 48 4 4]),
 (48,c 31 [i 0,i 0,i 23,i 0,i 1,i 0,i 0,i 0,i 2,i 0,i 0,i 0,i 8,i 0,i 0,i 0]),
 (49,c 27 [.nilsl]),
 (50,c 202 [w 49 1 1,i 6]),
 (51,c 191 [i 2,i 0,i 1,i 0,i 0,i 0,i 0,i 1,i 0,i 1,i 0,i 0,i 0,i 2,i 0,i 1,i 0,i 0,i 1,i 0,i 0,i 1,i 0,i 0]),
 (52,c 204 [w 51 8 3]),
 (311,.map [(.int .i64 0,.int .i64 1)] [0] 1),
 (312,c 136 [q 52 0,q 50 0,i 1,i 8,.map 311]),
 (313,c 141 [i 1,i 0,i 0,i 0,i 0,i 0,i 0,i 0,i 0,.ifc 230 (.nilsl),.nilif,.nilif,.nilif,.nilif,.nilif,.nilif,.nilif,i 0,fa,fa,fa,fa,fa,fa,fa,fa,fa]),
 (314,c 195 [i 0,i 0]),
 (315,c 144 [w 314 1 2]),
 (316,.map [] [] 0),
 (317,c 147 [i 256,i 16,.map 316]),
 (318,c 149 [i 0,i 1,fa]),
 (319,c 152 [w 318 1 3]),
 (320,c 155 [tr,i 0,i 0,i 0,i 0,i 0,i 0,i 0,i 0,i 0,i 0,i 0,i 0,i 0,i 0,i 0,i 0,i 9007199254740991,i 9007199254740991,i 9007199254740991,i 9007199254740991,i 9007199254740991,i 9007199254740991,i 9007199254740991,i 9007199254740991,i 9007199254740991,i 9007199254740991,i 9007199254740991,i 9007199254740991,i 9007199254740991,i 9007199254740991,i 9007199254740991,i 9007199254740991]),
 (437,c 178 [u 0,u 3,u 0,u 0,u 1,u 0,u 0,u 0,u 0,u 199178,u 0,u 0,u 0,u 0,u 0,u 0,u 0,u 0,u 0,u 0,u 0,u 0,u 0,u 0,u 0,u 0,u 0,u 0,u 0,u 0,u 0,u 0,u 0,u 0,u 0,u 0,u 0,u 0,u 0,u 0,u 0,u 0,u 0,u 0,u 0,u 0,u 0,u 0,u 0,u 0,u 0,u 0,u 0,u 0,u 0,u 0,u 0,u 0,u 0,u 0,u 0,u 0,u 0,u 0,u 0,u 0,u 0,u 0,u 0,u 0,u 0,u 0,u 0,u 0,u 0,u 0,u 0,u 0,u 0,u 0,u 0,u 0,u 0,u 0,u 0,u 0,u 0,u 0,u 0,u 0,u 0,u 0,u 0,u 0,u 0,u 0,u 0,u 0,u 0,u 0,u 0,u 0,u 0,u 0,u 0,u 0,u 0,u 0,u 0,u 0,u 0,u 0,u 0,u 0,u 0,u 0,u 0,u 0,u 0,u 0,u 0,u 0,u 0,u 0,u 0,u 0,u 0,u 0,u 0,u 0,u 0,u 0,u 0,u 0,u 0,u 0,u 1000001,u 2686435866,u 6332874614,u 40731405614,u 1059196888802,u 33567804842138,u 1073760971840094,u 34359860028265478,u 1099514947546369474,u 16737733592128636802,u 0,u 0,u 0,u 0,u 0,u 0,u 0,u 0,u 0,u 0,u 0,u 0,u 0,u 0,u 0,u 0,u 0,u 0,u 0,u 0,u 0,u 0,u 0,u 0,u 0,u 0,u 0,u 0,u 0,u 0,u 0,u 0,u 0,u 0,u 0,u 0,u 0,u 0,u 0,u 0,u 0,u 0,u 0,u 0,u 0,u 0,u 0,u 0,u 0,u 0,u 0,u 0,u 0,u 0,u 0,u 0,u 0,u 0,u 0,u 0,u 0,u 0,u 0,u 0,u 0,u 0,u 0,u 0,u 0,u 0,u 0,u 0,u 0,u 0,u 0,u 0,u 0,u 0,u 0,u 0,u 0,u 0,u 0,u 0,u 0,u 0,u 0,u 0,u 0,u 0,u 0,u 0,u 0,u 0,u 0,u 0,u 0,u 0,u 0,u 0,u 0,u 0,u 0,u 0,u 0,u 0,u 0,u 0,u 0,u 0,u 0,u 0,u 0,u 0,u 0,u 0,u 0,u 0,u 0,u 0,u 0,u 0,u 0,u 0,u 0,u 0,u 0,u 0,u 0,u 0,u 0,u 0,u 0,u 0,u 0,u 0,u 0,u 0,u 0,u 0,u 0,u 0,u 0,u 0,u 0,u 0,u 0,u 0,u 0,u 0,u 0,u 0,u 0,u 0,u 0,u 0,u 0,u 0,u 0,u 0,u 0,u 0,u 0,u 0,u 0,u 0,u 0,u 0,u 0,u 0,u 0,u 0,u 0,u 0,u 0,u 0,u 0,u 0,u 0,u 0,u 0,u 0,u 0,u 0,u 0,u 0,u 0,u 0,u 0,u 0,u 0,u 0,u 0,u 0,u 0,u 0,u 0,u 0,u 0,u 0,u 0,u 0,u 0,u 0,u 0,u 0,u 0,u 0,u 0,u 0,u 0,u 0,u 0,u 0,u 0,u 0,u 0,u 0,u 0,u 0,u 0,u 0,u 0,u 0,u 0,u 0,u 0,u 0,u 0,u 0,u 0,u 0,u 0,u 0,u 0,u 0,u 0,u 0,u 0,u 0,u 0,u 0,u 0,u 0,u 0,u 0,u 0,u 0,u 0,u 0,u 0,u 0,u 0,u 0,u 0,u 0,u 0,u 0,u 0,u 0,u 0,u 0,u 0,u 0,u 0,u 0,u 0,u 0,u 0,u 0,u 0,u 0,u 0,u 0,u 0,u 0,u 0,u 0,u 0,u 0,u 0,u 0,u 0,u 0,u 0,u 0,u 0,u 0,u 0,u 0,u 0,u 0,u 0,u 0,u 0,u 0,u 0,u 0,u 0,u 0,u 0,u 0,u 0,u 0,u 0,u 0,u 0,u 0,u 0,u 0]),
 (438,c 256 [w 437 456 1,i 33]),
 (439,.map [(.int .i64 0,.agg [.int .i64 3,.int .i64 0,.int .i64 81,.int .i64 0,.int .i64 0,.int .i64 0,.int .i64 0,.int .u64 65,.int .u64 2,.int .u64 0,.int .u64 0,.int .u64 0,.int .i64 4,.int .i64 4,.int .i64 0,.int .i64 73,.int .i64 0])] [2] 3),
 (440,c 184 [i 1,i 32,i 10,i 1,i 2,u 1000003,q 438 0,.map 439]),
 (448,c 105 [i 24,i 8,i 0,i 1,fa,i 0,w 450 32 1,i 24,i 8,i 24,i 0,i 0,i 10,i 16,q 440 0]),
 (450,c 3 [i 0,j 1,j 1,j 1,j 1,j 1,j 1,j 1,j 1,j 1,j 1,j 1,j 1,j 1,j 1,j 1,j 1,j 1,j 1,j 1,j 1,j 1,j 1,j 1,j 1,j 1,j 1,j 1,j 1,j 1,j 1,j 1]),
 (502,c 106 [q 448 0]),
 (5741,c 3 [i 0]),
 (5753,c 118 [i 0,i 0,i 0,i 0,fa]),
 (5959,c 3 [i 0]),
 (6845,c 38 [i 0,i 0,i 1,i 1,i 0,.nilsl,i 0,i 1,i 2,i 26,i 0,w 5741 1 1,i 0,i 2,i 27,i 32,i 0,w 5959 1 1]),
 (6975,c 20 [.ifc 162 (.agg [i 3,i 3,i 0,i 0]),.ifc 162 (.agg [i 3,i 4,i 0,i 0]),.ifc 165 (.agg [i 8,i 0,i 0,i 0])])]
noncomputable def we3 : T AV := t [(0,q 18 0),(1,i 1000),(4,i 57),(7,q 18 0),(8,fa),(9,i 1000),(10,i 1000)]
noncomputable def wh3 : AH := g 13042 [(16,c 94 [i 3,i 33,tr,w 6975 3 1,i 0,i 0,i 0,i 0,i 0,i 0,.nilsl,i 0]),
 (18,c 71 [i 1,i 8,w 28 1 1,.nilsl,q 319 0,q 320 0,q 315 0,q 317 0,i 0,i 0,i 0,i 0,i 0,i 0,i 0,i 0,i 0,i 0,i 0,i 0,i 0,i 0,i 0,i 0,i 0,q 312 0,q 313 0,w 502 1 1,w 5753 1 5,w 16 1 12,w 6845 3 6,i 58,i 0,i 0]),
 (28,c 32 [w 48 4 4]),
 (48,c 31 [i 0,i 0,i 23,i 0,i 1,i 0,i 0,i 0,i 2,i 0,i 0,i 0,i 8,i 0,i 0,i 0]),
 (49,c 27 [.nilsl]),
 (50,c 202 [w 49 1 1,i 6]),
 (51,c 191 [i 2,i 0,i 1,i 0,i 0,i 0,i 0,i 1,i 0,i 1,i 0,i 0,i 0,i 2,i 0,i 1,i 0,i 0,i 1,i 0,i 0,i 1,i 0,i 0]),
 (52,c 204 [w 51 8 3]),
 (311,.map [(.int .i64 0,.int .i64 1)] [0] 1),
 (312,c 136 [q 52 0,q 50 0,i 1,i 8,.map 311]),
 (313,c 141 [i 1,i 0,i 0,i 0,i 0,i 0,i 0,i 0,i 0,.ifc 230 (.nilsl),.nilif,.nilif,.nilif,.nilif,.nilif,.nilif,.nilif,i 0,fa,fa,fa,fa,fa,fa,fa,fa,fa]),
 (314,c 195 [i 0,i 0]),
 (315,c 144 [w 314 1 2]),
 (316,.map [] [] 0),
 (317,c 147 [i 256,i 16,.map 316]),
 (318,c 149 [i 0,i 1,fa]),
 (319,c 152 [w 318 1 3]),
 (320,c 155 [tr,i 0,i 0,i 0,i 0,i 0,i 0,i 0,i 0,i 0,i 0,i 0,i 0,i 0,i 0,i 0,i 0,i 9007199254740991,i 9007199254740991,i 9007199254740991,i 9007199254740991,i 9007199254740991,i 9007199254740991,i 9007199254740991,i 9007199254740991,i 9007199254740991,i 9007199254740991,i 9007199254740991,i 9007199254740991,i 9007199254740991,i 9007199254740991,i 9007199254740991,i 9007199254740991]),
 (437,c 178 [u 0,u 3,u 0,u 0,u 0,u 1,u 1,u 0,u 1,u 133632,u 0,u 0,u 0,u 0,u 0,u 0,u 0,u 0,u 0,u 0,u 0,u 0,u 0,u 0,u 0,u 0,u 0,u 0,u 0,u 0,u 0,u 0,u 0,u 0,u 0,u 0,u 0,u 0,u 0,u 0,u 0,u 0,u 0,u 0,u 0,u 0,u 0,u 0,u 0,u 0,u 0,u 0,u 0,u 0,u 0,u 0,u 0,u 0,u 0,u 0,u 0,u 0,u 0,u 0,u 0,u 0,u 0,u 0,u 0,u 0,u 0,u 0,u 0,u 0,u 0,u 0,u 0,u 0,u 0,u 0,u 0,u 0,u 0,u 0,u 0,u 0,u 0,u 0,u 0,u 0,u 0,u 0,u 0,u 0,u 0,u 0,u 0,u 0,u 0,u 0,u 0,u 0,u 0,u 0,u 0,u 0,u 0,u 0,u 0,u 0,u 0,u 0,u 0,u 0,u 0,u 0,u 0,u 0,u 0,u 0,u 0,u 0,u 0,u 0,u 0,u 0,u 0,u 0,u 0,u 0,u 0,u 0,u 0,u 0,u 0,u 0,u 1000001,u 2686435866,u 6332874614,u 40731405614,u 1059196888802,u 33567804842138,u 1073760971840094,u 34359860028265478,u 1099514947546369474,u 16737733592128636802,u 0,u 0,u 0,u 0,u 0,u 0,u 0,u 0,u 0,u 0,u 0,u 0,u 0,u 0,u 0,u 0,u 0,u 0,u 0,u 0,u 0,u 0,u 0,u 0,u 0,u 0,u 0,u 0,u 0,u 0,u 0,u 0,u 0,u 0,u 0,u 0,u 0,u 0,u 0,u 0,u 0,u 0,u 0,u 0,u 0,u 0,u 0,u 0,u 0,u 0,u 0,u 0,u 0,u 0,u 0,u 0,u 0,u 0,u 0,u 0,u 0,u 0,u 0,u 0,u 0,u 0,u 0,u 0,u 0,u 0,u 0,u 0,u 0,u 0,u 0,u 0,u 0,u 0,u 0,u 0,u 0,u 0,u 0,u 0,u 0,u 0,u 0,u 0,u 0,u 0,u 0,u 0,u 0,u 0,u 0,u 0,u 0,u 0,u 0,u 0,u 0,u 0,u 0,u 0,u 0,u 0,u 0,u 0,u 0,u 0,u 0,u 0,u 0,u 0,u 0,u 0,u 0,u 0,u 0,u 0,u 0,u 0,u 0,u 0,u 0,u 0,u 0,u 0,u 0,u 0,u 0,u 0,u 0,u 0,u 0,u 0,u 0,u 0,u 0,u 0,u 0,u 0,u 0,u 0,u 0,u 0,u 0,u 0,u 0,u 0,u 0,u 0,u 0,u 0,u 0,u 0,u 0,u 0,u 0,u 0,u 0,u 0,u 0,u 0,u 0,u 0,u 0,u 0,u 0,u 0,u 0,u 0,u 0,u 0,u 0,u 0,u 0,u 0,u 0,u 0,u 0,u 0,u 0,u 0,u 0,u 0,u 0,u 0,u 0,u 0,u 0,u 0,u 0,u 0,u 0,u 0,u 0,u 0,u 0,u 0,u 0,u 0,u 0,u 0,u 0,u 0,u 0,u 0,u 0,u 0,u 0,u 0,u 0,u 0,u 0,u 0,u 0,u 0,u 0,u 0,u 0,u 0,u 0,u 0,u 0,u 0,u 0,u 0,u 0,u 0,u 0,u 0,u 0,u 0,u 0,u 0,u 0,u 0,u 0,u 0,u 0,u 0,u 0,u 0,u 0,u 0,u 0,u 0,u 0,u 0,u 0,u 0,u 0,u 0,u 0,u 0,u 0,u 0,u 0,u 0,u 0,u 0,u 0,u 0,u 0,u 0,u 0,u 0,u 0,u 0,u 0,u 0,u 0,u 0,u 0,u 0,u 0,u 0,u 0,u 0,u 0,u 0,u 0,u 0,u 0,u 0,u 0,u 0,u 0,u 0,u 0,u 0,u 0,u 0,u 0,u 0,u 0,u 0,u 0,u 0,u 0,u 0,u 0,u 0,u 0,u 0,u 0,u 0,u 0,u 0]),
 (438,c 256 [w 437 456 1,i 49]),
 (439,.map [(.int .i64 0,.agg [.int .i64 3,.int .i64 0,.int .i64 73,.int .i64 0,.int .i64 0,.int .i64 0,.int .i64 0,.int .u64 65,.int .u64 2,.int .u64 1,.int .u64 133632,.int .u64 0,.int .i64 9,.int .i64 10,.int .i64 0,.int .i64 73,.int .i64 0])] [2] 3),
 (440,c 184 [i 1,i 32,i 10,i 1,i 2,u 1000003,q 438 0,.map 439]),
 (448,c 105 [i 24,i 8,i 0,i 1,fa,i 0,w 450 32 1,i 24,i 8,i 24,i 0,i 0,i 10,i 16,q 440 0]),
 (450,c 3 [i 0,j 1,j 1,j 1,j 1,j 1,j 1,j 1,j 1,j 1,j 1,j 1,j 1,j 1,j 1,j 1,j 1,j 1,j 1,j 1,j 1,j 1,j 1,j 1,j 1,j 1,j 1,j 1,j 1,j 1,j 1,j 1]),
 (502,c 106 [q 448 0]),
 (5741,c 3 [i 0]),
 (5753,c 118 [i 0,i 0,i 0,i 0,fa]),
 (5959,c 3 [i 0]),
 (6845,c 38 [i 0,i 0,i 1,i 1,i 0,.nilsl,i 0,i 1,i 2,i 26,i 0,w 5741 1 1,i 0,i 2,i 27,i 32,i 0,w 5959 1 1]),
 (6975,c 20 [.ifc 162 (.agg [i 3,i 3,i 0,i 0]),.ifc 162 (.agg [i 3,i 4,i 0,i 0]),.ifc 165 (.agg [i 8,i 0,i 0,i 0])])]
noncomputable def wx9 : AX := (.exit 0)
noncomputable def we9 : T AV := t [(0,q 18 0),(1,i 1000),(4,i 74),(5,i 0),(6,fa),(7,q 18 0),(8,fa),(9,i 1000),(10,i 1000),(11,i 74),(12,i 1000),(13,tr),(14,i 73),(15,i 74),(16,q 18 0),(17,q 18 0),(18,q 18 32),(19,i 0),(20,q 18 0),(21,q 18 0),(22,q 18 0),(23,q 18 3),(24,.nilsl),(25,i 0),(26,fa),(51,.tup [.int .i64 0,.bool false]),(52,q 18 0),(53,w 16549 1 1),(54,q 18 0),(55,q 18 0),(56,q 18 33),(57,i 0),(58,.tup [.int .i64 0,.bool false]),(59,i 0),(60,fa),(61,q 18 0),(62,i 0),(63,q 18 0),(64,q 18 33),(65,fa),(66,tr),(67,q 18 0),(68,i 0),(69,i 0)]
noncomputable def wh9 : AH := g 16571 [(16,c 94 [i 4,i 0,fa,.nilsl,i 0,i 0,i 0,i 0,i 0,i 0,.nilsl,i 0]),
 (18,c 71 [i 1,i 8,w 28 1 1,.nilsl,q 319 0,q 320 0,q 315 0,q 317 0,i 0,i 0,i 0,i 0,i 0,i 0,i 0,i 0,i 0,i 0,i 0,i 0,i 0,i 0,i 0,i 0,i 0,q 312 0,q 313 0,w 502 1 1,w 5753 1 5,w 16 1 12,w 16498 4 6,i 75,i 0,i 0]),
 (28,c 32 [w 48 4 4]),
 (48,c 31 [i 0,i 0,i 23,i 0,i 1,i 0,i 0,i 0,i 2,i 0,i 0,i 0,i 8,i 0,i 0,i 0]),
 (49,c 27 [w 15709 1 1]),
 (50,c 202 [w 49 1 1,i 6]),
 (51,c 191 [i 2,i 0,i 1,i 0,i 0,i 0,i 0,i 1,i 0,i 1,i 0,i 0,i 0,i 2,i 0,i 1,i 0,i 0,i 1,i 0,i 0,i 1,i 0,i 0]),
 (52,c 204 [w 51 8 3]),
 (311,.map [] [] 1),
 (312,c 136 [q 52 0,q 50 0,i 1,i 8,.map 311]),
 (313,c 141 [i 1,i 0,i 0,i 0,i 0,i 0,i 0,i 0,i 0,.ifc 230 (.nilsl),.nilif,.nilif,.nilif,.nilif,.nilif,.nilif,.nilif,i 0,fa,fa,fa,fa,fa,fa,fa,fa,fa]),
 (314,c 195 [i 0,i 0]),
 (315,c 144 [w 314 1 2]),
 (316,.map [] [] 0),
 (317,c 147 [i 256,i 16,.map 316]),
 (318,c 149 [i 0,i 1,fa]),
 (319,c 152 [w 318 1 3]),
 (320,c 155 [tr,i 0,i 0,i 0,i 0,i 0,i 0,i 0,i 0,i 0,i 0,i 0,i 0,i 0,i 0,i 0,i 0,i 9007199254740991,i 9007199254740991,i 9007199254740991,i 9007199254740991,i 9007199254740991,i 9007199254740991,i 9007199254740991,i 9007199254740991,i 9007199254740991,i 9007199254740991,i 9007199254740991,i 9007199254740991,i 9007199254740991,i 9007199254740991,i 9007199254740991,i 9007199254740991]),
 (437,c 178 [u 0,u 3,u 0,u 0,u 0,u 0,u 0,u 0,u 0,u 0,u 0,u 0,u 0,u 0,u 0,u 0,u 0,u 0,u 0,u 0,u 0,u 0,u 0,u 0,u 0,u 0,u 0,u 0,u 0,u 0,u 0,u 0,u 0,u 0,u 0,u 0,u 0,u 0,u 0,u 0,u 0,u 0,u 0,u 0,u 0,u 0,u 0,u 0,u 0,u 0,u 0,u 0,u 0,u 0,u 0,u 0,u 0,u 0,u 0,u 0,u 0,u 0,u 0,u 0,u 0,u 0,u 0,u 0,u 0,u 0,u 0,u 0,u 0,u 0,u 0,u 0,u 0,u 0,u 0,u 0,u 0,u 0,u 0,u 0,u 0,u 0,u 0,u 0,u 0,u 0,u 0,u 0,u 0,u 0,u 0,u 0,u 0,u 0,u 0,u 0,u 0,u 0,u 0,u 0,u 0,u 0,u 0,u 0,u 0,u 0,u 0,u 0,u 0,u 0,u 0,u 0,u 0,u 0,u 0,u 0,u 0,u 0,u 0,u 0,u 0,u 0,u 0,u 0,u 0,u 0,u 0,u 0,u 0,u 0,u 0,u 0,u 1000001,u 2686435866,u 6332874614,u 40731405614,u 1059196888802,u 33567804842138,u 1073760971840094,u 34359860028265478,u 1099514947546369474,u 16737733592128636802,u 0,u 0,u 0,u 0,u 0,u 0,u 0,u 0,u 0,u 0,u 0,u 0,u 0,u 0,u 0,u 0,u 0,u 0,u 0,u 0,u 0,u 0,u 0,u 0,u 0,u 0,u 0,u 0,u 0,u 0,u 0,u 0,u 0,u 0,u 0,u 0,u 0,u 0,u 0,u 0,u 0,u 0,u 0,u 0,u 0,u 0,u 0,u 0,u 0,u 0,u 0,u 0,u 0,u 0,u 0,u 0,u 0,u 0,u 0,u 0,u 0,u 0,u 0,u 0,u 0,u 0,u 0,u 0,u 0,u 0,u 0,u 0,u 0,u 0,u 0,u 0,u 0,u 0,u 0,u 0,u 0,u 0,u 0,u 0,u 0,u 0,u 0,u 0,u 0,u 0,u 0,u 0,u 0,u 0,u 0,u 0,u 0,u 0,u 0,u 0,u 0,u 0,u 0,u 0,u 0,u 0,u 0,u 0,u 0,u 0,u 0,u 0,u 0,u 0,u 0,u 0,u 0,u 0,u 0,u 0,u 0,u 0,u 0,u 0,u 0,u 0,u 0,u 0,u 0,u 0,u 0,u 0,u 0,u 0,u 0,u 0,u 0,u 0,u 0,u 0,u 0,u 0,u 0,u 0,u 0,u 0,u 0,u 0,u 0,u 0,u 0,u 0,u 0,u 0,u 0,u 0,u 0,u 0,u 0,u 0,u 0,u 0,u 0,u 0,u 0,u 0,u 0,u 0,u 0,u 0,u 0,u 0,u 0,u 0,u 0,u 0,u 0,u 0,u 0,u 0,u 0,u 0,u 0,u 0,u 0,u 0,u 0,u 0,u 0,u 0,u 0,u 0,u 0,u 0,u 0,u 0,u 0,u 0,u 0,u 0,u 0,u 0,u 0,u 0,u 0,u 0,u 0,u 0,u 0,u 0,u 0,u 0,u 0,u 0,u 0,u 0,u 0,u 0,u 0,u 0,u 0,u 0,u 0,u 0,u 0,u 0,u 0,u 0,u 0,u 0,u 0,u 0,u 0,u 0,u 0,u 0,u 0,u 0,u 0,u 0,u 0,u 0,u 0,u 0,u 0,u 0,u 0,u 0,u 0,u 0,u 0,u 0,u 0,u 0,u 0,u 0,u 0,u 0,u 0,u 0,u 0,u 0,u 0,u 0,u 0,u 0,u 0,u 0,u 0,u 0,u 0,u 0,u 0,u 0,u 0,u 0,u 0,u 0,u 0,u 0,u 0,u 0,u 0,u 0,u 0,u 0,u 0,u 0,u 0,u 0,u 0,u 0,u 0,u 0,u 0,u 0,u 0,u 0,u 0,u 0,u 0,u 0,u 0,u 0,u 0,u 0,u 0,u 0,u 0,u 0]),
 (438,c 256 [w 437 456 1,i 63]),
 (439,.map [] [] 4),
 (440,c 184 [i 1,i 32,i 10,i 1,i 2,u 1000003,q 438 0,.map 439]),
 (448,c 105 [i 24,i 8,i 0,i 1,fa,i 0,w 450 32 1,i 24,i 8,i 24,i 0,i 0,i 10,i 16,q 440 0]),
 (450,c 3 [j 1,j 1,j 1,j 1,j 1,j 1,j 1,j 1,j 1,j 1,j 1,j 1,j 1,j 1,j 1,j 1,j 1,j 1,j 1,j 1,j 1,j 1,j 1,j 1,j 1,j 1,j 1,j 1,j 1,j 1,j 1,j 1]),
 (502,c 106 [q 448 0]),
 (5741,c 3 [i 0]),
 (5753,c 118 [i 0,i 0,i 0,i 0,fa]),
 (5959,c 3 [i 0]),
 (15709,c 3 [i 0]),
 (16498,c 38 [i 0,i 0,i 1,i 1,i 0,.nilsl,i 0,i 1,i 2,i 26,i 0,w 5741 1 1,i 0,i 2,i 27,i 32,i 0,w 5959 1 1,i 0,i 8,i 33,i 75,i 0,.nilsl])]

noncomputable def knt : Nat := 71
noncomputable def kA : AH := g 338 [(57,c 94 [i 0,i 0,fa,.nilsl,i 0,i 0,i 0,i 0,i 0,i 0,.nilsl,i 0]),
 (59,c 71 [i 1,i 1,w 69 1 1,.nilsl,q 336 0,q 337 0,q 332 0,q 334 0,i 0,i 0,i 0,i 0,i 0,i 0,i 0,i 0,i 0,i 0,i 0,i 0,i 0,i 0,i 0,i 0,i 0,q 329 0,q 330 0,.nilsl,.nilsl,w 57 1 12,.nilsl,i 0,i 0,j 1]),
 (69,c 32 [w 89 24 4]),
 (89,c 31 [i 1,i 0,i 0,i 0,i 2,i 0,i 0,i 0,i 8,i 0,i 0,i 0,i 6,i 0,i 0,i 0,i 0,i 0,i 127,i 0,i 1,i 0,i 0,i 0,i 1,i 0,i 0,i 0,i 1,i 0,i 0,i 0,i 8,i 0,i 0,i 0,i 3,i 0,i 7,i 0,i 2,i 0,i 0,i 0,i 2,i 0,i 0,i 0,i 2,i 1,i 0,i 0,i 5,i 0,i 0,i 0,i 8,i 0,i 0,i 0,i 9,i 0,i 0,i 0,i 6,i 0,i 0,i 0,i 10,i 0,i 100,i 0,i 1,i 0,i 2,i 0,i 11,i 0,i 0,i 0,i 11,i 1,i 0,i 0,i 13,i 0,i 3,i 0,i 8,i 0,i 0,i 0,i 1,i 0,i 0,i 0]),
 (90,c 27 [.nilsl]),
 (91,c 202 [w 90 1 1,i 6]),
 (92,c 191 [i 0,i 0,i 0]),
 (93,c 204 [w 92 1 3]),
 (328,.map [] [] 0),
 (329,c 136 [q 93 0,q 91 0,i 1,i 1,.map 328]),
 (330,c 141 [i 1,i 0,i 0,i 0,i 0,i 0,i 0,i 0,i 0,.nilif,.nilif,.nilif,.nilif,.nilif,.nilif,.nilif,.nilif,i 0,fa,fa,fa,fa,fa,fa,fa,fa,fa]),
 (331,c 195 [i 0,i 0]),
 (332,c 144 [w 331 1 2]),
 (333,.map [] [] 0),
 (334,c 147 [i 256,i 16,.map 333]),
 (335,c 149 [i 0,i 1,fa]),
 (336,c 152 [w 335 1 3]),
 (337,c 155 [tr,i 0,i 0,i 0,i 0,i 0,i 0,i 0,i 0,i 0,i 0,i 0,i 0,i 0,i 0,i 0,i 0,i 9007199254740991,i 9007199254740991,i 9007199254740991,i 9007199254740991,i 9007199254740991,i 9007199254740991,i 9007199254740991,i 9007199254740991,i 9007199254740991,i 9007199254740991,i 9007199254740991,i 9007199254740991,i 9007199254740991,i 9007199254740991,i 9007199254740991,i 9007199254740991])]
noncomputable def ke0 : T AV := t [(0,q 59 0),(1,i 20000),(4,i 0),(7,q 59 0),(8,fa),(9,i 20000),(10,i 20000)]
noncomputable def kh0 : AH := g 338 [(57,c 94 [i 0,i 0,fa,.nilsl,i 0,i 0,i 0,i 0,i 0,i 0,.nilsl,i 0]),
 (59,c 71 [i 1,i 1,w 69 1 1,.nilsl,q 336 0,q 337 0,q 332 0,q 334 0,i 0,i 0,i 0,i 0,i 0,i 0,i 0,i 0,i 0,i 0,i 0,i 0,i 0,i 0,i 0,i 0,i 0,q 329 0,q 330 0,.nilsl,.nilsl,w 57 1 12,.nilsl,i 0,i 0,j 1]),
 (69,c 32 [w 89 24 4]),
 (89,c 31 [i 1,i 0,i 0,i 0,i 2,i 0,i 0,i 0,i 8,i 0,i 0,i 0,i 6,i 0,i 0,i 0,i 0,i 0,i 127,i 0,i 1,i 0,i 0,i 0,i 1,i 0,i 0,i 0,i 1,i 0,i 0,i 0,i 8,i 0,i 0,i 0,i 3,i 0,i 7,i 0,i 2,i 0,i 0,i 0,i 2,i 0,i 0,i 0,i 2,i 1,i 0,i 0,i 5,i 0,i 0,i 0,i 8,i 0,i 0,i 0,i 9,i 0,i 0,i 0,i 6,i 0,i 0,i 0,i 10,i 0,i 100,i 0,i 1,i 0,i 2,i 0,i 11,i 0,i 0,i 0,i 11,i 1,i 0,i 0,i 13,i 0,i 3,i 0,i 8,i 0,i 0,i 0,i 1,i 0,i 0,i 0]),
 (90,c 27 [.nilsl]),
 (91,c 202 [w 90 1 1,i 6]),
 (92,c 191 [i 0,i 0,i 0]),
 (93,c 204 [w 92 1 3]),
 (328,.map [] [] 0),
 (329,c 136 [q 93 0,q 91 0,i 1,i 1,.map 328]),
 (330,c 141 [i 1,i 0,i 0,i 0,i 0,i 0,i 0,i 0,i 0,.nilif,.nilif,.nilif,.nilif,.nilif,.nilif,.nilif,.nilif,i 0,fa,fa,fa,fa,fa,fa,fa,fa,fa]),
 (331,c 195 [i 0,i 0]),
 (332,c 144 [w 331 1 2]),
 (333,.map [] [] 0),
 (334,c 147 [i 256,i 16,.map 333]),
 (335,c 149 [i 0,i 1,fa]),
 (336,c 152 [w 335 1 3]),
 (337,c 155 [tr,i 0,i 0,i 0,i 0,i 0,i 0,i 0,i 0,i 0,i 0,i 0,i 0,i 0,i 0,i 0,i 0,i 9007199254740991,i 9007199254740991,i 9007199254740991,i 9007199254740991,i 9007199254740991,i 9007199254740991,i 9007199254740991,i 9007199254740991,i 9007199254740991,i 9007199254740991,i 9007199254740991,i 9007199254740991,i 9007199254740991,i 9007199254740991,i 9007199254740991,i 9007199254740991])]
noncomputable def ke1 : T AV := t [(0,q 59 0),(1,i 20000),(4,i 22),(7,q 59 0),(8,fa),(9,i 20000),(10,i 20000)]
noncomputable def kh1 : AH := g 4341 [(57,c 94 [i 6,i 0,fa,.nilsl,i 0,i 0,i 0,i 0,i 0,i 0,.nilsl,i 0]),
 (59,c 71 [i 1,i 1,w 69 1 1,.nilsl,q 336 0,q 337 0,q 332 0,q 334 0,i 0,i 0,i 0,i 0,i 0,i 0,i 0,i 0,i 0,i 0,i 0,i 0,i 0,i 0,i 0,i 0,i 0,q 329 0,q 330 0,w 1240 1 1,w 4276 1 5,w 57 1 12,w 4313 6 6,i 22,i 0,i 0]),
 (69,c 32 [w 89 24 4]),
 (89,c 31 [i 1,i 0,i 0,i 0,i 2,i 0,i 0,i 0,i 8,i 0,i 0,i 0,i 6,i 0,i 0,i 0,i 0,i 0,i 127,i 0,i 1,i 0,i 0,i 0,i 1,i 0,i 0,i 0,i 1,i 0,i 0,i 0,i 8,i 0,i 0,i 0,i 3,i 0,i 7,i 0,i 2,i 0,i 0,i 0,i 2,i 0,i 0,i 0,i 2,i 1,i 0,i 0,i 5,i 0,i 0,i 0,i 8,i 0,i 0,i 0,i 9,i 0,i 0,i 0,i 6,i 0,i 0,i 0,i 10,i 0,i 100,i 0,i 1,i 0,i 2,i 0,i 11,i 0,i 0,i 0,i 11,i 1,i 0,i 0,i 13,i 0,i 3,i 0,i 8,i 0,i 0,i 0,i 1,i 0,i 0,i 0]),
 (90,c 27 [.nilsl]),
 (91,c 202 [w 90 1 1,i 6]),
 (92,c 191 [i 2,i 0,i 1]),
 (93,c 204 [w 92 1 3]),
 (328,.map [(.int .i64 0,.int .i64 1)] [0] 1),
 (329,c 136 [q 93 0,q 91 0,i 1,i 1,.map 328]),
 (330,c 141 [i 1,i 0,i 0,i 0,i 0,i 0,i 0,i 0,i 0,.ifc 230 (.nilsl),.nilif,.nilif,.nilif,.nilif,.nilif,.nilif,.nilif,i 0,fa,fa,fa,fa,fa,fa,fa,fa,fa]),
 (331,c 195 [i 0,i 0]),
 (332,c 144 [w 331 1 2]),
 (333,.map [] [] 0),
 (334,c 147 [i 256,i 16,.map 333]),
 (335,c 149 [i 0,i 1,fa]),
 (336,c 152 [w 335 1 3]),
 (337,c 155 [tr,i 0,i 0,i 0,i 0,i 0,i 0,i 0,i 0,i 0,i 0,i 0,i 0,i 0,i 0,i 0,i 0,i 9007199254740991,i 9007199254740991,i 9007199254740991,i 9007199254740991,i 9007199254740991,i 9007199254740991,i 9007199254740991,i 9007199254740991,i 9007199254740991,i 9007199254740991,i 9007199254740991,i 9007199254740991,i 9007199254740991,i 9007199254740991,i 9007199254740991,i 9007199254740991]),
 (1175,c 178 [u 66,u 1,u 0,u 0,u 0,u 0,u 0,u 0,u 0,u 197122,u 0,u 0,u 0,u 0,u 0,u 0,u 0,u 0,u 0,u 0,u 0,u 0,u 0,u 0,u 0,u 0,u 0,u 0,u 0,u 0,u 0,u 0,u 0,u 0,u 0,u 0,u 0,u 0,u 0,u 0,u 0,u 0,u 0,u 0,u 0,u 0,u 0,u 0,u 0,u 0,u 0,u 0,u 0,u 0,u 0,u 0,u 0,u 0,u 0,u 0,u 0,u 0,u 0,u 0,u 0,u 0,u 0,u 0,u 0,u 0,u 0,u 0,u 0,u 0,u 0,u 0,u 0,u 0,u 0,u 0,u 0,u 0,u 0,u 0,u 0,u 0,u 0,u 0,u 0,u 0,u 0,u 0,u 0,u 0,u 0,u 0,u 0,u 0,u 0,u 0,u 0,u 0,u 0,u 0,u 0,u 0,u 0,u 0,u 0,u 0,u 0,u 0,u 0,u 0,u 0,u 0,u 0,u 0,u 0,u 0,u 0,u 0,u 0,u 0,u 0,u 0,u 0,u 0,u 0,u 0,u 0,u 0,u 0,u 0,u 0,u 0,u 1000001,u 2686435865,u 0,u 0,u 0,u 0,u 0,u 0,u 0,u 0,u 0,u 0,u 0,u 0,u 0,u 0,u 0,u 0,u 0,u 0,u 0,u 0,u 0,u 0,u 0,u 0,u 0,u 0,u 0,u 0,u 0,u 0,u 0,u 0,u 0,u 0,u 0,u 0,u 0,u 0,u 0,u 0,u 0,u 0,u 0,u 0,u 0,u 0,u 0,u 0,u 0,u 0,u 0,u 0,u 0,u 0,u 0,u 0,u 0,u 0,u 0,u 0,u 0,u 0]),
 (1176,c 256 [w 1175 200 1,i 13]),
 (1177,.map [] [] 1),
 (1178,c 184 [i 1,i 32,i 2,i 1,i 2,u 1000003,q 1176 0,.map 1177]),
 (1186,c 105 [i 128,i 8,i 0,i 1,tr,i 0,w 1188 32 1,i 128,i 8,i 128,i 0,i 0,i 2,i 0,q 1178 0]),
 (1188,c 3 [i 0,j 1,j 1,j 1,j 1,j 1,j 1,j 1,j 1,j 1,j 1,j 1,j 1,j 1,j 1,j 1,j 1,j 1,j 1,j 1,j 1,j 1,j 1,j 1,j 1,j 1,j 1,j 1,j 1,j 1,j 1,j 1]),
 (1240,c 106 [q 1186 0]),
 (4264,c 3 [i 0]),
 (4276,c 118 [i 0,i 0,i 0,i 0,tr]),
 (4313,c 38 [i 0,i 1,i 1,i 1,i 290,.nilsl,i 0,i 2,i 2,i 2,i 270,.nilsl,i 0,i 8,i 3,i 3,i 290,.nilsl,i 0,i 6,i 4,i 4,i 292,.nilsl,i 0,i 0,i 5,i 5,i 0,.nilsl,i 0,i 1,i 6,i 22,i 0,w 4264 1 1])]
noncomputable def ke2 : T AV := t [(0,q 59 0),(1,i 20000),(4,i 44),(7,q 59 0),(8,fa),(9,i 20000),(10,i 20000)]
noncomputable def kh2 : AH := g 8382 [(57,c 94 [i 9,i 0,fa,.nilsl,i 0,i 0,i 0,i 0,i 0,i 0,.nilsl,i 0]),
 (59,c 71 [i 1,i 1,w 69 1 1,.nilsl,q 336 0,q 337 0,q 332 0,q 334 0,i 0,i 0,i 0,i 0,i 0,i 0,i 0,i 0,i 0,i 0,i 0,i 0,i 0,i 0,i 0,i 0,i 0,q 329 0,q 330 0,w 1240 1 1,w 5372 2 5,w 57 1 12,w 8354 9 6,i 44,i 0,i 0]),
 (69,c 32 [w 89 24 4]),
 (89,c 31 [i 1,i 0,i 0,i 0,i 2,i 0,i 0,i 0,i 8,i 0,i 0,i 0,i 6,i 0,i 0,i 0,i 0,i 0,i 127,i 0,i 1,i 0,i 0,i 0,i 1,i 0,i 0,i 0,i 1,i 0,i 0,i 0,i 8,i 0,i 0,i 0,i 3,i 0,i 7,i 0,i 2,i 0,i 0,i 0,i 2,i 0,i 0,i 0,i 2,i 1,i 0,i 0,i 5,i 0,i 0,i 0,i 8,i 0,i 0,i 0,i 9,i 0,i 0,i 0,i 6,i 0,i 0,i 0,i 10,i 0,i 100,i 0,i 1,i 0,i 2,i 0,i 11,i 0,i 0,i 0,i 11,i 1,i 0,i 0,i 13,i 0,i 3,i 0,i 8,i 0,i 0,i 0,i 1,i 0,i 0,i 0]),
 (90,c 27 [.nilsl]),
 (91,c 202 [w 90 1 1,i 6]),
 (92,c 191 [i 2,i 0,i 1]),
 (93,c 204 [w 92 1 3]),
 (328,.map [(.int .i64 0,.int .i64 1)] [0] 1),
 (329,c 136 [q 93 0,q 91 0,i 1,i 1,.map 328]),
 (330,c 141 [i 1,i 0,i 0,i 0,i 0,i 0,i 0,i 0,i 0,.ifc 230 (.nilsl),.nilif,.nilif,.nilif,.nilif,.nilif,.nilif,.nilif,i 0,fa,fa,fa,fa,fa,fa,fa,fa,fa]),
 (331,c 195 [i 0,i 0]),
 (332,c 144 [w 331 1 2]),
 (333,.map [] [] 0),
 (334,c 147 [i 256,i 16,.map 333]),
 (335,c 149 [i 0,i 1,fa]),
 (336,c 152 [w 335 1 3]),
 (337,c 155 [tr,i 0,i 0,i 0,i 0,i 0,i 0,i 0,i 0,i 0,i 0,i 0,i 0,i 0,i 0,i 0,i 0,i 9007199254740991,i 9007199254740991,i 9007199254740991,i 9007199254740991,i 9007199254740991,i 9007199254740991,i 9007199254740991,i 9007199254740991,i 9007199254740991,i 9007199254740991,i 9007199254740991,i 9007199254740991,i 9007199254740991,i 9007199254740991,i 9007199254740991,i 9007199254740991]),
 (1175,c 178 [u 0,u 3,u 0,u 0,u 0,u 0,u 0,u 0,u 0,u 131586,u 0,u 0,u 0,u 0,u 0,u 0,u 0,u 0,u 0,u 0,u 0,u 0,u 0,u 0,u 0,u 0,u 0,u 0,u 0,u 0,u 0,u 0,u 0,u 0,u 0,u 0,u 0,u 0,u 0,u 0,u 0,u 0,u 0,u 0,u 0,u 0,u 0,u 0,u 0,u 0,u 0,u 0,u 0,u 0,u 0,u 0,u 0,u 0,u 0,u 0,u 0,u 0,u 0,u 0,u 0,u 0,u 0,u 0,u 0,u 0,u 0,u 0,u 0,u 0,u 0,u 0,u 0,u 0,u 0,u 0,u 0,u 0,u 0,u 0,u 0,u 0,u 0,u 0,u 0,u 0,u 0,u 0,u 0,u 0,u 0,u 0,u 0,u 0,u 0,u 0,u 0,u 0,u 0,u 0,u 0,u 0,u 0,u 0,u 0,u 0,u 0,u 0,u 0,u 0,u 0,u 0,u 0,u 0,u 0,u 0,u 0,u 0,u 0,u 0,u 0,u 0,u 0,u 0,u 0,u 0,u 0,u 0,u 0,u 0,u 0,u 0,u 1000001,u 2686435865,u 0,u 0,u 0,u 0,u 0,u 0,u 0,u 0,u 0,u 0,u 0,u 0,u 0,u 0,u 0,u 0,u 0,u 0,u 0,u 0,u 0,u 0,u 0,u 0,u 0,u 0,u 0,u 0,u 0,u 0,u 0,u 0,u 0,u 0,u 0,u 0,u 0,u 0,u 0,u 0,u 0,u 0,u 0,u 0,u 0,u 0,u 0,u 0,u 0,u 0,u 0,u 0,u 0,u 0,u 0,u 0,u 0,u 0,u 0,u 0,u 0,u 0]),
 (1176,c 256 [w 1175 200 1,i 28]),
 (1177,.map [] [] 3),
 (1178,c 184 [i 1,i 32,i 2,i 1,i 2,u 1000003,q 1176 0,.map 1177]),
 (1186,c 105 [i 128,i 8,i 0,i 1,tr,i 0,w 1188 32 1,i 128,i 8,i 128,i 0,i 0,i 2,i 0,q 1178 0]),
 (1188,c 3 [i 0,j 1,j 1,j 1,j 1,j 1,j 1,j 1,j 1,j 1,j 1,j 1,j 1,j 1,j 1,j 1,j 1,j 1,j 1,j 1,j 1,j 1,j 1,j 1,j 1,j 1,j 1,j 1,j 1,j 1,j 1,j 1]),
 (1240,c 106 [q 1186 0]),
 (4264,c 3 [i 0]),
 (5360,c 3 [i 1]),
 (5372,c 118 [i 0,i 0,i 0,i 0,tr,i 0,i 0,i 1,i 0,tr]),
 (8354,c 38 [i 0,i 1,i 1,i 1,i 290,.nilsl,i 0,i 2,i 2,i 2,i 270,.nilsl,i 0,i 8,i 3,i 3,i 290,.nilsl,i 0,i 6,i 4,i 4,i 292,.nilsl,i 0,i 0,i 5,i 5,i 0,.nilsl,i 0,i 1,i 6,i 22,i 0,w 4264 1 1,i 0,i 1,i 23,i 29,i 0,w 5360 1 1,i 0,i 1,i 30,i 43,i 7,.nilsl,i 0,i 8,i 44,i 44,i 291,.nilsl])]
noncomputable def ke3 : T AV := t [(0,q 59 0),(1,i 20000),(4,i 65),(7,q 59 0),(8,fa),(9,i 20000),(10,i 20000)]
noncomputable def kh3 : AH := g 12473 [(57,c 94 [i 10,i 55,tr,w 10429 1 1,i 0,i 0,i 0,i 0,i 0,i 0,w 10430 1 1,i 0]),
 (59,c 71 [i 1,i 1,w 69 1 1,.nilsl,q 336 0,q 337 0,q 332 0,q 334 0,i 0,i 0,i 0,i 0,i 0,i 0,i 0,i 0,i 0,i 0,i 0,i 0,i 0,i 0,i 0,i 0,i 0,q 329 0,q 330 0,w 1240 1 1,w 5372 2 5,w 57 1 12,w 10261 10 6,i 65,i 0,i 0]),
 (69,c 32 [w 89 24 4]),
 (89,c 31 [i 1,i 0,i 0,i 0,i 2,i 0,i 0,i 0,i 8,i 0,i 0,i 0,i 6,i 0,i 0,i 0,i 0,i 0,i 127,i 0,i 1,i 0,i 0,i 0,i 1,i 0,i 0,i 0,i 1,i 0,i 0,i 0,i 8,i 0,i 0,i 0,i 3,i 0,i 7,i 0,i 2,i 0,i 0,i 0,i 2,i 0,i 0,i 0,i 2,i 1,i 0,i 0,i 5,i 0,i 0,i 0,i 8,i 0,i 0,i 0,i 9,i 0,i 0,i 0,i 6,i 0,i 0,i 0,i 10,i 0,i 100,i 0,i 1,i 0,i 2,i 0,i 11,i 0,i 0,i 0,i 11,i 1,i 0,i 0,i 13,i 0,i 3,i 0,i 8,i 0,i 0,i 0,i 1,i 0,i 0,i 0]),
 (90,c 27 [.nilsl]),
 (91,c 202 [w 90 1 1,i 6]),
 (92,c 191 [i 2,i 0,i 1]),
 (93,c 204 [w 92 1 3]),
 (328,.map [(.int .i64 0,.int .i64 1)] [0] 1),
 (329,c 136 [q 93 0,q 91 0,i 1,i 1,.map 328]),
 (330,c 141 [i 1,i 0,i 0,i 0,i 0,i 0,i 0,i 0,i 0,.ifc 230 (.nilsl),.nilif,.nilif,.nilif,.nilif,.nilif,.nilif,.nilif,i 0,fa,fa,fa,fa,fa,fa,fa,fa,fa]),
 (331,c 195 [i 0,i 0]),
 (332,c 144 [w 331 1 2]),
 (333,.map [] [] 0),
 (334,c 147 [i 256,i 16,.map 333]),
 (335,c 149 [i 0,i 1,fa]),
 (336,c 152 [w 335 1 3]),
 (337,c 155 [tr,i 0,i 0,i 0,i 0,i 0,i 0,i 0,i 0,i 0,i 0,i 0,i 0,i 0,i 0,i 0,i 0,i 9007199254740991,i 9007199254740991,i 9007199254740991,i 9007199254740991,i 9007199254740991,i 9007199254740991,i 9007199254740991,i 9007199254740991,i 9007199254740991,i 9007199254740991,i 9007199254740991,i 9007199254740991,i 9007199254740991,i 9007199254740991,i 9007199254740991,i 9007199254740991]),
 (1175,c 178 [u 0,u 3,u 0,u 0,u 0,u 0,u 0,u 0,u 1,u 197121,u 0,u 0,u 0,u 0,u 0,u 0,u 0,u 0,u 0,u 0,u 0,u 0,u 0,u 0,u 0,u 0,u 0,u 0,u 0,u 0,u 0,u 0,u 0,u 0,u 0,u 0,u 0,u 0,u 0,u 0,u 0,u 0,u 0,u 0,u 0,u 0,u 0,u 0,u 0,u 0,u 0,u 0,u 0,u 0,u 0,u 0,u 0,u 0,u 0,u 0,u 0,u 0,u 0,u 0,u 0,u 0,u 0,u 0,u 0,u 0,u 0,u 0,u 0,u 0,u 0,u 0,u 0,u 0,u 0,u 0,u 0,u 0,u 0,u 0,u 0,u 0,u 0,u 0,u 0,u 0,u 0,u 0,u 0,u 0,u 0,u 0,u 0,u 0,u 0,u 0,u 0,u 0,u 0,u 0,u 0,u 0,u 0,u 0,u 0,u 0,u 0,u 0,u 0,u 0,u 0,u 0,u 0,u 0,u 0,u 0,u 0,u 0,u 0,u 0,u 0,u 0,u 0,u 0,u 0,u 0,u 0,u 0,u 0,u 0,u 0,u 0,u 1000003,u 2686435865,u 0,u 0,u 0,u 0,u 0,u 0,u 0,u 0,u 0,u 0,u 0,u 0,u 0,u 0,u 0,u 0,u 0,u 0,u 0,u 0,u 0,u 0,u 0,u 0,u 0,u 0,u 0,u 0,u 0,u 0,u 0,u 0,u 0,u 0,u 0,u 0,u 0,u 0,u 0,u 0,u 0,u 0,u 0,u 0,u 0,u 0,u 0,u 0,u 0,u 0,u 0,u 0,u 0,u 0,u 0,u 0,u 0,u 0,u 0,u 0,u 0,u 0]),
 (1176,c 256 [w 1175 200 1,i 44]),
 (1177,.map [(.int .i64 0,.agg [.int .i64 2,.int .i64 0,.int .i64 63,.int .i64 0,.int .i64 0,.int .i64 0,.int .i64 0,.int .u64 0,.int .u64 0,.int .u64 0,.int .u64 131586,.int .u64 0,.int .i64 0,.int .i64 0,.int .i64 0,.int .i64 0,.int .i64 0])] [4] 5),
 (1178,c 184 [i 1,i 32,i 2,i 1,i 2,u 1000003,q 1176 0,.map 1177]),
 (1186,c 105 [i 128,i 8,i 0,i 1,tr,i 0,w 1188 32 1,i 128,i 8,i 128,i 0,i 0,i 2,i 0,q 1178 0]),
 (1188,c 3 [i 0,j 1,j 1,j 1,j 1,j 1,j 1,j 1,j 1,j 1,j 1,j 1,j 1,j 1,j 1,j 1,j 1,j 1,j 1,j 1,j 1,j 1,j 1,j 1,j 1,j 1,j 1,j 1,j 1,j 1,j 1,j 1]),
 (1240,c 106 [q 1186 0]),
 (4264,c 3 [i 0]),
 (5360,c 3 [i 1]),
 (5372,c 118 [i 0,i 0,i 0,i 0,fa,i 0,i 0,i 1,i 0,tr]),
 (10261,c 38 [i 0,i 1,i 1,i 1,i 290,.nilsl,i 0,i 2,i 2,i 2,i 270,.nilsl,i 0,i 8,i 3,i 3,i 290,.nilsl,i 0,i 6,i 4,i 4,i 292,.nilsl,i 0,i 0,i 5,i 5,i 0,.nilsl,i 0,i 1,i 6,i 22,i 0,w 4264 1 1,i 0,i 1,i 23,i 29,i 0,w 5360 1 1,i 0,i 1,i 30,i 43,i 7,.nilsl,i 0,i 8,i 44,i 44,i 291,.nilsl,i 0,i 3,i 45,i 54,i 7,.nilsl]),
 (10429,c 20 [.ifc 162 (.agg [i 3,i 2,i 0,i 0])]),
 (10430,c 3 [i 0])]
noncomputable def ke4 : T AV := t [(0,q 59 0),(1,i 20000),(4,i 87),(7,q 59 0),(8,fa),(9,i 20000),(10,i 20000)]
noncomputable def kh4 : AH := g 16567 [(57,c 94 [i 22,i 87,tr,w 16555 3 1,i 0,i 0,i 0,i 0,i 0,i 0,.nilsl,i 0]),
 (59,c 71 [i 1,i 1,w 69 1 1,.nilsl,q 336 0,q 337 0,q 332 0,q 334 0,i 0,i 0,i 0,i 0,i 0,i 0,i 0,i 0,i 0,i 0,i 0,i 0,i 0,i 0,i 0,i 0,i 0,q 329 0,q 330 0,w 1240 1 1,w 5372 2 5,w 57 1 12,w 16424 22 6,i 87,i 0,i 0]),
 (69,c 32 [w 89 24 4]),
 (89,c 31 [i 1,i 0,i 0,i 0,i 2,i 0,i 0,i 0,i 8,i 0,i 0,i 0,i 6,i 0,i 0,i 0,i 0,i 0,i 127,i 0,i 1,i 0,i 0,i 0,i 1,i 0,i 0,i 0,i 1,i 0,i 0,i 0,i 8,i 0,i 0,i 0,i 3,i 0,i 7,i 0,i 2,i 0,i 0,i 0,i 2,i 0,i 0,i 0,i 2,i 1,i 0,i 0,i 5,i 0,i 0,i 0,i 8,i 0,i 0,i 0,i 9,i 0,i 0,i 0,i 6,i 0,i 0,i 0,i 10,i 0,i 100,i 0,i 1,i 0,i 2,i 0,i 11,i 0,i 0,i 0,i 11,i 1,i 0,i 0,i 13,i 0,i 3,i 0,i 8,i 0,i 0,i 0,i 1,i 0,i 0,i 0]),
 (90,c 27 [.nilsl]),
 (91,c 202 [w 90 1 1,i 6]),
 (92,c 191 [i 2,i 0,i 1]),
 (93,c 204 [w 92 1 3]),
 (328,.map [(.int .i64 0,.int .i64 1)] [0] 1),
 (329,c 136 [q 93 0,q 91 0,i 1,i 1,.map 328]),
 (330,c 141 [i 1,i 0,i 0,i 0,i 0,i 0,i 0,i 0,i 0,.ifc 230 (.nilsl),.nilif,.nilif,.nilif,.nilif,.nilif,.nilif,.nilif,i 0,fa,fa,fa,fa,fa,fa,fa,fa,fa]),
 (331,c 195 [i 0,i 0]),
 (332,c 144 [w 331 1 2]),
 (333,.map [] [] 0),
 (334,c 147 [i 256,i 16,.map 333]),
 (336,c 152 [w 15408 2 3]),
 (337,c 155 [tr,i 0,i 0,i 0,i 0,i 0,i 0,i 0,i 0,i 0,i 0,i 0,i 0,i 0,i 0,i 0,i 0,i 9007199254740991,i 100,i 9007199254740991,i 9007199254740991,i 9007199254740991,i 9007199254740991,i 9007199254740991,i 9007199254740991,i 9007199254740991,i 9007199254740991,i 9007199254740991,i 9007199254740991,i 9007199254740991,i 9007199254740991,i 9007199254740991,i 9007199254740991]),
 (1175,c 178 [u 0,u 3,u 65,u 1,u 0,u 0,u 0,u 0,u 2,u 197120,u 0,u 0,u 0,u 0,u 0,u 0,u 0,u 0,u 0,u 0,u 0,u 0,u 0,u 0,u 0,u 0,u 0,u 0,u 0,u 0,u 0,u 0,u 0,u 0,u 0,u 0,u 0,u 0,u 0,u 0,u 0,u 0,u 0,u 0,u 0,u 0,u 0,u 0,u 0,u 0,u 0,u 0,u 0,u 0,u 0,u 0,u 0,u 0,u 0,u 0,u 0,u 0,u 0,u 0,u 0,u 0,u 0,u 0,u 0,u 0,u 0,u 0,u 0,u 0,u 0,u 0,u 0,u 0,u 0,u 0,u 0,u 0,u 0,u 0,u 0,u 0,u 0,u 0,u 0,u 0,u 0,u 0,u 0,u 0,u 0,u 0,u 0,u 0,u 0,u 0,u 0,u 0,u 0,u 0,u 0,u 0,u 0,u 0,u 0,u 0,u 0,u 0,u 0,u 0,u 0,u 0,u 0,u 0,u 0,u 0,u 0,u 0,u 0,u 0,u 0,u 0,u 0,u 0,u 0,u 0,u 0,u 0,u 0,u 0,u 0,u 0,u 1000003,u 2686435864,u 0,u 0,u 0,u 0,u 0,u 0,u 0,u 0,u 0,u 0,u 0,u 0,u 0,u 0,u 0,u 0,u 0,u 0,u 0,u 0,u 0,u 0,u 0,u 0,u 0,u 0,u 0,u 0,u 0,u 0,u 0,u 0,u 0,u 0,u 0,u 0,u 0,u 0,u 0,u 0,u 0,u 0,u 0,u 0,u 0,u 0,u 0,u 0,u 0,u 0,u 0,u 0,u 0,u 0,u 0,u 0,u 0,u 0,u 0,u 0,u 0,u 0]),
 (1176,c 256 [w 1175 200 1,i 51]),
 (1177,.map [] [] 6),
 (1178,c 184 [i 1,i 32,i 2,i 1,i 2,u 1000003,q 1176 0,.map 1177]),
 (1186,c 105 [i 128,i 8,i 0,i 1,fa,i 0,w 1188 32 1,i 128,i 8,i 128,i 0,i 0,i 2,i 0,q 1178 0]),
 (1188,c 3 [i 0,j 1,j 1,j 1,j 1,j 1,j 1,j 1,j 1,j 1,j 1,j 1,j 1,j 1,j 1,j 1,j 1,j 1,j 1,j 1,j 1,j 1,j 1,j 1,j 1,j 1,j 1,j 1,j 1,j 1,j 1,j 1]),
 (1240,c 106 [q 1186 0]),
 (4264,c 3 [i 0]),
 (5360,c 3 [i 1]),
 (5372,c 118 [i 0,i 0,i 0,i 0,fa,i 0,i 0,i 1,i 0,fa]),
 (10430,c 3 [i 0]),
 (13108,c 3 [i 1]),
 (15408,c 149 [i 0,i 1,fa,i 1,i 2,tr]),
 (16424,c 38 [i 0,i 1,i 1,i 1,i 290,.nilsl,i 0,i 2,i 2,i 2,i 270,.nilsl,i 0,i 8,i 3,i 3,i 290,.nilsl,i 0,i 6,i 4,i 4,i 292,.nilsl,i 0,i 0,i 5,i 5,i 0,.nilsl,i 0,i 1,i 6,i 22,i 0,w 4264 1 1,i 0,i 1,i 23,i 29,i 0,w 5360 1 1,i 0,i 1,i 30,i 43,i 7,.nilsl,i 0,i 8,i 44,i 44,i 291,.nilsl,i 0,i 3,i 45,i 54,i 7,.nilsl,i 0,i 2,i 55,i 66,i 0,w 10430 1 1,i 0,i 2,i 67,i 67,i 270,.nilsl,i 0,i 2,i 68,i 75,i 0,w 13108 1 1,i 0,i 5,i 76,i 76,i 0,.nilsl,i 0,i 8,i 77,i 77,i 292,.nilsl,i 0,i 9,i 78,i 78,i 292,.nilsl,i 0,i 6,i 79,i 79,i 0,.nilsl,i 0,i 10,i 80,i 80,i 0,.nilsl,i 0,i 1,i 81,i 83,i 120,.nilsl,i 0,i 11,i 84,i 84,i 292,.nilsl,i 0,i 11,i 85,i 85,i 0,.nilsl,i 0,i 13,i 86,i 86,i 270,.nilsl]),
 (16555,c 20 [.ifc 162 (.agg [i 3,i 3,i 0,i 0]),.ifc 162 (.agg [i 3,i 4,i 0,i 0]),.ifc 165 (.agg [i 8,i 0,i 0,i 0])])]
noncomputable def ke5 : T AV := t [(0,q 59 0),(1,i 20000),(4,i 106),(7,q 59 0),(8,fa),(9,i 20000),(10,i 20000)]
noncomputable def kh5 : AH := g 20667 [(57,c 94 [i 22,i 87,tr,.sl 16555 1 2 1 .any,i 0,j 1,i 0,i 0,i 0,i 0,.nilsl,i 0]),
 (59,c 71 [i 1,i 1,w 69 1 1,.nilsl,q 336 0,q 337 0,q 332 0,q 334 0,i 0,i 0,i 0,i 0,i 0,i 0,i 0,i 0,i 0,i 0,i 0,i 0,i 0,i 0,i 0,i 0,i 0,q 329 0,q 330 0,w 1240 1 1,w 5372 2 5,w 57 1 12,w 16424 22 6,i 106,i 0,i 0]),
 (69,c 32 [w 89 24 4]),
 (89,c 31 [i 1,i 0,i 0,i 0,i 2,i 0,i 0,i 0,i 8,i 0,i 0,i 0,i 6,i 0,i 0,i 0,i 0,i 0,i 127,i 0,i 1,i 0,i 0,i 0,i 1,i 0,i 0,i 0,i 1,i 0,i 0,i 0,i 8,i 0,i 0,i 0,i 3,i 0,i 7,i 0,i 2,i 0,i 0,i 0,i 2,i 0,i 0,i 0,i 2,i 1,i 0,i 0,i 5,i 0,i 0,i 0,i 8,i 0,i 0,i 0,i 9,i 0,i 0,i 0,i 6,i 0,i 0,i 0,i 10,i 0,i 100,i 0,i 1,i 0,i 2,i 0,i 11,i 0,i 0,i 0,i 11,i 1,i 0,i 0,i 13,i 0,i 3,i 0,i 8,i 0,i 0,i 0,i 1,i 0,i 0,i 0]),
 (90,c 27 [.nilsl]),
 (91,c 202 [w 90 1 1,i 6]),
 (92,c 191 [i 2,i 0,i 1]),
 (93,c 204 [w 92 1 3]),
 (328,.map [(.int .i64 0,.int .i64 1)] [0] 1),
 (329,c 136 [q 93 0,q 91 0,i 1,i 1,.map 328]),
 (330,c 141 [i 1,i 0,i 0,i 0,i 0,i 0,i 0,i 0,i 0,.ifc 230 (.nilsl),.nilif,.nilif,.nilif,.nilif,.nilif,.nilif,.nilif,i 0,fa,fa,fa,fa,fa,fa,fa,fa,fa]),
 (331,c 195 [i 0,i 0]),
 (332,c 144 [w 331 1 2]),
 (333,.map [] [] 0),
 (334,c 147 [i 256,i 16,.map 333]),
 (336,c 152 [w 15408 2 3]),
 (337,c 155 [tr,i 0,i 0,i 0,i 0,i 0,i 0,i 0,i 0,i 0,i 0,i 0,i 0,i 0,i 0,i 0,i 0,i 9007199254740991,i 100,i 9007199254740991,i 9007199254740991,i 9007199254740991,i 9007199254740991,i 9007199254740991,i 9007199254740991,i 9007199254740991,i 9007199254740991,i 9007199254740991,i 9007199254740991,i 9007199254740991,i 9007199254740991,i 9007199254740991,i 9007199254740991]),
 (1175,c 178 [u 0,u 3,u 0,u 2,u 1,u 1,u 1,u 0,u 2,u 131584,u 0,u 0,u 0,u 0,u 0,u 0,u 0,u 0,u 0,u 0,u 0,u 0,u 0,u 0,u 0,u 0,u 0,u 0,u 0,u 0,u 0,u 0,u 0,u 0,u 0,u 0,u 0,u 0,u 0,u 0,u 0,u 0,u 0,u 0,u 0,u 0,u 0,u 0,u 0,u 0,u 0,u 0,u 0,u 0,u 0,u 0,u 0,u 0,u 0,u 0,u 0,u 0,u 0,u 0,u 0,u 0,u 0,u 0,u 0,u 0,u 0,u 0,u 0,u 0,u 0,u 0,u 0,u 0,u 0,u 0,u 0,u 0,u 0,u 0,u 0,u 0,u 0,u 0,u 0,u 0,u 0,u 0,u 0,u 0,u 0,u 0,u 0,u 0,u 0,u 0,u 0,u 0,u 0,u 0,u 0,u 0,u 0,u 0,u 0,u 0,u 0,u 0,u 0,u 0,u 0,u 0,u 0,u 0,u 0,u 0,u 0,u 0,u 0,u 0,u 0,u 0,u 0,u 0,u 0,u 0,u 0,u 0,u 0,u 0,u 0,u 0,u 1000003,u 2686435864,u 0,u 0,u 0,u 0,u 0,u 0,u 0,u 0,u 0,u 0,u 0,u 0,u 0,u 0,u 0,u 0,u 0,u 0,u 0,u 0,u 0,u 0,u 0,u 0,u 0,u 0,u 0,u 0,u 0,u 0,u 0,u 0,u 0,u 0,u 0,u 0,u 0,u 0,u 0,u 0,u 0,u 0,u 0,u 0,u 0,u 0,u 0,u 0,u 0,u 0,u 0,u 0,u 0,u 0,u 0,u 0,u 0,u 0,u 0,u 0,u 0,u 0]),
 (1176,c 256 [w 1175 200 1,i 68]),
 (1177,.map [(.int .i64 0,.agg [.int .i64 4,.int .i64 0,.int .i64 96,.int .i64 0,.int .i64 0,.int .i64 0,.int .i64 0,.int .u64 0,.int .u64 0,.int .u64 0,.int .u64 0,.int .u64 0,.int .i64 0,.int .i64 0,.int .i64 0,.int .i64 0,.int .i64 0])] [7] 8),
 (1178,c 184 [i 1,i 32,i 2,i 1,i 2,u 1000003,q 1176 0,.map 1177]),
 (1186,c 105 [i 128,i 8,i 0,i 1,fa,i 0,w 1188 32 1,i 128,i 8,i 128,i 0,i 0,i 2,i 0,q 1178 0]),
 (1188,c 3 [i 0,j 1,j 1,j 1,j 1,j 1,j 1,j 1,j 1,j 1,j 1,j 1,j 1,j 1,j 1,j 1,j 1,j 1,j 1,j 1,j 1,j 1,j 1,j 1,j 1,j 1,j 1,j 1,j 1,j 1,j 1,j 1]),
 (1240,c 106 [q 1186 0]),
 (4264,c 3 [i 0]),
 (5360,c 3 [i 1]),
 (5372,c 118 [i 0,i 0,i 0,i 0,fa,i 0,i 0,i 1,i 0,fa]),
 (10430,c 3 [i 0]),
 (13108,c 3 [i 1]),
 (15408,c 149 [i 0,i 1,fa,i 1,i 2,tr]),
 (16424,c 38 [i 0,i 1,i 1,i 1,i 290,.nilsl,i 0,i 2,i 2,i 2,i 270,.nilsl,i 0,i 8,i 3,i 3,i 290,.nilsl,i 0,i 6,i 4,i 4,i 292,.nilsl,i 0,i 0,i 5,i 5,i 0,.nilsl,i 0,i 1,i 6,i 22,i 0,w 4264 1 1,i 0,i 1,i 23,i 29,i 0,w 5360 1 1,i 0,i 1,i 30,i 43,i 7,.nilsl,i 0,i 8,i 44,i 44,i 291,.nilsl,i 0,i 3,i 45,i 54,i 7,.nilsl,i 0,i 2,i 55,i 66,i 0,w 10430 1 1,i 0,i 2,i 67,i 67,i 270,.nilsl,i 0,i 2,i 68,i 75,i 0,w 13108 1 1,i 0,i 5,i 76,i 76,i 0,.nilsl,i 0,i 8,i 77,i 77,i 292,.nilsl,i 0,i 9,i 78,i 78,i 292,.nilsl,i 0,i 6,i 79,i 79,i 0,.nilsl,i 0,i 10,i 80,i 80,i 0,.nilsl,i 0,i 1,i 81,i 83,i 120,.nilsl,i 0,i 11,i 84,i 84,i 292,.nilsl,i 0,i 11,i 85,i 85,i 0,.nilsl,i 0,i 13,i 86,i 86,i 270,.nilsl]),
 (16555,c 20 [.ifc 162 (.agg [i 3,i 3,i 0,i 0]),.ifc 162 (.agg [i 3,i 4,i 0,i 0]),.ifc 165 (.agg [i 8,i 0,i 0,i 0])])]
noncomputable def kx9 : AX := (.exit 0)
noncomputable def ke9 : T AV := t [(0,q 59 0),(1,i 20000),(4,i 120),(5,i 0),(6,fa),(7,q 59 0),(8,fa),(9,i 20000),(10,i 20000),(11,i 120),(12,i 20000),(13,tr),(14,i 119),(15,i 120),(16,q 59 0),(17,q 59 0),(18,q 59 32),(19,i 0),(20,q 59 0),(21,q 59 0),(22,q 59 0),(23,q 59 3),(24,.nilsl),(25,i 0),(26,fa),(51,.tup [.int .i64 0,.bool false]),(52,q 59 0),(53,w 23581 1 1),(54,q 59 0),(55,q 59 0),(56,q 59 33),(57,i 0),(58,.tup [.int .i64 0,.bool false]),(59,i 0),(60,fa),(61,q 59 0),(62,i 0),(63,q 59 0),(64,q 59 33),(65,fa),(66,tr),(67,q 59 0),(68,i 0),(69,i 0)]
noncomputable def kh9 : AH := g 23603 [(57,c 94 [i 24,i 0,fa,.nilsl,i 0,i 0,i 0,i 0,i 0,i 0,.nilsl,i 0]),
 (59,c 71 [i 1,i 1,w 69 1 1,.nilsl,q 336 0,q 337 0,q 332 0,q 334 0,i 0,i 0,i 0,i 0,i 0,i 0,i 0,i 0,i 0,i 0,i 0,i 0,i 0,i 0,i 0,i 0,i 0,q 329 0,q 330 0,w 1240 1 1,w 5372 2 5,w 57 1 12,w 23530 24 6,i 120,i 0,i 0]),
 (69,c 32 [w 89 24 4]),
 (89,c 31 [i 1,i 0,i 0,i 0,i 2,i 0,i 0,i 0,i 8,i 0,i 0,i 0,i 6,i 0,i 0,i 0,i 0,i 0,i 127,i 0,i 1,i 0,i 0,i 0,i 1,i 0,i 0,i 0,i 1,i 0,i 0,i 0,i 8,i 0,i 0,i 0,i 3,i 0,i 7,i 0,i 2,i 0,i 0,i 0,i 2,i 0,i 0,i 0,i 2,i 1,i 0,i 0,i 5,i 0,i 0,i 0,i 8,i 0,i 0,i 0,i 9,i 0,i 0,i 0,i 6,i 0,i 0,i 0,i 10,i 0,i 100,i 0,i 1,i 0,i 2,i 0,i 11,i 0,i 0,i 0,i 11,i 1,i 0,i 0,i 13,i 0,i 3,i 0,i 8,i 0,i 0,i 0,i 1,i 0,i 0,i 0]),
 (90,c 27 [w 22569 1 1]),
 (91,c 202 [w 90 1 1,i 6]),
 (92,c 191 [i 2,i 0,i 1]),
 (93,c 204 [w 92 1 3]),
 (328,.map [] [] 1),
 (329,c 136 [q 93 0,q 91 0,i 1,i 1,.map 328]),
 (330,c 141 [i 1,i 0,i 0,i 0,i 0,i 0,i 0,i 0,i 0,.ifc 230 (.nilsl),.nilif,.nilif,.nilif,.nilif,.nilif,.nilif,.nilif,i 0,fa,fa,fa,fa,fa,fa,fa,fa,fa]),
 (331,c 195 [i 0,i 0]),
 (332,c 144 [w 331 1 2]),
 (333,.map [] [] 0),
 (334,c 147 [i 256,i 16,.map 333]),
 (336,c 152 [w 15408 2 3]),
 (337,c 155 [tr,i 0,i 0,i 0,i 0,i 0,i 0,i 0,i 0,i 0,i 0,i 0,i 0,i 0,i 0,i 0,i 0,i 9007199254740991,i 100,i 9007199254740991,i 9007199254740991,i 9007199254740991,i 9007199254740991,i 9007199254740991,i 9007199254740991,i 9007199254740991,i 9007199254740991,i 9007199254740991,i 9007199254740991,i 9007199254740991,i 9007199254740991,i 9007199254740991,i 9007199254740991]),
 (1175,c 178 [u 0,u 3,u 0,u 2,u 0,u 0,u 0,u 0,u 0,u 0,u 0,u 0,u 0,u 0,u 0,u 0,u 0,u 0,u 0,u 0,u 0,u 0,u 0,u 0,u 0,u 0,u 0,u 0,u 0,u 0,u 0,u 0,u 0,u 0,u 0,u 0,u 0,u 0,u 0,u 0,u 0,u 0,u 0,u 0,u 0,u 0,u 0,u 0,u 0,u 0,u 0,u 0,u 0,u 0,u 0,u 0,u 0,u 0,u 0,u 0,u 0,u 0,u 0,u 0,u 0,u 0,u 0,u 0,u 0,u 0,u 0,u 0,u 0,u 0,u 0,u 0,u 0,u 0,u 0,u 0,u 0,u 0,u 0,u 0,u 0,u 0,u 0,u 0,u 0,u 0,u 0,u 0,u 0,u 0,u 0,u 0,u 0,u 0,u 0,u 0,u 0,u 0,u 0,u 0,u 0,u 0,u 0,u 0,u 0,u 0,u 0,u 0,u 0,u 0,u 0,u 0,u 0,u 0,u 0,u 0,u 0,u 0,u 0,u 0,u 0,u 0,u 0,u 0,u 0,u 0,u 0,u 0,u 0,u 0,u 0,u 0,u 1000003,u 2686435864,u 0,u 0,u 0,u 0,u 0,u 0,u 0,u 0,u 0,u 0,u 0,u 0,u 0,u 0,u 0,u 0,u 0,u 0,u 0,u 0,u 0,u 0,u 0,u 0,u 0,u 0,u 0,u 0,u 0,u 0,u 0,u 0,u 0,u 0,u 0,u 0,u 0,u 0,u 0,u 0,u 0,u 0,u 0,u 0,u 0,u 0,u 0,u 0,u 0,u 0,u 0,u 0,u 0,u 0,u 0,u 0,u 0,u 0,u 0,u 0,u 0,u 0]),
 (1176,c 256 [w 1175 200 1,i 79]),
 (1177,.map [] [] 8),
 (1178,c 184 [i 1,i 32,i 2,i 1,i 2,u 1000003,q 1176 0,.map 1177]),
 (1186,c 105 [i 128,i 8,i 0,i 1,fa,i 0,w 1188 32 1,i 128,i 8,i 128,i 0,i 0,i 2,i 0,q 1178 0]),
 (1188,c 3 [j 1,j 1,j 1,j 1,j 1,j 1,j 1,j 1,j 1,j 1,j 1,j 1,j 1,j 1,j 1,j 1,j 1,j 1,j 1,j 1,j 1,j 1,j 1,j 1,j 1,j 1,j 1,j 1,j 1,j 1,j 1,j 1]),
 (1240,c 106 [q 1186 0]),
 (4264,c 3 [i 0]),
 (5360,c 3 [i 1]),
 (5372,c 118 [i 0,i 0,i 0,i 0,fa,i 0,i 0,i 1,i 0,fa]),
 (10430,c 3 [i 0]),
 (13108,c 3 [i 1]),
 (15408,c 149 [i 0,i 1,fa,i 1,i 2,tr]),
 (22569,c 3 [i 0]),
 (23530,c 38 [i 0,i 1,i 1,i 1,i 290,.nilsl,i 0,i 2,i 2,i 2,i 270,.nilsl,i 0,i 8,i 3,i 3,i 290,.nilsl,i 0,i 6,i 4,i 4,i 292,.nilsl,i 0,i 0,i 5,i 5,i 0,.nilsl,i 0,i 1,i 6,i 22,i 0,w 4264 1 1,i 0,i 1,i 23,i 29,i 0,w 5360 1 1,i 0,i 1,i 30,i 43,i 7,.nilsl,i 0,i 8,i 44,i 44,i 291,.nilsl,i 0,i 3,i 45,i 54,i 7,.nilsl,i 0,i 2,i 55,i 66,i 0,w 10430 1 1,i 0,i 2,i 67,i 67,i 270,.nilsl,i 0,i 2,i 68,i 75,i 0,w 13108 1 1,i 0,i 5,i 76,i 76,i 0,.nilsl,i 0,i 8,i 77,i 77,i 292,.nilsl,i 0,i 9,i 78,i 78,i 292,.nilsl,i 0,i 6,i 79,i 79,i 0,.nilsl,i 0,i 10,i 80,i 80,i 0,.nilsl,i 0,i 1,i 81,i 83,i 120,.nilsl,i 0,i 11,i 84,i 84,i 292,.nilsl,i 0,i 11,i 85,i 85,i 0,.nilsl,i 0,i 13,i 86,i 86,i 270,.nilsl,i 0,i 8,i 87,i 119,i 0,.nilsl,i 0,i 1,i 120,i 120,i 290,.nilsl])]

end Go.Proofs.YtfgomgodfcdijaaGreatDoor.Kn
