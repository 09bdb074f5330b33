import Derived.Test.YtombcmhhocbedaaGreatDoorCw6
import Derived.Test.YtombcmhhocbedaaGreatDoorTie
import Derived.LaidMore
import Derived.OpenShut
import Derived.Stop.Joined
/-
  The table that the layer 'fill' goes on by: what the given premise tells of memory. No condition.
-/
namespace Go.Proofs.YtombcmhhocbedaaGreatDoor.FillTab
open Go Go.ChangeShapes Go.WideShapes Go.ChangeAt Go.WideElems Go.RowKit
def L : List Int := [0, 0, 0, 0, 0, 0, 0, 0, 0, 0, 0, 0, 0, 0, 0, 0, 0, 0, 0, 0, 0, 22, 0, 0, 0, 0, 0, 0, 0, 0, 31, 0, 0, 0, 0, 0, 43, 38, 0, 0, 41, 42, 0, 0, 0, 0, 47, 48, 49, 40]
def gs : List (Nat × List Int) := [(0, L)]
theorem gNo : Tryz.prog.globalNamed "wainscot/fill.goesOn" = some 0 := by kernel_rfl
theorem tNo : (Tryz.prog.globals[0]?).map (·.type) = some 382 := by kernel_rfl
theorem door_met (os : Os) (args : Array Value) : laidMetH Tryz.prog [("wainscot/fill.goesOn", Rows.laid_wainscot_fill_goesOn)] ((World.doorLaid Tryz.prog 400 os).forCall (fun _ _ => 0) ⟨#[], args, []⟩).memory :=
  laidMetH_of_parts3 (fuel := 8) (laidMet_of_run' 8 (by kernel_rfl) (by kernel_rfl)) (by kernel_rfl) (by kernel_rfl)
theorem of_laid {W : World} (h : laidMetH Tryz.prog [("wainscot/fill.goesOn", Rows.laid_wainscot_fill_goesOn)] W) : Ex.Tabs gs W := by
  rw [MakeChecks.laidMetH_plain _ _ _ (by kernel_rfl)] at h
  obtain ⟨ps, ⟨g0, t0, cs0, f0, p0, q0, hg0, ht0, hv0, hd0, _⟩, _, _⟩ := h
  obtain rfl := Option.some.inj (gNo.symm.trans hg0)
  obtain rfl := Option.some.inj (tNo.symm.trans ht0)
  obtain ⟨xs, m1, rfl, hx1, hlen, hn, hel⟩ := DataW.trod_array Tryz.underlying382 hd0
  have c1 : Tryz.prog.cellsOf 3 = 1 := by kernel_rfl
  have c50 : Tryz.prog.cellsOf 382 = 50 := by kernel_rfl
  have hL : L.length = 50 := rfl
  simp only [Prod.mk.injEq] at hx1
  have hxs : xs.map (·.1) = L.map fun n => DataW.lit (.int .i64 n) := by
    have e : (Rows.laid_wainscot_fill_goesOn : DataW Unit) = .agg (L.map fun n => .lit (.int .i64 n)) := rfl
    have h1 := hx1.1
    rw [e] at h1
    exact (DataW.agg.inj h1).symm
  have hcs : cs0.toList = L.map (Value.int .i64) := by
    refine List.ext_getElem? fun i => ?_
    rw [c50] at hlen
    by_cases hi : i < 50
    · have h1 := hel i hi
      rw [c1, Nat.mul_one] at h1
      obtain ⟨x, hx⟩ : ∃ x, xs[i]? = some x := ⟨xs[i]'(by omega), List.getElem?_eq_getElem _⟩
      rw [hx] at h1
      obtain ⟨k, e1, e2, _⟩ := DataW.trod_int Tryz.underlying3 h1
      have e3 : (cs0.toList)[i]? = some (.int .i64 k) := by
        have := congrArg (fun l : List Value => l[0]?) e1
        simpa [List.getElem?_take, List.getElem?_drop] using this
      have e4 : (L.map fun n => (DataW.lit (.int .i64 n) : DataW Unit))[i]? = some (.lit (.int .i64 k)) := by
        rw [← hxs, List.getElem?_map, hx, e2]
        rfl
      rw [List.getElem?_map] at e4
      rw [e3, List.getElem?_map]
      cases hLi : L[i]? with
      | none => rw [hLi] at e4; cases e4
      | some n =>
        rw [hLi] at e4
        simp at e4
        simp [e4]
    · rw [List.getElem?_eq_none (by omega), List.getElem?_eq_none (by simp [hL]; omega)]
  have hheap : ∃ e q, W.heap[(0 : Nat)]? = some (.cells cs0 e q) := by
    simp only [World.var?, gNo, Option.bind_some] at hv0
    split at hv0 <;> simp_all
  intro g l hf
  unfold gs Ex.findG at hf
  split at hf
  · rename_i hg
    have hg := Nat.eq_of_beq_eq_true hg
    subst hg
    simp only [Option.some.injEq] at hf
    subst hf
    obtain ⟨e, q, hw⟩ := hheap
    refine ⟨e, q, ?_⟩
    rw [hw, ← hcs]
  · cases hf
end Go.Proofs.YtombcmhhocbedaaGreatDoor.FillTab
