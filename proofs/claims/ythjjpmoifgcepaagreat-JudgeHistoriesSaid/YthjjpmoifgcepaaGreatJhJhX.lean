import Derived.Test.YthjjpmoifgcepaaGreatJhJhC
import Derived.BigQuiet
/-
  Contracts: cmp.Less, slices.IsSorted of numbers. No condition.
-/
namespace Go.Proofs.YthjjpmoifgcepaaGreat.Jh
open Go.RowKit
attribute [local go_sem ↓] Go.wp_at_zero Go.wp_at_succ
theorem isNaN_spec (w : World) (a : Int) : Calls Tryz.prog 101 #[.int .i64 a] w fun e w' => e = .returned (.bool false) ∧ w = w' := by
  go_enter Tryz.func101, Tryz.ntmps101
  go_wp2
  go_ret
  exact ⟨by simp, rfl⟩
theorem less_spec (w : World) (a b : Int) : Calls Tryz.prog 79 #[.int .i64 a, .int .i64 b] w fun e w' => e = .returned (.bool (decide (a < b))) ∧ w = w' := by
  go_enter Tryz.func79, Tryz.ntmps79
  go_wp2_with (go_at_call 101; refine (isNaN_spec _ _).mono ?_; rintro e w' ⟨rfl, rfl⟩)
  go_ret
  exact ⟨by simp, rfl⟩
theorem less_b (w : World) {a b : Int} {r : Bool} (h : decide (a < b) = r) : Calls Tryz.prog 79 #[.int .i64 a, .int .i64 b] w fun e w' => e = .returned (.bool r) ∧ w' = w := by
  refine (less_spec w a b).mono ?_
  rintro e w' ⟨rfl, rfl⟩
  exact ⟨by rw [h], rfl⟩
/-- it answers whether something is so -/
def YN (W : World) (Q : Prop) (e : Ending) (w' : World) : Prop := ∃ b, e = .returned (.bool b) ∧ (b = true ↔ Q) ∧ Own W [] w'
theorem YN.yes {W w' : World} {Q : Prop} {e : Ending} (he : e = .returned (.bool true)) (h : Q) (hO : Own W [] w') : YN W Q e w' := ⟨true, he, ⟨fun _ => h, fun _ => rfl⟩, hO⟩
theorem YN.no {W w' : World} {Q : Prop} {e : Ending} (he : e = .returned (.bool false)) (h : ¬ Q) (hO : Own W [] w') : YN W Q e w' := ⟨false, he, ⟨fun h' => absurd h' (by decide), fun h' => absurd h' h⟩, hO⟩
def Srt (l : List Int) : Prop := ∀ i, i + 1 < l.length → l.getD i 0 ≤ l.getD (i + 1) 0
theorem getD_of {l : List Int} {i : Nat} {x : Int} (h : l[i]? = some x) : l.getD i 0 = x := by simp [List.getD, h]
set_option maxHeartbeats 1000000 in
theorem sorted_spec {w : World} {v : Value} {l : List Int} (hv : IntsB w v l) : Calls Tryz.prog 42 #[v] w (YN w (Srt l)) := by
  have HB := Lib.hid (bb_ints hv.2)
  obtain ⟨A, c, rfl⟩ := hv.form
  have HV := Lib.hid hv
  clear hv
  have hw : wrap64 ((l.length : Int) - 1) = (l.length : Int) - 1 := IntWalk.wrap64_in _ (by have := HB.out; omega)
  have HW := Lib.hid hw
  clear hw
  go_enter Tryz.func42, Tryz.ntmps42
  go_wp2_with fail
  go_loopw [3] (fun k wr => ∃ i : Int, -1 ≤ i ∧ i ≤ (l.length : Int) - 1 ∧ k = .int .i64 i ∧ Hid (∀ j : Nat, i ≤ (j : Int) → j + 1 < l.length → l.getD j 0 ≤ l.getD (j + 1) 0) ∧ Own w [] wr) (fun k _ => ((intOf k) + 1).toNat)
  case atStart => exact ⟨(l.length : Int) - 1, by omega, by omega, by rw [HW.out], fun j hj hl => absurd hj (by omega), Own.self w⟩
  case round =>
    obtain ⟨i, hi0, hi, rfl, HN, hr⟩ := hrel
    by_cases hlt : 0 < i
    · obtain ⟨k, rfl⟩ : ∃ k : Nat, i = (k : Int) + 1 := ⟨(i - 1).toNat, by omega⟩
      obtain ⟨x, hx⟩ : ∃ x, l[k]? = some x := ⟨_, List.getElem?_eq_getElem (by omega)⟩
      obtain ⟨y, hy⟩ : ∃ y, l[k + 1]? = some y := ⟨_, List.getElem?_eq_getElem (by omega)⟩
      obtain ⟨g, o, c', he, _, hc⟩ := (HV.out.own hr).at_ (by omega)
      cases he
      have cx := hc k _ hx
      have cy := hc (k + 1) _ hy
      have HX := Lib.hid hx
      have HY := Lib.hid hy
      have hwk : IntKind.i64.wrap (k : Int) = (k : Int) := by have := HB.out; rw [IntWalk.i64_in] <;> omega
      have h1 : (0 : Int) ≤ ((k : Int) + 1) ∧ ((k : Int) + 1) < (l.length : Int) := by omega
      have h2 : (0 : Int) ≤ (k : Int) ∧ (k : Int) < (l.length : Int) := by omega
      clear hx hy hc
      have HR := Lib.hid hr
      clear hr
      by_cases hd : y < x
      · have hb := Lib.hid (decide_eq_true hd)
        have HD := Lib.hid hd
        clear hd
        go_wp2_with fail
        go_quiet (first | (go_at_call 79; refine Calls.quiet_of_same (less_b _ hb.out)))
        go_wp2
        go_ret
        refine YN.no (by simp) (fun h => ?_) (HR.out.drewN _)
        have := h k (by omega)
        rw [getD_of HX.out, getD_of HY.out] at this
        exact absurd HD.out (by omega)
      · have hb := Lib.hid (decide_eq_false hd)
        have HD := Lib.hid hd
        clear hd
        go_wp2_with fail
        go_quiet (first | (go_at_call 79; refine Calls.quiet_of_same (less_b _ hb.out)))
        go_wp2
        go_roundw
        case rel =>
          refine ⟨(k : Int), by omega, by omega, rfl, fun j hj hl => ?_, HR.out.drewN _⟩
          by_cases hjk : j = k
          · subst hjk
            rw [getD_of HX.out, getD_of HY.out]
            have := HD.out
            omega
          · exact HN.out j (by omega) hl
        case measure => simp [intOf]; omega
    · go_wp2_with fail
      go_ret
      exact YN.yes (by simp) (fun j hj => HN.out j (by omega) hj) hr
end Go.Proofs.YthjjpmoifgcepaaGreat.Jh
