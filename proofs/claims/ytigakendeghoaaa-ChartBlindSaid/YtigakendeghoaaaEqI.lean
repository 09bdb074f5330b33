/-
  wainscotref00.EqInts answers whether two lists of numbers are one.
-/
import Derived.Test.YtigakendeghoaaaInts
namespace Go.Proofs.Ytigakendeghoaaa
open Go.RowKit

theorem take_eq_of {a b : List Int} {k : Nat} {x y : Int} (ha : a[k]? = some x) (hb : b[k]? = some y) (h : a.take k = b.take k) (hxy : x = y) : a.take (k + 1) = b.take (k + 1) := by
  rw [List.take_add_one, List.take_add_one, ha, hb, h, hxy]
set_option maxHeartbeats 1000000 in
theorem eqInts_spec {w : World} {v1 v2 : Value} {l1 l2 : List Int} (h1 : IntsSrc w v1 l1) (h2 : IntsSrc w v2 l2) (hl1 : l1.length ≤ 60000) (hl2 : l2.length ≤ 60000) :
    Calls Try.prog 31 #[v1, v2] w fun e w' => e = .returned (.bool (decide (l1 = l2))) ∧ ∃ n, w' = w.drewN n := by
  have f1 : ∃ A c, v1 = .slice A l1.length c := by
    rcases h1.2 with ⟨rfl, h0⟩ | ⟨a, c, rfl, _⟩
    · exact ⟨none, 0, by rw [h0]⟩
    · exact ⟨_, c, rfl⟩
  have f2 : ∃ A c, v2 = .slice A l2.length c := by
    rcases h2.2 with ⟨rfl, h0⟩ | ⟨a, c, rfl, _⟩
    · exact ⟨none, 0, by rw [h0]⟩
    · exact ⟨_, c, rfl⟩
  obtain ⟨A1, c1, rfl⟩ := f1
  obtain ⟨A2, c2, rfl⟩ := f2
  by_cases hl : l1.length = l2.length
  · have H1 := Lib.hid h1
    have H2 := Lib.hid h2
    clear h1 h2
    have hb : ((l1.length : Int) != (l2.length : Int)) = false := by rw [hl]; simp
    have HL := Lib.hid hl
    clear hl
    go_enter Try.func31, Try.ntmps31
    go_wp2_with fail
    go_loopw [5] (fun k wr => ∃ i : Nat, i ≤ l1.length ∧ k = .int .i64 i ∧ l1.take i = l2.take i ∧ ∃ n, wr = w.drewN n) (fun k _ => l1.length - (intOf k).toNat)
    case atStart => exact ⟨0, Nat.zero_le _, rfl, by simp, 0, rfl⟩
    case round =>
      obtain ⟨i, hi, rfl, hT, nq0, rfl⟩ := hrel
      have HT := Lib.hid hT
      clear hT
      by_cases hlt : i < l1.length
      · rcases H1.out.2 with ⟨_, h0⟩ | ⟨a1, k1, he1, hc1⟩
        · omega
        rcases H2.out.2 with ⟨_, h0⟩ | ⟨a2, k2, he2, hc2⟩
        · have := HL.out; omega
        cases he1
        cases he2
        obtain ⟨x, hx⟩ : ∃ x, l1[i]? = some x := ⟨_, List.getElem?_eq_getElem hlt⟩
        obtain ⟨y, hy⟩ : ∃ y, l2[i]? = some y := ⟨_, List.getElem?_eq_getElem (by have := HL.out; omega)⟩
        have cx := hc1 i _ (ints_get hx)
        have cy := hc2 i _ (ints_get hy)
        have i0 : (0 : Int) ≤ (i : Int) := by omega
        have i1 : (i : Int) < (l1.length : Int) := by omega
        have i2 : (i : Int) < (l2.length : Int) := by have := HL.out; omega
        have HX := Lib.hid hx
        have HY := Lib.hid hy
        clear hx hy hc1 hc2
        by_cases hxy : x = y
        · have hxb : (x != y) = false := by simpa using hxy
          have HXY := Lib.hid hxy
          clear hxy
          go_wp2_with fail
          go_quiet (fail)
          go_wp2_with fail
          go_roundw
          case rel => exact ⟨i + 1, by omega, by go_num, take_eq_of HX.out HY.out HT.out HXY.out, nq0 + nq, by first | rfl | rw [World.drewN_drewN]⟩
          case measure => simp [intOf]; omega
        · have hxb : (x != y) = true := by simpa using hxy
          have HXY := Lib.hid hxy
          clear hxy
          go_wp2_with fail
          go_quiet (fail)
          go_wp2_with fail
          go_ret
          refine ⟨?_, nq0 + nq, by first | rfl | rw [World.drewN_drewN]⟩
          have : l1 ≠ l2 := fun he => HXY.out (by have := HX.out; rw [he, HY.out] at this; exact (Option.some.inj this).symm)
          rw [decide_eq_false this]; rfl
      · obtain rfl : i = l1.length := by omega
        go_wp2_with fail
        go_ret
        refine ⟨?_, _, rfl⟩
        have : l1 = l2 := by
          have h := HT.out
          rw [List.take_of_length_le (Nat.le_refl _), HL.out, List.take_of_length_le (Nat.le_refl _)] at h
          exact h
        rw [decide_eq_true this]; rfl
  · have hb : ((l1.length : Int) != (l2.length : Int)) = true := by simp; omega
    have hne : l1 ≠ l2 := fun he => hl (by rw [he])
    have HN := Lib.hid hne
    clear hne hl h1 h2
    go_enter Try.func31, Try.ntmps31
    go_wp2_with fail
    go_ret
    exact ⟨by rw [decide_eq_false HN.out]; rfl, 0, rfl⟩
section
variable {W : World} {m : List (Nat × Obj)} {w : World}
theorem eqInts_yes {v1 v2 : Value} {l1 l2 : List Int} (h1 : IntsSrc w v1 l1) (h2 : IntsSrc w v2 l2) (hl1 : l1.length ≤ 60000) (he : l1 = l2) (h : Own W m w) :
    Calls Try.prog 31 #[v1, v2] w fun e w' => e = .returned (.bool true) ∧ Own W m w' := by
  subst he
  refine (eqInts_spec h1 h2 hl1 hl1).mono ?_
  rintro e w' ⟨rfl, n, rfl⟩
  exact ⟨by simp, h.drewN n⟩
end
end Go.Proofs.Ytigakendeghoaaa
