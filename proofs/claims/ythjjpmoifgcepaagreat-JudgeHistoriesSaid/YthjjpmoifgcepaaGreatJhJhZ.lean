import Derived.Test.YthjjpmoifgcepaaGreatJhJhY
import Derived.Test.YthjjpmoifgcepaaGreatJhJhP
/-
  Contract: judge.paths. No condition.
-/
namespace Go.Proofs.YthjjpmoifgcepaaGreat.Jh
open Go.RowKit
attribute [local go_sem ↓] Go.wp_at_zero Go.wp_at_succ
theorem sorted_b {w : World} {v : Value} {l : List Int} (hv : IntsB w v l) {b : Bool} (hb : b = true ↔ Srt l) : Calls Tryz.prog 42 #[v] w fun e w' => e = .returned (.bool b) ∧ Own w [] w' := by
  refine (sorted_spec hv).mono ?_
  rintro e w' ⟨b', rfl, h1, h2⟩
  refine ⟨?_, h2⟩
  have : b' = b := by rw [Bool.eq_iff_iff, h1, hb]
  rw [this]
theorem path_of {p : List Int} {g : Int} : PathOk p g ↔ 0 < p.length ∧ 1 ≤ p.getD 0 0 ∧ p.getD (p.length - 1) 0 = g ∧ Srt p ∧ NoDup p := by
  constructor
  · rintro ⟨h1, h2, h3, h4⟩
    exact ⟨h1, h2, h3, fun i hi => Int.le_of_lt (h4 i hi), fun i hi => Int.ne_of_lt (h4 i hi)⟩
  · rintro ⟨h1, h2, h3, h4, h5⟩
    exact ⟨h1, h2, h3, fun i hi => by have := h4 i hi; have := h5 i hi; omega⟩
def PathsOk (ps : List (List Int)) : Prop := ∀ (g : Nat) p, ps[g]? = some p → PathOk p ((g : Int) + 1)
set_option maxHeartbeats 4000000 in
set_option maxRecDepth 100000 in
theorem paths_spec {w : World} {v : Value} {ps : List (List Int)} (hv : PathsV w v ps) : Calls Tryz.prog 25 #[v] w (YN w (PathsOk ps)) := by
  have hBp := hv.bytes
  obtain ⟨A, c, rfl⟩ := hv.form
  have HV := Lib.hid hv
  have HI : Hid ((ps.length : Int) < 9223372036854775807) := Lib.hid (by have := bb_le hBp; omega)
  clear hv hBp
  go_enter Tryz.func25, Tryz.ntmps25
  go_wp2_with fail
  go_loopw [7] (fun k wr => ∃ i : Nat, i ≤ ps.length ∧ k = .int .i64 i ∧ Hid (∀ (g : Nat) p, g < i → ps[g]? = some p → PathOk p ((g : Int) + 1)) ∧ Hid (Own w [] wr)) (fun k _ => ps.length - (intOf k).toNat)
  case atStart => exact ⟨0, Nat.zero_le _, rfl, fun g p hg => absurd hg (by omega), Lib.hid (Own.self w)⟩
  case round =>
    obtain ⟨i, hi, rfl, HN, HR⟩ := hrel
    by_cases hlt : i < ps.length
    · obtain ⟨p, hp⟩ : ∃ p, ps[i]? = some p := ⟨_, List.getElem?_eq_getElem hlt⟩
      obtain ⟨g, o, c', he, _, hc⟩ := (HV.out.own HR.out).at_ (by omega)
      cases he
      obtain ⟨sv, cy, hsv⟩ := hc i _ hp
      have HP := Lib.hid hp
      have HSV := Lib.hid hsv
      have hw := wrap_succ hlt HI.out
      have HW := Lib.hid hw
      have hi0 : (0 : Int) ≤ (i : Int) ∧ (i : Int) < (ps.length : Int) := by omega
      clear hp hc hw
      obtain ⟨Ap, cp, rfl⟩ := hsv.form
      have no : ¬ PathOk p ((i : Int) + 1) → ¬ PathsOk ps := fun h1 h2 => h1 (h2 i p HP.out)
      have NO := Lib.hid no
      have PO := Lib.hid (path_of (p := p) (g := (i : Int) + 1))
      clear no
      rcases Nat.eq_zero_or_pos p.length with h0 | h0
      · have H0 := Lib.hid h0
        rw [h0] at cy
        clear h0 hsv
        go_wp2_with fail
        go_ret
        exact YN.no (by simp) (NO.out fun h => absurd (PO.out.1 h).1 (by have := H0.out; omega)) HR.out
      · obtain ⟨gp, op, cp', hep, _, hcp⟩ := hsv.at_ h0
        cases hep
        obtain ⟨x, hx⟩ : ∃ x, p[0]? = some x := ⟨_, List.getElem?_eq_getElem h0⟩
        obtain ⟨n, hn⟩ : ∃ n, p.length = n + 1 := ⟨p.length - 1, by omega⟩
        obtain ⟨y, hy⟩ : ∃ y, p[n]? = some y := ⟨_, List.getElem?_eq_getElem (by omega)⟩
        have c0 := hcp 0 x hx
        rw [Nat.add_zero] at c0
        have c1 := hcp n y hy
        have hBn := bb_le hsv.2
        have HX := Lib.hid hx
        have HY := Lib.hid hy
        have HL := Lib.hid hn
        have hBs := Lib.hid hsv.2
        rw [hn] at cy hBn
        have HSV2 : Hid (IntsB wr (.slice (some ⟨gp, op, none⟩) (n + 1) cp) p) := by rw [hn] at hsv; exact hsv
        have hwn : IntKind.i64.wrap (n : Int) = (n : Int) := by rw [IntWalk.i64_in] <;> omega
        have hwi : IntKind.i64.wrap ((i : Int) + 1) = (i : Int) + 1 := by have := HI.out; rw [IntWalk.i64_in] <;> omega
        have hn0 : (0 : Int) ≤ (n : Int) ∧ (n : Int) < (n : Int) + 1 := by omega
        have HB := Lib.hid hBn
        have hz : ((n : Int) + 1 == 0) = false := by rw [beq_eq_false_iff_ne]; omega
        clear hx hy hcp hsv h0 hn hBn HSV
        by_cases hx1 : x < 1
        · have hd : decide (x < 1) = true := decide_eq_true hx1
          have HX1 := Lib.hid hx1
          clear hx1
          go_wp2_with fail
          go_ret
          exact YN.no (by simp) (NO.out fun h => absurd (PO.out.1 h).2.1 (by rw [getD_of HX.out]; have := HX1.out; omega)) HR.out
        · have hd : decide (x < 1) = false := decide_eq_false hx1
          have HX1 := Lib.hid hx1
          clear hx1
          by_cases hy1 : y = (i : Int) + 1
          · have hd2 : (y != (i : Int) + 1) = false := by simp [hy1]
            have HY1 := Lib.hid hy1
            clear hy1
            by_cases hS : Srt p
            · have HS := Lib.hid hS
              have HSB : Hid (true = true ↔ Srt p) := Lib.hid (by simp [hS])
              clear hS
              by_cases hD : NoDup p
              · have HD := Lib.hid hD
                clear hD
                go_wp2_with (first
                  | (go_at_call 42; refine (sorted_b HSV2.out HSB.out).mono ?_; rintro e w2 ⟨rfl, h2⟩; have HR2 := Lib.hid (HR.out.of_self h2); have HS2 := Lib.hid (HSV2.out.own h2); clear h2)
                  | (go_at_call 44; refine (cloneB (W := w) (m := []) HR2.out HS2.out).mono ?_; rintro e w3 ⟨v3, bs3, rfl, H3, h3⟩; have HO3 := Lib.hid h3; clear h3)
                  | (go_at_call 43; refine (compact_spec H3.out HO3.out hBs.out).mono ?_; rintro e w4 ⟨A4, k4, c4, rfl, h4, h5, h6⟩; obtain rfl : k4 = p.length := h4.2 HD.out; have HR4 := Lib.hid h5; clear h4 h5 h6; rw [HL.out]))
                go_roundw
                case rel =>
                  refine ⟨i + 1, by omega, rfl, fun g' p' hg' hp' => ?_, HR4⟩
                  by_cases hgi : g' = i
                  · subst hgi
                    rw [HP.out] at hp'
                    cases hp'
                    exact PO.out.2 ⟨by rw [HL.out]; omega, by rw [getD_of HX.out]; have := HX1.out; omega, by rw [HL.out, Nat.add_sub_cancel, getD_of HY.out, HY1.out], HS.out, HD.out⟩
                  · exact HN.out g' p' (by omega) hp'
                case measure => simp [intOf]; omega
              · have HD := Lib.hid hD
                clear hD
                go_wp2_with (first
                  | (go_at_call 42; refine (sorted_b HSV2.out HSB.out).mono ?_; rintro e w2 ⟨rfl, h2⟩; have HR2 := Lib.hid (HR.out.of_self h2); have HS2 := Lib.hid (HSV2.out.own h2); clear h2)
                  | (go_at_call 44; refine (cloneB (W := w) (m := []) HR2.out HS2.out).mono ?_; rintro e w3 ⟨v3, bs3, rfl, H3, h3⟩; have HO3 := Lib.hid h3; clear h3)
                  | (go_at_call 43; refine (compact_spec H3.out HO3.out hBs.out).mono ?_; rintro e w4 ⟨A4, k4, c4, rfl, h4, h5, h6⟩; have hk : ((k4 : Int) != (n : Int) + 1) = true := (by rw [bne_iff_ne]; intro he; exact HD.out (h4.1 (by rw [HL.out]; omega))); have HR4 := Lib.hid h5; clear h4 h5 h6))
                go_ret
                exact YN.no (by simp) (NO.out fun h => absurd (PO.out.1 h).2.2.2.2 HD.out) HR4.out
            · have HS := Lib.hid hS
              have HSB : Hid (false = true ↔ Srt p) := Lib.hid (by simp [hS])
              clear hS
              go_wp2_with (go_at_call 42; refine (sorted_b HSV2.out HSB.out).mono ?_; rintro e w2 ⟨rfl, h2⟩; have HR2 := Lib.hid (HR.out.of_self h2); clear h2)
              go_ret
              exact YN.no (by simp) (NO.out fun h => absurd (PO.out.1 h).2.2.2.1 HS.out) HR2.out
          · have hd2 : (y != (i : Int) + 1) = true := by simp [hy1]
            have HY1 := Lib.hid hy1
            clear hy1
            go_wp2_with fail
            go_ret
            exact YN.no (by simp) (NO.out fun h => absurd (PO.out.1 h).2.2.1 (by rw [HL.out, Nat.add_sub_cancel, getD_of HY.out]; exact HY1.out)) HR.out
    · obtain rfl : i = ps.length := by omega
      go_wp2_with fail
      go_ret
      exact YN.yes (by simp) (fun g p hp => HN.out g p (List.getElem?_eq_some_iff.1 hp).1 hp) HR.out
end Go.Proofs.YthjjpmoifgcepaaGreat.Jh
