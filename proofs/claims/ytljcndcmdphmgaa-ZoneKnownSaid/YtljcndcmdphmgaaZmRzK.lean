import Derived.Test.YtljcndcmdphmgaaZmRzJ
/-
  wainscotlaw08.same answers true, when both zones stand alike. No condition.
-/
namespace Go.Proofs.Ytljcndcmdphmgaa
open Go.RowKit
attribute [local go_sem ↓] Go.wp_at_zero Go.wp_at_succ
section
variable {W w : World} {m zs qs : List (Nat × Obj)} {zb qb N n : Nat} {L M : List Pg} {X : List (List Int)} {f : Int → Option Int} {out : List (Int × Int)}
set_option maxRecDepth 100000 in
set_option maxHeartbeats 4000000 in
theorem same8_yes (h : Own W (zs ++ (qs ++ m)) w) (hz : ZO zb L X f n zs) (hq : QO qb M X qs) (hj : ZJ L M X f out N) :
    Calls Try.prog 38 #[.pointer (some ⟨zb, 0, none⟩), .pointer (some ⟨qb, 0, none⟩)] w fun e w' => e = .returned (.bool true) ∧ Own W (zs ++ (qs ++ m)) w' := by
  have HZ := Lib.hid hz
  have HQ := Lib.hid hq
  have HJ := Lib.hid hj
  obtain ⟨rb, g, cap, hcap, hcm, hg⟩ := q_table (W := W) hq
  have GETS := Lib.hid hg
  obtain ⟨hl1, hl2⟩ := q_len hq
  obtain ⟨P, hP⟩ : ∃ P, M.length = P := ⟨_, rfl⟩
  rw [hP] at hcap GETS hl1 hl2
  obtain ⟨F, hF⟩ : ∃ F, pgFree L + (nearAll X : Nat) = F := ⟨_, rfl⟩
  have hF2 : pgFree M + (nearAll X : Nat) = F := (zj_left hj).symm.trans hF
  have HF := Lib.hid hF
  have HF2 := Lib.hid hF2
  obtain ⟨wb, hwb⟩ : ∃ b, decide (L = freshL L.length) = b := ⟨_, rfl⟩
  have HWB := Lib.hid hwb
  have HWB2 := Lib.hid ((zj_whole hj).symm.trans hwb)
  clear hg hz hq hj hP hF hF2 hwb
  go_enter Try.func38, Try.ntmps38
  go_wp2_with fail
  refine (zleft_spec h HZ.out).mono ?_
  rintro e w1 ⟨rfl, h1⟩
  rw [HF.out]
  go_wp2_with fail
  refine (qleft_spec h1.swap HQ.out).mono ?_
  rintro e w2 ⟨rfl, h2⟩
  rw [HF2.out]
  go_wp2_with fail
  refine (zwhole_spec h2.swap HZ.out).mono ?_
  rintro e w3 ⟨rfl, h3⟩
  rw [HWB.out]
  go_wp2_with fail
  refine (qwhole_spec h3.swap HQ.out).mono ?_
  rintro e w4 ⟨rfl, h4⟩
  rw [HWB2.out]
  have H5 := Lib.hid h4.swap
  clear h h1 h2 h3 h4
  cases wb
  all_goals
    go_wp2_with fail
    go_loopw [5] (fun ov wr => ∃ o : Int, -1 ≤ o ∧ o ≤ 9 ∧ ov = .int .i64 o ∧ Own W (zs ++ (qs ++ m)) wr) (fun ov _ => (9 - intOf ov).toNat)
    case atStart => exact ⟨-1, by omega, by omega, rfl, H5.out⟩
    case round =>
      clear H5
      obtain ⟨o, ho1, ho2, rfl, hr⟩ := hrel
      by_cases hlt : o < 9
      · go_wp2_with fail
        refine (znear_spec hr HZ.out o).mono ?_
        rintro e w6 ⟨rfl, h6⟩
        go_wp2_with fail
        refine (qNear_spec h6.swap HQ.out o).mono ?_
        rintro e w7 ⟨rfl, h7⟩
        go_wp2_with fail
        exact ⟨⟨o + 1, by omega, by omega, rfl, h7.swap⟩, by simp [intOf]; omega⟩
      · have H6 := Lib.hid hr
        clear hr
        go_wp2_with fail
        go_loopw [6] (fun ov wr => ∃ o : Int, -1 ≤ o ∧ o ≤ 100 ∧ ov = .int .i64 o ∧ Own W (zs ++ (qs ++ m)) wr) (fun ov _ => (100 - intOf ov).toNat)
        case atStart => exact ⟨-1, by omega, by omega, rfl, H6.out⟩
        case round =>
          clear H6
          obtain ⟨k, hk1, hk2, rfl, hr⟩ := hrel
          obtain ⟨c0, cv⟩ := GETS.out _ _ hr.swap
          by_cases hkp : k ≤ P
          · by_cases hk100 : k < 100
            · go_wp2_with fail
              refine (ztag_spec hr HZ.out k).mono ?_
              rintro e w6 ⟨t, rfl, HT1, h6⟩
              clear c0 cv
              cases t with
              | none =>
                simp only [tagV]
                have h7 := h6.new2 (.cells #[.int .i64 0, .int .i64 0, .int .i64 0] 80)
                go_wp2_with fail
                refine (qtag_spec h7.swap HQ.out k).mono ?_
                rintro e w8 ⟨t', rfl, HT2, h8⟩
                obtain rfl := zj_tag HJ.out HT1.out HT2.out
                simp only [tagV]
                have h9 := h8.swap.new2 (.cells #[.int .i64 0, .int .i64 0, .int .i64 0] 119)
                have hd := h9.dropL.dropL
                have u0 := hd.cell (List.mem_cons_of_mem _ List.mem_cons_self) 0
                have u1 := hd.cell (List.mem_cons_of_mem _ List.mem_cons_self) 1
                have u2 := hd.cell (List.mem_cons_of_mem _ List.mem_cons_self) 2
                simp at u0 u1 u2
                have h10 : Own W (zs ++ (qs ++ m)) (w8.alloc (.cells #[.int .i64 0, .int .i64 0, .int .i64 0] 119)) := h9.drop2.drop2
                go_wp2_with fail
                exact ⟨⟨k + 1, by omega, by omega, rfl, h10⟩, by simp [intOf]; omega⟩
              | some v =>
                obtain ⟨a, b, c⟩ := v
                simp only [tagV]
                have h7 := h6.new2 (.cells #[.int .i64 a, .int .i64 b, .int .i64 c] 80)
                go_wp2_with fail
                refine (qtag_spec h7.swap HQ.out k).mono ?_
                rintro e w8 ⟨t', rfl, HT2, h8⟩
                obtain rfl := zj_tag HJ.out HT1.out HT2.out
                simp only [tagV]
                have h9 := h8.swap.new2 (.cells #[.int .i64 a, .int .i64 b, .int .i64 c] 119)
                have hd := h9.dropL.dropL
                have u0 := hd.cell (List.mem_cons_of_mem _ List.mem_cons_self) 0
                have u1 := hd.cell (List.mem_cons_of_mem _ List.mem_cons_self) 1
                have u2 := hd.cell (List.mem_cons_of_mem _ List.mem_cons_self) 2
                simp at u0 u1 u2
                have h10 : Own W (zs ++ (qs ++ m)) (w8.alloc (.cells #[.int .i64 a, .int .i64 b, .int .i64 c] 119)) := h9.drop2.drop2
                go_wp2_with fail
                exact ⟨⟨k + 1, by omega, by omega, rfl, h10⟩, by simp [intOf]; omega⟩
            · go_wp2_with fail
              go_ret
              exact ⟨rfl, hr⟩
          · go_wp2_with fail
            go_ret
            exact ⟨rfl, hr⟩
end
end Go.Proofs.Ytljcndcmdphmgaa
