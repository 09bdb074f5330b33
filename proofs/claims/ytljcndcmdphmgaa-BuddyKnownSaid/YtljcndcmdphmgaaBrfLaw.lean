/-
  wainscotlaw06.BuddyPlays answers true: the walk. No condition.
-/
import Derived.Test.YtljcndcmdphmgaaBrfH
import Derived.Test.YtljcndcmdphmgaaBudWorks
import Derived.Test.YtljcndcmdphmgaaBring
import Derived.Test.YtljcndcmdphmgaaArgs
namespace Go.Proofs.Ytljcndcmdphmgaa.buddyPlays
open Go.RowKit
attribute [local go_sem ↓] Go.wp_at_zero Go.wp_at_succ
set_option maxHeartbeats 2000000 in
theorem walk_bad {W w : World} {m : List (Nat × Obj)} (h : Own W m w) (pages : Int) (hn : pages < 1 ∨ 1024 < pages) (A : Option Addr) (len cap : Nat) :
    Calls Try.prog 7 #[.int .i64 pages, .slice A len cap] w fun e w' => e = .returned (.bool true) ∧ Own W m w' := by
  have HN := Lib.hid hn
  clear hn
  go_enter Try.func7, Try.ntmps7
  go_wp2_with fail
  refine (bnew_bad pages HN.out w).mono ?_
  rintro e w1 ⟨rfl, rfl⟩
  go_wp2_with fail
  refine (rnew_bad pages HN.out _).mono ?_
  rintro e w1 ⟨rfl, rfl⟩
  go_wp2_with fail
  go_loopw [9] (fun iv wr => iv = .int .i64 0 ∧ w = wr) (fun _ _ => 0)
  case atStart => exact ⟨rfl, rfl⟩
  case round =>
    obtain ⟨rfl, rfl⟩ := hrel
    go_wp2_with fail
    all_goals
      refine (law06.works_spec h).mono ?_
      rintro e w1 ⟨rfl, h1⟩
      go_wp2_with fail
      go_ret
      exact ⟨rfl, h1⟩
/-- both stand alike -/
def St (W : World) (m : List (Nat × Obj)) (pb rb N : Nat) (w : World) : Prop := ∃ (L bs : List Pg) (bl cl : List (Nat × Obj)), Hid (Tab L bs) ∧ Hid (L.length = N) ∧ Hid (BdO pb L bl) ∧ Hid (RdO rb L cl) ∧ Own W (bl ++ (cl ++ m)) w
set_option maxRecDepth 100000 in
set_option maxHeartbeats 8000000 in
theorem walk_ok {W w : World} {m : List (Nat × Obj)} (h : Own W m w) (N : Nat) (hN1 : 1 ≤ N) (hN : N ≤ 1024) (A : Option Addr) (len cap : Nat) (hlc : len ≤ cap) (hcap : cap ≤ maxLen) (hat : FlatAt W [some .i64, some .i64, some .i64] A len) :
    Calls Try.prog 7 #[.int .i64 N, .slice A len cap] w fun e w' => e = .returned (.bool true) ∧ Own W m w' := by
  unfold maxLen at hcap
  have HAT := Lib.hid hat
  clear hat
  go_enter Try.func7, Try.ntmps7
  go_wp2_with fail
  refine (bnew_ok h N hN1 hN).mono ?_
  rintro e w1 ⟨pb, bl, rfl, hb, h1⟩
  have HB := Lib.hid hb
  clear hb
  go_wp2_with fail
  refine (rnew_ok h1 N hN1 hN).mono ?_
  rintro e w2 ⟨rb, cl, rfl, hc, h2⟩
  have HC := Lib.hid hc
  clear hc
  go_wp2_with fail
  go_loopw [9] (fun iv wr => ∃ i : Nat, iv = .int .i64 i ∧ i ≤ len ∧ i ≤ 40 ∧ St W m pb rb N wr) (fun iv _ => 40 - (intOf iv).toNat)
  case atStart => exact ⟨0, rfl, by omega, by omega, freshL N, _, bl, cl, fresh_tab N, fresh_len N, HB, HC, h2.swap⟩
  case round =>
    clear HB HC h1 h2
    obtain ⟨i, rfl, hil, hi40, L, bs0, bl, cl, HT, HL, HB, HC, hr⟩ := hrel
    by_cases hlt : i < len ∧ i < 40
    · obtain ⟨hlt, hl40⟩ := hlt
      obtain ⟨B, o, rfl, hBW, hcs⟩ := HAT.out (by omega)
      obtain ⟨_, d0, x0, rfl, xf0⟩ := hcs i hlt 0 _ rfl
      obtain ⟨_, d1, x1, rfl, xf1⟩ := hcs i hlt 1 _ rfl
      obtain ⟨_, d2, x2, rfl, xf2⟩ := hcs i hlt 2 _ rfl
      simp only [List.length_cons, List.length_nil, Nat.reduceAdd, Nat.add_zero, Nat.zero_add] at d0 d1 d2
      have d0' := (hr.old (a := ⟨B, o + i * 3, none⟩) hBW).trans d0
      have d1' := (hr.old (a := ⟨B, o + i * 3 + 1, none⟩) hBW).trans d1
      have d2' := (hr.old (a := ⟨B, o + i * 3 + 2, none⟩) hBW).trans d2
      have b0 := emod_bd x0 3 (by omega)
      obtain ⟨K, hK⟩ : ∃ K, x0 % 3 = K := ⟨_, rfl⟩
      rw [hK] at b0
      have HK := Lib.hid hK
      have hili : (i : Int) < len := by omega
      have hi40i : (i : Int) < 40 := by omega
      have hi0 : (0 : Int) ≤ i := by omega
      have hn : Own W (bl ++ (cl ++ ((wr.heap.size, .cells #[.int .i64 x0, .int .i64 x1, .int .i64 x2] 54) :: m))) _ := hr.new2 (.cells #[.int .i64 x0, .int .i64 x1, .int .i64 x2] 54)
      have cells : Hid (∀ (M1 M2 : List (Nat × Obj)) ws, Own W (M1 ++ (M2 ++ ((wr.heap.size, .cells #[.int .i64 x0, .int .i64 x1, .int .i64 x2] 54) :: m))) ws → ws.cell? ⟨wr.heap.size, 0, none⟩ = some (.int .i64 x0) ∧ ws.cell? ⟨wr.heap.size, 1, none⟩ = some (.int .i64 x1) ∧ ws.cell? ⟨wr.heap.size, 2, none⟩ = some (.int .i64 x2)) := fun M1 M2 ws hw => by
        have := hw.dropL.dropL
        exact ⟨this.cell List.mem_cons_self 0, this.cell List.mem_cons_self 1, this.cell List.mem_cons_self 2⟩
      clear hcs d0 d1 d2 hK
      by_cases hK0 : K = 0
      · subst hK0
        go_wp2_with fail
        refine (bring_spec x0 3 (by omega) (by omega) xf0 _).mono ?_
        rintro e w3 ⟨rfl, rfl⟩
        rw [HK.out]
        obtain ⟨y0, y1, y2⟩ := cells.out _ _ _ hn
        go_wp2_with fail
        refine (alloc_is hn HB.out HT.out (by rw [HL.out]; omega) (by rw [HL.out]; omega) x1 x2).mono ?_
        rintro e w4 ⟨p, er, L1, bl1, rfl, HI1, HB1, h4⟩
        obtain ⟨y0, y1, y2⟩ := cells.out _ _ _ h4
        go_wp2_with fail
        refine (ralloc_is h4.swap HC.out HT.out (by rw [HL.out]; omega) (by rw [HL.out]; omega) x1 x2).mono ?_
        rintro e w5 ⟨p2, er2, L2, cl2, rfl, HI2, HC2, h5⟩
        obtain ⟨rfl, rfl, rfl⟩ := allocIs_one HI1.out HI2.out
        have ht := allocIs_tab HT.out HI1.out
        obtain ⟨⟨bs1, hT1⟩, hl1⟩ := ht
        rw [HL.out] at hl1
        have HT1 := Lib.hid hT1
        have HL1 := Lib.hid hl1
        clear hT1 hl1
        go_wp2_with fail
        exact ⟨⟨i + 1, by go_num, by omega, by omega, L1, bs1, bl1, cl2, HT1, HL1, HB1, HC2, (h5.swap).drop2⟩, by simp [intOf]; omega⟩
      · have hK0b : (K == 0) = false := beq_eq_false_iff_ne.2 hK0
        obtain ⟨v, ⟨gr, cr, rfl⟩, hv⟩ := law06.rd_slice (W := W) (w := wr) (m := m) HC.out (by rw [HL.out]; omega)
        have PV := Lib.hid hv
        rw [HL.out] at PV
        clear hv
        obtain ⟨y0, y1, y2⟩ := cells.out _ _ _ hn
        obtain ⟨z0, zs⟩ := PV.out _ _ hn.swap
        go_wp2_with fail
        refine (bring_spec x0 3 (by omega) (by omega) xf0 _).mono ?_
        rintro e w3 ⟨rfl, rfl⟩
        rw [HK.out]
        go_wp2_with fail
        refine (outs_spec hn zs (by rw [HL.out]; omega) (by rw [HL.out]; omega)).mono ?_
        rintro e w6 ⟨v6, b6, rfl, o6, h6⟩
        have hle := outsTo_len L L.length
        rw [HL.out] at hle
        clear y0 y1 y2 z0 zs
        obtain ⟨A6, c6, rfl, -, -⟩ := o6.slice
        have O6 := Lib.hid o6
        obtain ⟨z, hz⟩ : ∃ z, (outsTo L L.length).length = z := ⟨_, rfl⟩
        have o9 : IntsOwn true (.slice A6 z c6) (outsTo L L.length) b6 := by rwa [hz] at o6
        have O9 := Lib.hid o9
        have HZ := Lib.hid hz
        have hz1 : z ≤ N := by rw [← hz, HL.out]; exact hle
        rw [hz]
        clear o6 o9 hz hle
        have h7 : Own W (bl ++ (cl ++ ((wr.heap.size, .cells #[.int .i64 x0, .int .i64 x1, .int .i64 x2] 54) :: m))) w6 := h6.dropL
        obtain ⟨y0, y1, y2⟩ := cells.out _ _ _ h7
        by_cases hK2 : K = 2
        · subst hK2
          by_cases hz0 : 0 < z
          · have hz0i : (0 : Int) < (z : Int) := by omega
            have bz := emod_bd x1 (z : Int) (by omega)
            obtain ⟨k, hk⟩ : ∃ k : Nat, x1 % (z : Int) = k := ⟨(x1 % (z : Int)).toNat, by omega⟩
            rw [hk] at bz
            have HKK := Lib.hid hk
            obtain ⟨P, hP⟩ : ∃ P, (outsTo L L.length)[k]? = some P := ⟨_, List.getElem?_eq_getElem (by have := HZ.out; omega)⟩
            obtain ⟨g6, cp6, cur6, hv6, -⟩ := O6.out.form (by have := HZ.out; omega)
            simp only [Value.slice.injEq] at hv6
            obtain ⟨rfl, -, rfl⟩ := hv6
            have cP := SlO.cell O6.out h6 rfl (ints_get hP)
            have hk0 : (0 : Int) ≤ k := by omega
            have hkz : (k : Int) < z := by omega
            clear hP hk
            go_wp2_with fail
            refine (bring_spec x0 3 (by omega) (by omega) xf0 _).mono ?_
            rintro e w3 ⟨rfl, rfl⟩
            rw [HK.out]
            go_wp2_with fail
            refine (bring_spec x1 (z : Int) (by omega) (by omega) xf1 _).mono ?_
            rintro e w3 ⟨rfl, rfl⟩
            rw [HKK.out]
            go_wp2_with fail
            refine (free_is h7 HB.out HT.out (by rw [HL.out]; omega) (by rw [HL.out]; omega) (P)).mono ?_
            rintro e w8 ⟨er, L1, bl1, rfl, HI1, HB1, h8⟩
            go_wp2_with fail
            refine (rfree_is h8.swap HC.out HT.out (by rw [HL.out]; omega) (by rw [HL.out]; omega) (P)).mono ?_
            rintro e w9 ⟨er2, L2, cl2, rfl, HI2, HC2, h9⟩
            obtain ⟨rfl, rfl⟩ := bfreeIs_one HI1.out HI2.out
            have ht := bfreeIs_tab HT.out HI1.out
            obtain ⟨⟨bs1, hT1⟩, hl1⟩ := ht
            rw [HL.out] at hl1
            have HT1 := Lib.hid hT1
            have HL1 := Lib.hid hl1
            clear hT1 hl1
            go_wp2_with fail
            exact ⟨⟨i + 1, by go_num, by omega, by omega, L1, bs1, bl1, cl2, HT1, HL1, HB1, HC2, (h9.swap).drop2⟩, by simp [intOf]; omega⟩

          · have hz0i : ¬ (0 : Int) < (z : Int) := by omega
            go_wp2_with fail
            refine (bring_spec x0 3 (by omega) (by omega) xf0 _).mono ?_
            rintro e w3 ⟨rfl, rfl⟩
            rw [HK.out]
            go_wp2_with fail
            refine (free_is h7 HB.out HT.out (by rw [HL.out]; omega) (by rw [HL.out]; omega) (x1)).mono ?_
            rintro e w8 ⟨er, L1, bl1, rfl, HI1, HB1, h8⟩
            go_wp2_with fail
            refine (rfree_is h8.swap HC.out HT.out (by rw [HL.out]; omega) (by rw [HL.out]; omega) (x1)).mono ?_
            rintro e w9 ⟨er2, L2, cl2, rfl, HI2, HC2, h9⟩
            obtain ⟨rfl, rfl⟩ := bfreeIs_one HI1.out HI2.out
            have ht := bfreeIs_tab HT.out HI1.out
            obtain ⟨⟨bs1, hT1⟩, hl1⟩ := ht
            rw [HL.out] at hl1
            have HT1 := Lib.hid hT1
            have HL1 := Lib.hid hl1
            clear hT1 hl1
            go_wp2_with fail
            exact ⟨⟨i + 1, by go_num, by omega, by omega, L1, bs1, bl1, cl2, HT1, HL1, HB1, HC2, (h9.swap).drop2⟩, by simp [intOf]; omega⟩

        · have hK2b : (K == 2) = false := beq_eq_false_iff_ne.2 hK2
          go_wp2_with fail
          refine (bring_spec x0 3 (by omega) (by omega) xf0 _).mono ?_
          rintro e w3 ⟨rfl, rfl⟩
          rw [HK.out]
          go_wp2_with fail
          refine (free_is h7 HB.out HT.out (by rw [HL.out]; omega) (by rw [HL.out]; omega) (x1)).mono ?_
          rintro e w8 ⟨er, L1, bl1, rfl, HI1, HB1, h8⟩
          go_wp2_with fail
          refine (rfree_is h8.swap HC.out HT.out (by rw [HL.out]; omega) (by rw [HL.out]; omega) (x1)).mono ?_
          rintro e w9 ⟨er2, L2, cl2, rfl, HI2, HC2, h9⟩
          obtain ⟨rfl, rfl⟩ := bfreeIs_one HI1.out HI2.out
          have ht := bfreeIs_tab HT.out HI1.out
          obtain ⟨⟨bs1, hT1⟩, hl1⟩ := ht
          rw [HL.out] at hl1
          have HT1 := Lib.hid hT1
          have HL1 := Lib.hid hl1
          clear hT1 hl1
          go_wp2_with fail
          exact ⟨⟨i + 1, by go_num, by omega, by omega, L1, bs1, bl1, cl2, HT1, HL1, HB1, HC2, (h9.swap).drop2⟩, by simp [intOf]; omega⟩
    · have hnl : (len : Int) ≤ i ∨ ((i : Int) < len ∧ (40 : Int) ≤ i) := by omega
      clear hlt
      have fin : Hid (∀ wr, Own W (bl ++ (cl ++ m)) wr → Calls Try.prog 34 #[.pointer (some ⟨pb, 0, none⟩), .pointer (some ⟨rb, 0, none⟩)] wr fun e w' => e = .returned (.bool true) ∧ Own W m w') := fun wr hw => law06.same_yes hw HB.out HC.out HT.out (by rw [HL.out]; omega) (by rw [HL.out]; omega)
      rcases hnl with hnl | ⟨hnl2, hnl⟩
      all_goals
        go_wp2_with fail
        refine (fin.out _ hr).mono ?_
        rintro e w3 ⟨rfl, h3⟩
        go_wp2_with fail
        refine (law06.works_spec h3).mono ?_
        rintro e w4 ⟨rfl, h4⟩
        go_wp2_with fail
        go_ret
        exact ⟨rfl, h4⟩
theorem walk {W w : World} {m : List (Nat × Obj)} (h : Own W m w) (pages : Int) (A : Option Addr) (len cap : Nat) (hlc : len ≤ cap) (hcap : cap ≤ maxLen) (hat : FlatAt W [some .i64, some .i64, some .i64] A len) :
    Calls Try.prog 7 #[.int .i64 pages, .slice A len cap] w fun e w' => e = .returned (.bool true) ∧ Own W m w' := by
  by_cases hn : pages < 1 ∨ 1024 < pages
  · exact walk_bad h pages hn A len cap
  · obtain ⟨N, rfl⟩ : ∃ N : Nat, pages = N := ⟨pages.toNat, by omega⟩
    exact walk_ok h N (by omega) (by omega) A len cap hlc hcap hat
end Go.Proofs.Ytljcndcmdphmgaa.buddyPlays
