/-
  Contract: (*Buddy).Free.
-/
import Derived.Test.YtljcndcmdphmgaaBudAlloc
import Derived.Deep.RegionWith
namespace Go.Proofs.Ytljcndcmdphmgaa
open Go.RowKit
attribute [local go_sem ↓] Go.wp_at_zero Go.wp_at_succ
theorem field0 (x y : Int) (w : World) : (Instr.field 102 (.agg #[.int .i64 x, .int .i64 y]) 0).run Try.prog w = .ok (.int .i64 x) w := by
  simp [Instr.field, go_sem, asAgg]
/-- the order in a block's box -/
def box1 (w : World) (B : Nat) : Nat := match w.cell? ⟨B, 1, none⟩ with | some v => (intOf v).toNat | none => 0
theorem box1_eq {w : World} {B : Nat} {n : Int} (h : w.cell? ⟨B, 1, none⟩ = some (.int .i64 n)) : box1 w B = n.toNat := by
  unfold box1
  rw [h]
  rfl
/-- the table behind Free -/
def freeL (L : List Pg) (page o : Nat) : List Pg := pgPut L (bJoin L (10 - o) page o).1 (fb (bJoin L (10 - o) page o).2)
section
variable {W w : World} {m bl : List (Nat × Obj)} {pb : Nat} {L : List Pg}
set_option maxRecDepth 100000 in
set_option maxHeartbeats 4000000 in
theorem Free_bad (h : Own W (bl ++ m) w) (hb : BdO pb L bl) (hL1 : 1 ≤ L.length) (page : Int) (hbad : ∀ p : Pg, 0 ≤ page → L[page.toNat]? = some p → p.1 ≠ 2) :
    Calls Try.prog 25 #[.pointer (some ⟨pb, 0, none⟩), .int .i64 page] w fun e w' => e = .returned (.int .i64 60) ∧ Own W (bl ++ m) w' := by
  have hb' := hb
  obtain ⟨v, bs, ho, rfl⟩ := hb'
  obtain ⟨g, cap, cur, rfl, -, -⟩ := ho.form (by omega)
  have hc := bd_cell h
  obtain ⟨N, hN⟩ : ∃ N, L.length = N := ⟨_, rfl⟩
  rw [hN] at hc
  have HB := Lib.hid hb
  by_cases h1 : page < 0
  · clear hN hbad
    go_enter Try.func25, Try.ntmps25
    go_wp2_with (go_at_call 53; refine (none_spec h HB.out hL1).mono ?_; rintro e w' ⟨rfl, rfl⟩)
    go_ret
    exact ⟨rfl, h⟩
  · have h1' : 0 ≤ page := by omega
    by_cases h2 : (N : Int) ≤ page
    · clear hN hbad h1
      go_enter Try.func25, Try.ntmps25
      go_wp2_with (go_at_call 53; refine (none_spec h HB.out hL1).mono ?_; rintro e w' ⟨rfl, rfl⟩)
      go_ret
      exact ⟨rfl, h⟩
    · obtain ⟨p, rfl⟩ : ∃ p : Nat, page = p := ⟨page.toNat, by omega⟩
      obtain ⟨⟨p0, p1, p2⟩, hp⟩ : ∃ x, L[p]? = some x := ⟨_, List.getElem?_eq_getElem (by omega)⟩
      have hk := hbad _ h1' (by rw [Int.toNat_natCast]; exact hp)
      simp only at hk
      have hkb : (p0 != 2) = true := bne_iff_ne.2 hk
      obtain ⟨a0, a1, a2, -, -, -⟩ := pg_cells ho (bd_own h) rfl rfl hp
      simp only at a0 a1 a2
      have hpN : (p : Int) < N := by omega
      clear hN hbad h1 h2 hp hk
      go_enter Try.func25, Try.ntmps25
      go_wp2_with (go_at_call 53; refine (none_spec h HB.out hL1).mono ?_; rintro e w' ⟨rfl, rfl⟩)
      go_ret
      exact ⟨rfl, h⟩
set_option maxRecDepth 100000 in
set_option maxHeartbeats 4000000 in
theorem Free_ok (h : Own W (bl ++ m) w) (hb : BdO pb L bl) {bs0 : List Pg} (hT : Tab L bs0) (hL1 : 1 ≤ L.length) (hL : L.length ≤ 1024) (page o0 : Nat) (c0 : Int) (hp : L[page]? = some (2, (o0 : Int), c0)) :
    Calls Try.prog 25 #[.pointer (some ⟨pb, 0, none⟩), .int .i64 page] w fun e w' => ∃ bl', e = .returned (.int .i64 0) ∧ BdO pb (freeL L page o0) bl' ∧ Own W (bl' ++ m) w' := by
  have HT := Lib.hid hT
  have hb' := hb
  obtain ⟨v, bs, ho, hbl⟩ := hb'
  obtain ⟨g, cap, cur, rfl, -, -⟩ := ho.form (by omega)
  obtain ⟨hal, hfit, hhd⟩ := tab_align HT.out hp (by simp)
  have hsz : pgSize ((2 : Int), (o0 : Int), c0) = 2 ^ o0 := by simp [pgSize]
  rw [hsz] at hal hfit
  have ho10 := pgHead_order hhd
  simp only at ho10
  have ho10 : o0 ≤ 10 := by omega
  obtain ⟨N, hN⟩ : ∃ N, L.length = N := ⟨_, rfl⟩
  have HN := Lib.hid hN
  have HB := Lib.hid hb
  have h' := h
  rw [hbl] at h'
  obtain ⟨a0, a1, a2, -, -, -⟩ := pg_cells ho (bd_own h') rfl rfl hp
  simp only at a0 a1 a2
  have hc := bd_cell h'
  rw [hN] at hc hfit hL hL1
  have HAL := Lib.hid hal
  have HF := Lib.hid hfit
  have hpN : (page : Int) < N := by have := Nat.two_pow_pos o0; omega
  have hd1 : decide ((page : Int) < 0) = false := decide_eq_false (by omega)
  have hd2 : decide (N ≤ page) = false := decide_eq_false (by omega)
  have h1 : Own W (bl ++ ((w.heap.size, .cells #[.int .i64 page, .int .i64 o0] 102) :: m)) (w.alloc (.cells #[.int .i64 page, .int .i64 o0] 102)) := h.new1 _
  clear hN hal hfit hp hT hsz hhd hbl h' ho
  go_enter Try.func25, Try.ntmps25
  go_wp2_with (go_at_call 53; refine (none_spec h HB.out (by rw [HN.out]; exact hL1)).mono ?_; rintro e w' ⟨rfl, rfl⟩)
  go_loopw [] (fun wr => ∃ a o : Nat, o ≤ 10 ∧ a ≤ N ∧ Hid (bJoin L (10 - o) a o = bJoin L (10 - o0) page o0) ∧ Hid (a % 2 ^ o = 0) ∧ Hid (a + 2 ^ o ≤ N) ∧ Own W (bl ++ ((w.heap.size, .cells #[.int .i64 a, .int .i64 o] 102) :: m)) wr) (fun wr => 10 - box1 wr w.heap.size)
  case atStart => exact ⟨page, o0, ho10, by omega, rfl, HAL, HF, h1⟩
  case round =>
    obtain ⟨a, o, ho, haN, HJ, HA, HAF, hr⟩ := hrel
    have y0 := hr.dropL.cell List.mem_cons_self 0
    have y1 := hr.dropL.cell List.mem_cons_self 1
    have y1' := hr.dropL.cell List.mem_cons_self 1
    rw [show (#[Value.int .i64 (a : Int), .int .i64 (o : Int)] : Array Value)[1]? = some (.int .i64 (o : Int)) from rfl] at y1'
    have Y1 := Lib.hid y1'
    clear y1'
    have f0 := hr.dropL.frozen List.mem_cons_self 0
    have f1 := hr.dropL.frozen List.mem_cons_self 1
    simp at y0 y1
    have fin : Hid (∀ (a o : Nat) (wr : World), o ≤ 10 → (a, o) = bJoin L (10 - o0) page o0 → a + 2 ^ o ≤ N → Own W (bl ++ ((w.heap.size, .cells #[.int .i64 a, .int .i64 o] 102) :: m)) wr →
        Calls Try.prog 58 #[.pointer (some ⟨pb, 0, none⟩), .agg #[.int .i64 a, .int .i64 o], .agg #[.int .i64 0, .int .i64 0, .int .i64 0]] wr fun e w' => ∃ bl', e = .returned (.tuple #[]) ∧ BdO pb (freeL L page o0) bl' ∧ Own W (bl' ++ ((w.heap.size, .cells #[.int .i64 a, .int .i64 o] 102) :: m)) w') := by
      intro a o wr ho he hf hr
      have := lay_spec hr HB.out a o ho (by rw [HN.out]; exact hf) (by rw [HN.out]; exact hL) 0 0 0
      unfold freeL
      rw [← he]
      exact this
    by_cases hlt : o < 10
    · have hlti : (o : Int) < 10 := by omega
      obtain ⟨k, hk⟩ : ∃ k, 10 - o = k + 1 := ⟨9 - o, by omega⟩
      have hj := HJ.out
      rw [hk] at hj
      rw [show bJoin L (k + 1) a o = if L[other a o]? = some (fb o) then bJoin L k (min a (other a o)) (o + 1) else (a, o) from rfl] at hj
      by_cases hf : L[other a o]? = some (fb o)
      · rw [if_pos hf, show k = 10 - (o + 1) from by omega] at hj
        obtain ⟨v1, v2, -⟩ := tab_align HT.out hf (fb_kind o)
        rw [fb_size, HN.out] at v2
        have hp2 : 2 ^ (o + 1) = 2 ^ o + 2 ^ o := by rw [Nat.pow_succ]; omega
        have hmm : (min a (other a o)) % 2 ^ (o + 1) = 0 ∧ min a (other a o) + 2 ^ (o + 1) ≤ N := by
          rcases other_cases a o HA.out with ⟨g1, g2, g3⟩ | ⟨g1, g2, g3, g4, g5⟩
          · rw [g3]
            rw [g2] at v2
            exact ⟨by rw [hp2, show 2 ^ o + 2 ^ o = 2 * 2 ^ o from by omega]; exact g1, by omega⟩
          · rw [g4]
            have := HAF.out
            exact ⟨by rw [hp2, show 2 ^ o + 2 ^ o = 2 * 2 ^ o from by omega]; exact g5, by omega⟩
        have HJ2 := Lib.hid hj
        have HM1 := Lib.hid hmm.1
        have HM2 := Lib.hid hmm.2
        have HFB := Lib.hid hf
        have hqN : other a o < N := by have := (List.getElem?_eq_some_iff.1 hf).1; rw [HN.out] at this; exact this
        have hmin : min (a : Int) (other a o : Int) = ((min a (other a o) : Nat) : Int) := by omega
        have HMIN := Lib.hid hmin
        clear hj hf hmm v1 v2 hp2 hk hmin HJ
        go_wp2_with fail
        refine (other_spec hr a o ho (by omega) HA.out).mono ?_
        rintro e w2 ⟨rfl, h2⟩
        go_wp2_with fail
        refine (free_yes h2 HB.out (other a o) o (fb o) HFB.out).mono ?_
        rintro e w3 ⟨rfl, h3⟩
        rw [decide_eq_true (show fb o = (0, (o : Int), 0) from rfl)]
        have y0 := h3.dropL.cell List.mem_cons_self 0
        have y1 := h3.dropL.cell List.mem_cons_self 1
        have f0 := h3.dropL.frozen List.mem_cons_self 0
        have f1 := h3.dropL.frozen List.mem_cons_self 1
        simp at y0 y1
        go_wp2_with fail
        have hfld := field0 (other a o) o
        have hw1 : IntKind.i64.wrap ((o : Int) + 1) = (o : Int) + 1 := by rw [IntWalk.i64_in] <;> omega
        go_region_with ((go_at_call 57; refine (other_spec h3.drew a o ho (by omega) HA.out).mono ?_; rintro e w4 ⟨rfl, h4⟩; have y0 := h4.dropL.cell List.mem_cons_self 0; have y1 := h4.dropL.cell List.mem_cons_self 1; have f0 := h4.dropL.frozen List.mem_cons_self 0; have f1 := h4.dropL.frozen List.mem_cons_self 1; simp at y0 y1))
        all_goals
          have h5 : Own W (bl ++ ((w.heap.size, .cells #[.int .i64 ((min a (other a o) : Nat) : Int), .int .i64 ((o : Int) + 1)] 102) :: m)) _ := (h4.setIn 0 (.int .i64 ((min a (other a o) : Nat) : Int))).setIn 1 (.int .i64 ((o : Int) + 1))
          have z1 := h5.dropL.cell List.mem_cons_self 1
          rw [show (#[Value.int .i64 ((min a (other a o) : Nat) : Int), .int .i64 ((o : Int) + 1)] : Array Value)[1]? = some (.int .i64 ((o : Int) + 1)) from rfl] at z1
          have Z1 := Lib.hid z1
          clear z1
          rw [show (if other a o < a then ((other a o : Nat) : Int) else (a : Int)) = ((min a (other a o) : Nat) : Int) from by split <;> omega]
          clear hw1 hfld
          go_wp2_with fail
          refine ⟨?_, ?_⟩
          · first
              | exact ⟨min a (other a o), o + 1, by omega, by omega, HJ2, HM1, HM2, h5⟩
              | ((repeat apply Exists.intro); exact ⟨⟨min a (other a o), o + 1, by omega, by omega, HJ2, HM1, HM2, h5⟩, rfl⟩)
          · rw [box1_eq Z1.out, box1_eq Y1.out]; omega
      · rw [if_neg hf] at hj
        have HJ2 := Lib.hid hj
        have HNF := Lib.hid hf
        clear hj hf hk HJ
        by_cases hqN : other a o < N
        · obtain ⟨p, hp⟩ : ∃ p, L[other a o]? = some p := ⟨_, List.getElem?_eq_getElem (by rw [HN.out]; exact hqN)⟩
          have hpf : ¬ p = (0, (o : Int), 0) := fun e => HNF.out (by rw [hp, e]; rfl)
          have HPF := Lib.hid hpf
          have HP := Lib.hid hp
          clear hp hpf
          go_wp2_with fail
          refine (other_spec hr a o ho (by omega) HA.out).mono ?_
          rintro e w2 ⟨rfl, h2⟩
          go_wp2_with fail
          refine (free_yes h2 HB.out (other a o) o p HP.out).mono ?_
          rintro e w3 ⟨rfl, h3⟩
          rw [decide_eq_false HPF.out]
          have y0 := h3.dropL.cell List.mem_cons_self 0
          have y1 := h3.dropL.cell List.mem_cons_self 1
          simp at y0 y1
          go_wp2_with fail
          refine (fin.out a o w3 ho HJ2.out HAF.out h3).mono ?_
          rintro e w4 ⟨bl4, rfl, hb4, h4⟩
          go_wp2_with fail
          go_ret
          exact ⟨bl4, rfl, hb4, h4.drop1⟩
        · go_wp2_with fail
          refine (other_spec hr a o ho (by omega) HA.out).mono ?_
          rintro e w2 ⟨rfl, h2⟩
          go_wp2_with fail
          refine (free_no h2 HB.out (other a o) o (by rw [HN.out]; omega)).mono ?_
          rintro e w3 ⟨rfl, h3⟩
          have y0 := h3.dropL.cell List.mem_cons_self 0
          have y1 := h3.dropL.cell List.mem_cons_self 1
          simp at y0 y1
          go_wp2_with fail
          refine (fin.out a o w3 ho HJ2.out HAF.out h3).mono ?_
          rintro e w4 ⟨bl4, rfl, hb4, h4⟩
          go_wp2_with fail
          go_ret
          exact ⟨bl4, rfl, hb4, h4.drop1⟩
    · obtain rfl : o = 10 := by omega
      go_wp2_with fail
      refine (fin.out a 10 wr ho HJ.out HAF.out hr).mono ?_
      rintro e w4 ⟨bl4, rfl, hb4, h4⟩
      go_wp2_with fail
      go_ret
      exact ⟨bl4, rfl, hb4, h4.drop1⟩
end
end Go.Proofs.Ytljcndcmdphmgaa
