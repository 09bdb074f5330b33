import Derived.Test.YthjjpmoifgcepaaGreatJhJhX
import Derived.Lib.SliceRun
/-
  Contracts: slices.Clone, slices.Compact of numbers: as long as it was just if no two that stand side by side are alike. No condition.
-/
namespace Go.Proofs.YthjjpmoifgcepaaGreat.Jh
open Go.RowKit
attribute [local go_sem ↓] Go.wp_at_zero Go.wp_at_succ
section
variable {W w : World} {m : List (Nat × Obj)} {v : Value} {l : List Int}
set_option maxHeartbeats 400000 in
theorem cloneB (h : Own W m w) (hv : IntsB w v l) : Calls Tryz.prog 44 #[v] w fun e w' => ∃ v' bs', e = .returned v' ∧ Hid (IntsOwn true v' l bs') ∧ Own W (bs' ++ m) w' := by
  have hlen : (([] : List Int).length + l.length) * 8 ≤ BB := by simpa using hv.2
  rcases hv.1.2 with ⟨rfl, hn⟩ | ⟨a, c, rfl, hc⟩
  · have hl : l = [] := List.eq_nil_of_length_eq_zero (by simpa [ints_len] using hn)
    subst hl
    have he := Lib.run_eql_slice_nil (P := Tryz.prog) w 22 3 none 0 0 0 0 Tryz.underlying22
    go_enter Tryz.func44, Tryz.ntmps44
    go_wp2
    go_ret
    exact ⟨_, [], rfl, SlO.nil _ _ _, h⟩
  · have he := Lib.run_eql_slice_nil (P := Tryz.prog) w 22 3 (some a) l.length c 0 0 Tryz.underlying22
    have hn := h.new (.cells #[] 3)
    have hs0 : IntsOwn true (.slice (some ⟨w.heap.size, 0, none⟩) 0 0) [] [(w.heap.size, .cells #[] 3)] := SlO.made true 3 1 w.heap.size 0 #[] 0 (Nat.le_refl _) (by unfold maxLen; omega) rfl
    have hx := hv.1.below (w' := w.alloc (.cells #[] 3)) ((Below.refl _ _).alloc (Nat.le_refl _) _)
    clear hv hc
    go_enter Tryz.func44, Tryz.ntmps44
    go_wp2_with (at_builtin; refine wpList_app_intsB (by rfl) _ _ (by rfl) (by rfl) (by rfl) hs0 hn hx hlen ?_; intro v' w' bs' h1 h2; have H1 := Lib.hid h1; clear h1)
    go_ret
    exact ⟨_, bs', rfl, H1, h2⟩
theorem own_setCells {g : Nat} {t : TypeId} : ∀ (vs : List Value) (o : Nat) (cs : Array Value) (w : World), Own W ((g, .cells cs t) :: m) w → Own W m (w.setCells g o vs)
  | [], _, _, _, h => h.skip
  | x :: vs, o, cs, w, h => own_setCells vs (o + 1) _ _ (h.set o x)
theorem int_zero : ∀ w, (zeroValue 3).run Tryz.prog w = .ok (.int .i64 0) w := fun w => by
  obtain ⟨i0, hi, hz0, -, -⟩ := info_get int_info
  simp [zeroValue, typeInfo, hi, hz0]
def NoDup (l : List Int) : Prop := ∀ i, i + 1 < l.length → l.getD i 0 ≠ l.getD (i + 1) 0
/-- Compact's answer: so long -/
def CompP (W : World) (m : List (Nat × Obj)) (l : List Int) (e : Ending) (w' : World) : Prop := ∃ A k c, e = .returned (.slice A k c) ∧ (k = l.length ↔ NoDup l) ∧ Own W m w' ∧ k ≤ l.length
/-- numbers, as many -/
def Nums1 (cs : Array Value) (n : Nat) : Prop := n ≤ cs.size ∧ ∀ j, j < n → ∃ x : Int, cs[j]? = some (.int .i64 x)
theorem Nums1.set {cs : Array Value} {n i : Nat} {x : Int} (h : Nums1 cs n) : Nums1 (cs.setIfInBounds i (.int .i64 x)) n := by
  refine ⟨by simpa using h.1, fun j hj => ?_⟩
  have hs := h.1
  by_cases hij : i = j
  · subst hij
    exact ⟨x, by rw [Array.getElem?_setIfInBounds_self_of_lt (by omega)]⟩
  · obtain ⟨y, hy⟩ := h.2 j hj
    exact ⟨y, by rw [Array.getElem?_setIfInBounds_ne hij]; exact hy⟩
set_option maxHeartbeats 4000000 in
set_option maxRecDepth 100000 in
theorem compact_spec {bs : List (Nat × Obj)} (hs : IntsOwn true v l bs) (h : Own W (bs ++ m) w) (hB : l.length * 8 ≤ BB) : Calls Tryz.prog 43 #[v] w (CompP W m l) := by
  by_cases h2 : l.length < 2
  · obtain ⟨A, c, rfl, _, _⟩ := hs.slice
    have HO := Lib.hid h.dropL
    clear h hs
    go_enter Tryz.func43, Tryz.ntmps43
    go_wp2_with fail
    go_ret
    exact ⟨A, l.length, c, by simp, ⟨fun _ i hi => absurd hi (by omega), fun _ => rfl⟩, HO.out, Nat.le_refl _⟩
  · have hBi : Hid ((l.length : Int) < 9223372036854775807) := bb_ints hB
    obtain ⟨g, cap, cur, rfl, rfl, hcap, hmax, ⟨hsz, _⟩, hcur⟩ := hs.form (by omega)
    have hN : Nums1 cur l.length := by
      refine ⟨by omega, fun j hj => ?_⟩
      have := hs.cell (w := w) (W := W) (m := m) h rfl (j := j) (u := .int .i64 (l[j]'hj)) (ints_get (List.getElem?_eq_getElem hj))
      rw [h.cell List.mem_cons_self] at this
      exact ⟨_, this⟩
    have hL : ∀ (j : Nat) (x : Int), l[j]? = some x → cur[j]? = some (.int .i64 x) := fun j x hx => by
      have := hs.cell (w := w) (W := W) (m := m) h rfl (j := j) (u := .int .i64 x) (ints_get hx)
      rwa [h.cell List.mem_cons_self] at this
    have HL := Lib.hid hL
    have HN := Lib.hid hN
    have HH := Lib.hid h
    have hn1 : decide ((l.length : Int) < 2) = false := decide_eq_false (by omega)
    have H2 := Lib.hid h2
    clear h2
    have HM : Hid (l.length ≤ cap ∧ cap ≤ maxLen ∧ cap * 1 ≤ cur.size) := ⟨hcap, hmax, hsz⟩
    clear hN hL h hs hcur hB hmax hsz
    go_enter Tryz.func43, Tryz.ntmps43
    go_wp2_with fail
    go_loopw [3] (fun k wr => ∃ i : Nat, 1 ≤ i ∧ i ≤ l.length ∧ k = .int .i64 i ∧ Hid (∀ j, j + 1 < i → l.getD j 0 ≠ l.getD (j + 1) 0) ∧ Hid (Own W ((g, .cells cur 3) :: m) wr)) (fun k _ => l.length - (intOf k).toNat)
    case atStart => exact ⟨1, by omega, by have := H2.out; omega, rfl, fun j hj => absurd hj (by omega), HH⟩
    case round =>
      obtain ⟨i, hi1, hi, rfl, HD, HR⟩ := hrel
      clear HH
      by_cases hlt : i < l.length
      · obtain ⟨q, rfl⟩ : ∃ q, i = q + 1 := ⟨i - 1, by omega⟩
        obtain ⟨x, hx⟩ : ∃ x, l[q]? = some x := ⟨_, List.getElem?_eq_getElem (by omega)⟩
        obtain ⟨y, hy⟩ : ∃ y, l[q + 1]? = some y := ⟨_, List.getElem?_eq_getElem (by omega)⟩
        have cx := (HR.out.cell List.mem_cons_self q).trans (HL.out q x hx)
        have cy := (HR.out.cell List.mem_cons_self (q + 1)).trans (HL.out (q + 1) y hy)
        have HX := Lib.hid hx
        have HY := Lib.hid hy
        clear hx hy
        have hq1 : (0 : Int) ≤ (q : Int) ∧ (q : Int) < (l.length : Int) := by omega
        have hq2 : (0 : Int) ≤ (q : Int) + 1 ∧ (q : Int) + 1 < (l.length : Int) := by omega
        have hwk : IntKind.i64.wrap (q : Int) = (q : Int) := by have := hBi.out; rw [IntWalk.i64_in] <;> omega
        by_cases hxy : y = x
        · have hb : (y == x) = true := by simp [hxy]
          have HXY := Lib.hid hxy
          clear hxy
          go_wp2_with fail
          go_quiet (fail)
          have HR1 := Lib.hid (HR.out.drewN nq)
          clear cx cy HR
          generalize wr.drewN nq = w1 at HR1 ⊢
          obtain ⟨d, hd⟩ : ∃ d, l.length = q + 1 + 1 + d := ⟨l.length - (q + 1 + 1), by omega⟩
          have hsub : l.length - (q + 1) = d + 1 := by omega
          have HDD := Lib.hid hd
          clear hd
          have hcc : q + 1 ≤ cap := by omega
          have HLT := Lib.hid hlt
          have HCC := Lib.hid hcap
          go_upto_region 9 with fail
          go_loopw [3, 5] (fun k3 k5 wr => ∃ (p r : Nat) (cs : Array Value), r ≤ d ∧ q + 1 ≤ p ∧ p ≤ q + 1 + r ∧ k3 = .int .i64 p ∧ k5 = .int .i64 ((r : Int) + 1) ∧ Hid (Nums1 cs l.length) ∧ Hid (Own W ((g, .cells cs 3) :: m) wr)) (fun _ k5 _ => d + 1 - (intOf k5).toNat)
          case atStart => exact ⟨q + 1, 0, cur, Nat.zero_le _, Nat.le_refl _, Nat.le_refl _, rfl, rfl, HN, HR1⟩
          case round =>
            clear HR1 HN HL
            obtain ⟨p, r, cs, hr, hp1, hp2, rfl, rfl, HN, HR⟩ := hrel
            by_cases hrd : r < d
            · obtain ⟨x1, hx1⟩ := HN.out.2 (q + 1 + r) (by have := HDD.out; omega)
              obtain ⟨y1, hy1⟩ := HN.out.2 (q + 1 + (r + 1)) (by have := HDD.out; omega)
              obtain ⟨z1, hz1⟩ := HN.out.2 p (by have := HDD.out; omega)
              have cx := (HR.out.cell List.mem_cons_self (q + 1 + r)).trans hx1
              have cy := (HR.out.cell List.mem_cons_self (q + 1 + (r + 1))).trans hy1
              have cz := (HR.out.cell List.mem_cons_self p).trans hz1
              have fz := HR.out.frozen List.mem_cons_self p
              clear hx1 hy1 hz1
              have hr1 : (0 : Int) ≤ (r : Int) ∧ (r : Int) < (d : Int) + 1 := by omega
              have hr2 : (0 : Int) ≤ (r : Int) + 1 ∧ (r : Int) + 1 < (d : Int) + 1 := by omega
              have hp3 : (0 : Int) ≤ (p : Int) ∧ (p : Int) < (l.length : Int) := by have := HDD.out; omega
              have hwr : IntKind.i64.wrap (r : Int) = (r : Int) := by have := hBi.out; have := HDD.out; rw [IntWalk.i64_in] <;> omega
              have hw5 : wrap64 ((r : Int) + 1 + 1) = ((r + 1 : Nat) : Int) + 1 := by have := hBi.out; have := HDD.out; rw [IntWalk.wrap64_in _ (by omega)]; omega
              have hw3 : wrap64 ((p : Int) + 1) = ((p + 1 : Nat) : Int) := by have := hBi.out; have := HDD.out; rw [IntWalk.wrap64_in _ (by omega)]; omega
              have HW5 := Lib.hid hw5
              have HW3 := Lib.hid hw3
              clear hw5 hw3
              by_cases hxy1 : y1 = x1
              · have hb1 : (y1 != x1) = false := by simp [hxy1]
                clear hxy1
                go_wp2_with fail
                go_quiet (fail)
                go_wp2_with fail
                refine ⟨⟨p, r + 1, cs, by omega, hp1, by omega, rfl, by rw [HW5.out], HN, HR.out.drewN _⟩, ?_⟩
                rw [HW5.out]
                simp [intOf]
                omega
              · have hb1 : (y1 != x1) = true := by simp [hxy1]
                clear hxy1
                go_wp2_with fail
                go_quiet (fail)
                go_wp2_with fail
                have h7 := (HR.out.drewN nq).set p (.int .i64 y1)
                refine ⟨⟨p + 1, r + 1, _, by omega, by omega, by omega, by rw [HW3.out], by rw [HW5.out], HN.out.set (i := p) (x := y1), Lib.hid h7⟩, ?_⟩
                rw [HW5.out]
                simp [intOf]
                omega
            · obtain rfl : r = d := by omega
              have hps : 0 < l.length - p := by have := HDD.out; omega
              have hcl : ∀ ty, (Builtin.clear_ #[22] ty #[.slice (some ⟨g, p, none⟩) (l.length - p) (cap - p)]).run Tryz.prog wr = .ok (.tuple #[]) (wr.setCells g p (List.replicate (l.length - p) (.int .i64 0))) := fun ty =>
                Lib.run_clear_slice wr _ _ ty _ Tryz.underlying22 int_zero rfl rfl g p _ _ hps (fun j hj => by
                  obtain ⟨z, hz⟩ := HN.out.2 (p + j) (by omega)
                  rw [(HR.out.cell List.mem_cons_self (p + j)).trans hz]; rfl) (fun j hj => HR.out.frozen List.mem_cons_self (p + j))
              have HE := Lib.hid (own_setCells (List.replicate (l.length - p) (.int .i64 0)) p _ _ HR.out)
              have hp3 : p ≤ l.length := by have := HDD.out; omega
              have hp4 : p ≤ cap := by have := HDD.out; omega
              have HP : Hid (p ≠ l.length) := Lib.hid (by have := HDD.out; omega)
              go_wp2_with fail
              go_ret
              refine ⟨some ⟨g, 0, none⟩, p, cap, by simp, ⟨fun he => absurd he HP.out, fun hN => ?_⟩, HE.out, hp3⟩
              exact absurd (by rw [getD_of HX.out, getD_of HY.out, HXY.out]) (hN q HLT.out)
        · have hb : (y == x) = false := by simp [hxy]
          have HXY := Lib.hid hxy
          clear hxy
          go_wp2_with fail
          go_quiet (fail)
          go_wp2_with fail
          go_roundw
          case rel =>
            refine ⟨q + 1 + 1, by omega, by omega, by rw [show wrap64 ((q : Int) + 1 + 1) = ((q + 1 + 1 : Nat) : Int) by rw [IntWalk.wrap64_in _ (by have := hBi.out; omega)]; omega], fun j hj => ?_, HR.out.drewN _⟩
            by_cases hjq : j = q
            · subst hjq
              rw [getD_of HX.out, getD_of HY.out]
              exact fun he => HXY.out he.symm
            · exact HD.out j (by omega)
          case measure => rw [show wrap64 ((q : Int) + 1 + 1) = ((q + 1 + 1 : Nat) : Int) by rw [IntWalk.wrap64_in _ (by have := hBi.out; omega)]; omega]; simp [intOf]; omega
      · obtain rfl : i = l.length := by omega
        go_wp2_with fail
        go_ret
        exact ⟨some ⟨g, 0, none⟩, l.length, cap, by simp, ⟨fun _ => fun j hj => HD.out j hj, fun _ => rfl⟩, HR.out.skip, Nat.le_refl _⟩
end
end Go.Proofs.YthjjpmoifgcepaaGreat.Jh
