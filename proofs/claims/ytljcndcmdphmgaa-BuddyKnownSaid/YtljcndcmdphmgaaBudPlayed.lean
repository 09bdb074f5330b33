/-
  Contract: wainscotlaw06.played.
-/
import Derived.Test.YtljcndcmdphmgaaBudInv
import Derived.Test.YtljcndcmdphmgaaBring
import Derived.Test.YtljcndcmdphmgaaArgs
namespace Go.Proofs.Ytljcndcmdphmgaa
open Go.RowKit
attribute [local go_sem ↓] Go.wp_at_zero Go.wp_at_succ
theorem perm_out {l : List Int} {k : Nat} {x y : Int} (hk : l[k]? = some x) (hy : l[l.length - 1]? = some y) : l.Perm (x :: (l.set k y).take (l.length - 1)) := by
  have hlt := (List.getElem?_eq_some_iff.1 hk).1
  have hne : l ≠ [] := by intro h; rw [h] at hlt; simp at hlt
  obtain ⟨i, z, rfl⟩ : ∃ i z, l = i ++ [z] := ⟨l.dropLast, l.getLast hne, (List.dropLast_concat_getLast hne).symm⟩
  have hz : y = z := by simp at hy; exact hy.symm
  subst hz
  rw [List.length_append, List.length_singleton, Nat.add_sub_cancel]
  by_cases h : k = i.length
  · subst h
    simp at hk
    subst hk
    rw [List.set_append_right _ _ (by omega)]
    simp
  · have hki : k < i.length := by rw [List.length_append, List.length_singleton] at hlt; omega
    rw [List.getElem?_append_left hki] at hk
    rw [List.set_append_left _ _ hki, List.take_left' (by simp)]
    obtain ⟨h1, rfl⟩ := List.getElem?_eq_some_iff.1 hk
    refine (List.perm_append_singleton _ _).trans ?_
    have h2 : i = i.take k ++ i[k] :: i.drop (k + 1) := by rw [List.getElem_cons_drop, List.take_append_drop]
    have h3 : i.set k y = i.take k ++ y :: i.drop (k + 1) := by rw [List.set_eq_take_append_cons_drop, if_pos hki]
    rw [h3]
    conv => lhs; rw [h2]
    refine (List.Perm.cons y (List.perm_middle)).trans ?_
    refine (List.Perm.swap _ _ _).trans ?_
    exact List.Perm.cons _ List.perm_middle.symm
section
variable {W w : World} {m bl : List (Nat × Obj)} {pb : Nat} {L : List Pg} {outl : List Int}
/-- Alloc, in the invariant's words -/
def AllocInv (W : World) (m : List (Nat × Obj)) (pb : Nat) (L : List Pg) (outl : List Int) (e : Ending) (w' : World) : Prop :=
  ∃ (a er : Int) (L' : List Pg) (bl' : List (Nat × Obj)), e = .returned (.tuple #[.int .i64 a, .int .i64 er]) ∧ Hid (L'.length = L.length) ∧ Hid (BdO pb L' bl') ∧ Own W (bl' ++ m) w' ∧ Hid ((er = 7 ∧ BInv L' outl) ∨ (er = 0 ∧ BInv L' (outl ++ [a])))
theorem alloc_inv (h : Own W (bl ++ m) w) (hb : BdO pb L bl) (hI : BInv L outl) (hL1 : 1 ≤ L.length) (hL : L.length ≤ 1024) (order c : Int) (ho0 : 0 ≤ order) (ho : order ≤ 10) (hc0 : 0 ≤ c) (hc8 : c ≤ 8) :
    Calls Try.prog 28 #[.pointer (some ⟨pb, 0, none⟩), .int .i64 order, .int .i64 c] w (AllocInv W m pb L outl) := by
  obtain ⟨bs, hT⟩ := bInv_tab hI
  obtain ⟨o, rfl⟩ : ∃ o : Nat, order = o := ⟨order.toNat, by omega⟩
  refine (alloc_ok h hb hT hL1 hL o c (by omega) hc0 hc8).mono ?_
  rintro x w' (⟨hbad, -⟩ | ⟨-, hno, hx, hO⟩ | ⟨-, a, k, bl', hl, hx, hb', hO⟩)
  · omega
  · exact ⟨0, 7, L, bl, hx, rfl, hb, hO, .inl ⟨rfl, hI⟩⟩
  · rw [Int.toNat_natCast] at hl hb'
    obtain ⟨h1, h2, -⟩ := binv_alloc hI hl ⟨hc0, hc8⟩
    exact ⟨a, 0, _, bl', hx, h2, hb', hO, .inr ⟨rfl, h1⟩⟩
/-- Free of what is out, in the invariant's words -/
theorem free_inv (h : Own W (bl ++ m) w) (hb : BdO pb L bl) (hI : BInv L outl) (hL1 : 1 ≤ L.length) (hL : L.length ≤ 1024) {k : Nat} {x : Int} (hk : outl[k]? = some x) :
    Calls Try.prog 25 #[.pointer (some ⟨pb, 0, none⟩), .int .i64 x] w fun e w' => ∃ L' bl', e = .returned (.int .i64 0) ∧ Hid (L'.length = L.length) ∧ Hid (BdO pb L' bl') ∧ Own W (bl' ++ m) w' ∧
      Hid (∀ out', outl.Perm (x :: out') → BInv L' out') ∧ Hid (pgFree L < pgFree L') := by
  obtain ⟨bs, hT⟩ := bInv_tab hI
  obtain ⟨p, o, c, rfl, hp⟩ := binv_out hI (List.mem_of_getElem? hk)
  refine (Free_ok h hb hT hL1 hL p o c hp).mono ?_
  rintro e w' ⟨bl', he, hb', hO⟩
  have hlen : (freeL L p o).length = L.length ∧ pgFree L < pgFree (freeL L p o) := by
    obtain ⟨y, hy⟩ : ∃ y, outl.Perm ((p : Int) :: y) := ⟨_, (List.perm_cons_erase (List.mem_of_getElem? hk))⟩
    obtain ⟨-, h2, h3⟩ := binv_free hI hp hy
    refine ⟨h2, ?_⟩
    obtain ⟨bs', hT', hs⟩ := h3 _ hT
    rw [pgFree_tab hT hL1 hL, pgFree_tab hT' (by rw [h2]; exact hL1) (by rw [h2]; exact hL), hs]
    have := Nat.two_pow_pos o
    have : (0 : Int) < 2 ^ o := by exact_mod_cast this
    omega
  exact ⟨_, bl', he, hlen.1, hb', hO, fun out' hperm => (binv_free hI hp hperm).1, hlen.2⟩
end
section
variable {W w : World} {m : List (Nat × Obj)}
def Played (W : World) (m : List (Nat × Obj)) (N : Nat) (e : Ending) (w' : World) : Prop :=
  ∃ pb L bl v outl bo, e = .returned (.tuple #[.pointer (some ⟨pb, 0, none⟩), v]) ∧ BInv L outl ∧ L.length = N ∧ outl.length ≤ 60 ∧ BdO pb L bl ∧ IntsOwn true v outl bo ∧ Own W (bo ++ (bl ++ m)) w'
set_option maxRecDepth 100000 in
set_option maxHeartbeats 4000000 in
theorem played_spec (h : Own W m w) (pages : Int) (hp : (Lit.int .i64 pages).wf = true) (A : Option Addr) (len cap : Nat) (hlc : len ≤ cap) (hcap : cap ≤ maxLen) (hat : FlatAt W [some .i64, some .i64, some .i64] A len) :
    Calls Try.prog 21 #[.int .i64 pages, .slice A len cap] w (Played W m (1 + (pages % 300).toNat)) := by
  have hb := emod_bd pages 300 (by omega)
  obtain ⟨N, hN⟩ : ∃ N : Nat, pages % 300 = N := ⟨(pages % 300).toNat, by omega⟩
  rw [hN]
  have hN3 : N < 300 := by omega
  have HN := Lib.hid hN
  have HAT := Lib.hid hat
  clear hat hN hb
  go_enter Try.func21, Try.ntmps21
  go_wp2_with fail
  refine (bring_spec pages 300 (by omega) (by omega) hp _).mono ?_
  rintro e w' ⟨rfl, rfl⟩
  rw [HN.out]
  have hnew := bnew_ok h (1 + N) (by omega) (by omega)
  rw [show ((1 + N : Nat) : Int) = 1 + (N : Int) from by omega] at hnew
  have HNEW := Lib.hid hnew
  clear hnew
  go_wp2_with fail
  refine HNEW.out.mono ?_
  rintro e w1 ⟨pb, bl0, rfl, hb0, h1⟩
  have HB0 := Lib.hid hb0
  go_wp2_with fail
  go_loopw [8, 9] (fun out i wr => ∃ (j : Nat) (L : List Pg) (outl : List Int) (bl bo : List (Nat × Obj)), i = .int .i64 j ∧ j ≤ len ∧ j ≤ 60 ∧ Hid (BInv L outl) ∧ Hid (L.length = 1 + N) ∧ outl.length ≤ j ∧ Hid (BdO pb L bl) ∧ Hid (IntsOwn true out outl bo) ∧ Own W (bo ++ (bl ++ m)) wr) (fun _ i _ => len - (intOf i).toNat)
  case atStart => exact ⟨0, freshL (1 + N), [], bl0, [], rfl, by omega, by omega, binv_fresh _, fresh_len _, by simp, HB0, SlO.nil _ _ _, h1⟩
  case round =>
    obtain ⟨j, L, outl, bl, bo, rfl, hj, hj60, HI, HL, hol, HB, HO, hr⟩ := hrel
    by_cases hlt : j < len ∧ j < 60
    · obtain ⟨hlt, hl60⟩ := hlt
      obtain ⟨B, o, rfl, hBW, hcs⟩ := HAT.out (by omega)
      obtain ⟨_, d0, x0, rfl, xf0⟩ := hcs j hlt 0 _ rfl
      obtain ⟨_, d1, x1, rfl, xf1⟩ := hcs j hlt 1 _ rfl
      obtain ⟨_, d2, x2, rfl, xf2⟩ := hcs j hlt 2 _ rfl
      simp only [List.length_cons, List.length_nil, Nat.reduceAdd, Nat.add_zero, Nat.zero_add] at d0 d1 d2
      have d0' := (hr.old (a := ⟨B, o + j * 3, none⟩) hBW).trans d0
      have d1' := (hr.old (a := ⟨B, o + j * 3 + 1, none⟩) hBW).trans d1
      have d2' := (hr.old (a := ⟨B, o + j * 3 + 2, none⟩) hBW).trans d2
      obtain ⟨A1, c1, hout, hc1, hc2⟩ := SlO.slice HO.out
      subst hout
      have b0 := emod_bd x0 2 (by omega)
      have b1 := emod_bd x1 6 (by omega)
      have b2 := emod_bd x2 9 (by omega)
      have D1 := Lib.hid d1
      have D2 := Lib.hid d2
      clear hcs d0 d1 d2
      have hji : (j : Int) < len := by omega
      have hji2 : (j : Int) < 60 := by omega
      have hcase : (x0 % 2 = 0) ∨ (x0 % 2 ≠ 0 ∧ outl.length = 0) ∨ (x0 % 2 ≠ 0 ∧ 0 < outl.length) := by omega
      rcases hcase with hz | ⟨hz, hl0⟩ | ⟨hz, hl0⟩
      · have hzb : (x0 % 2 == 0) = true := beq_iff_eq.2 hz
        go_wp2_with fail
        refine (bring_spec x0 2 (by omega) (by omega) xf0 _).mono ?_
        rintro e w' ⟨rfl, rfl⟩
        go_wp2_with fail
        go_region_held3 (fun w' => w'.cell? ⟨B, o + j * 3 + 1, none⟩ = some (.int .i64 x1) ∧ w'.cell? ⟨B, o + j * 3 + 2, none⟩ = some (.int .i64 x2)) (first | (refine ⟨?_, ?_⟩ <;> assumption) | go_keep)
          (first | (go_at_call 23; refine (bring_spec _ _ (by omega) (by omega) ?_ _).mono ?_; (first | exact xf1 | exact xf2); rintro e w' ⟨rfl, rfl⟩) |
            (go_at_call 28; refine (alloc_inv hr.swap.drew HB.out HI.out (by rw [HL.out]; omega) (by rw [HL.out]; omega) (x1 % 6) (x2 % 9) b1.1 (by omega) b2.1 (by omega)).mono ?_; rintro e w2 ⟨a, er, L', bl', rfl, HL', HB', h2, HE⟩; have d1' := (h2.old (a := ⟨B, o + j * 3 + 1, none⟩) hBW).trans D1.out; have d2' := (h2.old (a := ⟨B, o + j * 3 + 2, none⟩) hBW).trans D2.out))
        have HL2 : Hid (L'.length = 1 + N) := HL'.out.trans HL.out
        rcases HE.out with ⟨rfl, hI⟩ | ⟨rfl, hI⟩
        · have HI' := Lib.hid hI
          clear HE hI
          go_wp2_with fail
          exact ⟨⟨j + 1, L', outl, bl', bo, by go_num, by omega, by omega, HI', HL2, by omega, HB', HO, h2.swap⟩, by simp [intOf]; omega⟩
        · have HI' := Lib.hid hI
          have h4 := h2.swap.alloc (.cells #[.int .i64 a] 3)
          have hsrc := src_one w2 a
          clear HE hI
          go_wp2_with (at_builtin; refine wpList_app_ints rfl _ _ rfl rfl rfl HO.out h4 hsrc (by simp; omega) ?_; intro v' w' bs' k1 k2 k3; have K1 := Lib.hid k1; clear k1 k3)
          exact ⟨⟨j + 1, L', outl ++ [a], bl', bs', by go_num, by omega, by omega, HI', HL2, by simp; omega, HB', K1, k2⟩, by simp [intOf]; omega⟩
      · have hzb : (x0 % 2 == 0) = false := beq_eq_false_iff_ne.2 hz
        have hlb : ((outl.length : Int) == 0) = true := by rw [hl0]; rfl
        have HL0 := Lib.hid hl0
        clear hl0
        go_wp2_with fail
        refine (bring_spec x0 2 (by omega) (by omega) xf0 _).mono ?_
        rintro e w' ⟨rfl, rfl⟩
        go_wp2_with fail
        go_region_held3 (fun w' => w'.cell? ⟨B, o + j * 3 + 1, none⟩ = some (.int .i64 x1) ∧ w'.cell? ⟨B, o + j * 3 + 2, none⟩ = some (.int .i64 x2)) (first | (refine ⟨?_, ?_⟩ <;> assumption) | go_keep)
          (first | (go_at_call 23; refine (bring_spec _ _ (by omega) (by omega) ?_ _).mono ?_; (first | exact xf1 | exact xf2); rintro e w' ⟨rfl, rfl⟩) |
            (go_at_call 28; refine (alloc_inv hr.swap.drew HB.out HI.out (by rw [HL.out]; omega) (by rw [HL.out]; omega) (x1 % 6) (x2 % 9) b1.1 (by omega) b2.1 (by omega)).mono ?_; rintro e w2 ⟨a, er, L', bl', rfl, HL', HB', h2, HE⟩; have d1' := (h2.old (a := ⟨B, o + j * 3 + 1, none⟩) hBW).trans D1.out; have d2' := (h2.old (a := ⟨B, o + j * 3 + 2, none⟩) hBW).trans D2.out))
        have HL2 : Hid (L'.length = 1 + N) := HL'.out.trans HL.out
        rcases HE.out with ⟨rfl, hI⟩ | ⟨rfl, hI⟩
        · have HI' := Lib.hid hI
          clear HE hI
          go_wp2_with fail
          exact ⟨⟨j + 1, L', outl, bl', bo, by go_num, by omega, by omega, HI', HL2, by omega, HB', HO, h2.swap⟩, by simp [intOf]; omega⟩
        · have HI' := Lib.hid hI
          have h4 := h2.swap.alloc (.cells #[.int .i64 a] 3)
          have hsrc := src_one w2 a
          clear HE hI
          go_wp2_with (at_builtin; refine wpList_app_ints rfl _ _ rfl rfl rfl HO.out h4 hsrc (by simp; omega) ?_; intro v' w' bs' k1 k2 k3; have K1 := Lib.hid k1; clear k1 k3)
          exact ⟨⟨j + 1, L', outl ++ [a], bl', bs', by go_num, by omega, by omega, HI', HL2, by simp; omega, HB', K1, k2⟩, by simp [intOf]; omega⟩
      · have hzb : (x0 % 2 == 0) = false := beq_eq_false_iff_ne.2 hz
        obtain ⟨q, hn⟩ : ∃ q, outl.length = q + 1 := ⟨outl.length - 1, by omega⟩
        have HNn := Lib.hid hn
        rw [hn] at hl0 hol hc1
        have hn0 : ((q : Int) + 1 == 0) = false := by rw [beq_eq_false_iff_ne]; omega
        have b3 := emod_bd x1 ((q : Int) + 1) (by omega)
        obtain ⟨k, hk⟩ : ∃ k : Nat, x1 % ((q : Int) + 1) = k := ⟨(x1 % ((q : Int) + 1)).toNat, by omega⟩
        rw [hk] at b3
        have HK := Lib.hid hk
        obtain ⟨x, hx⟩ : ∃ x, outl[k]? = some x := ⟨_, List.getElem?_eq_getElem (by omega)⟩
        obtain ⟨y, hy⟩ : ∃ y, outl[q]? = some y := ⟨_, List.getElem?_eq_getElem (by omega)⟩
        obtain ⟨g, cap', cur, hv, -, -⟩ := SlO.form HO.out (by rw [hn]; omega)
        simp only [Value.slice.injEq] at hv
        obtain ⟨rfl, -, rfl⟩ := hv
        have cx := ints_cell HO.out hr rfl hx
        have HX := Lib.hid hx
        have HY := Lib.hid hy
        rw [hn]
        have hperm := perm_out hx (y := y) (by rw [hn]; exact hy)
        rw [hn, Nat.add_sub_cancel] at hperm
        have HPM := Lib.hid hperm
        have hkq : (k : Int) < (q : Int) + 1 := by omega
        clear hx hy hk hn hperm
        go_wp2_with fail
        refine (bring_spec x0 2 (by omega) (by omega) xf0 _).mono ?_
        rintro e w' ⟨rfl, rfl⟩
        go_wp2_with fail
        refine (bring_spec x1 ((q : Int) + 1) (by omega) (by omega) xf1 _).mono ?_
        rintro e w' ⟨rfl, rfl⟩
        rw [HK.out]
        go_wp2_with fail
        refine (free_inv hr.swap HB.out HI.out (by rw [HL.out]; omega) (by rw [HL.out]; omega) HX.out).mono ?_
        rintro e w2 ⟨L', bl', rfl, HL', HB', h2, HI', -⟩
        have cy := ints_cell HO.out h2.swap rfl HY.out
        have cx2 := ints_cell HO.out h2.swap rfl HX.out
        have fx := SlO.free HO.out h2.swap rfl k
        obtain ⟨bs3, o3, h3⟩ := ints_store HO.out h2.swap rfl (j := k) (by rw [HNn.out]; omega) y
        have o4 := SlO.shorter o3 (k := q) (by rw [List.length_set]) (by rw [List.length_set, HNn.out]; omega)
        have O4 := Lib.hid o4
        have HL2 : Hid (L'.length = 1 + N) := HL'.out.trans HL.out
        clear o3 o4
        go_wp2_with fail
        have hlt : ((outl.set k y).take q).length = q := by rw [List.length_take, List.length_set, HNn.out]; omega
        refine ⟨⟨j + 1, L', (outl.set k y).take q, bl', bs3, by go_num, by omega, by omega, HI'.out _ HPM.out, HL2, by omega, HB', ?_, h3⟩, by simp [intOf]; omega⟩
        show IntsOwn true _ _ _
        have := O4.out
        rw [Nat.mul_one, ints_take] at this
        unfold IntsOwn
        rw [hlt]
        exact this
    · have hnl : (len : Int) ≤ j ∨ (60 : Int) ≤ j := by omega
      obtain ⟨A1, c1, hout, hc1, hc2⟩ := SlO.slice HO.out
      subst hout
      by_cases hjl : (j : Int) < len
      · have hj6 : (60 : Int) ≤ j := by omega
        clear hnl hlt
        go_wp2_with fail
        go_ret2
        exact ⟨pb, L, bl, _, outl, bo, rfl, HI.out, HL.out, by omega, HB.out, HO.out, hr⟩
      · clear hnl hlt
        go_wp2_with fail
        go_ret2
        exact ⟨pb, L, bl, _, outl, bo, rfl, HI.out, HL.out, by omega, HB.out, HO.out, hr⟩
end
end Go.Proofs.Ytljcndcmdphmgaa
