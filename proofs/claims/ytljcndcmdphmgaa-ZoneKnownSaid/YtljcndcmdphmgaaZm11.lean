/-
  Texts of this claim, joined. No condition.
-/
import Derived.Test.YtljcndcmdphmgaaZm10
import Derived.Test.YtljcndcmdphmgaaZm5
import Derived.Test.YtljcndcmdphmgaaZm3
import Derived.Test.YtljcndcmdphmgaaZm7
/-
  Contract: wainscotlaw08.played.
-/
namespace Go.Proofs.Ytljcndcmdphmgaa
open Go.RowKit
attribute [local go_sem ↓] Go.wp_at_zero Go.wp_at_succ
section
variable {W w : World} {m : List (Nat × Obj)}
def Played8 (W : World) (m : List (Nat × Obj)) (N : Nat) (e : Ending) (w' : World) : Prop :=
  ∃ zb zs v outl bo, e = .returned (.tuple #[.pointer (some ⟨zb, 0, none⟩), v]) ∧ Hid (ZAt zb outl N 60 zs) ∧ outl.length ≤ 60 ∧ Hid (PrO true v outl bo) ∧ Own W (bo ++ (zs ++ m)) w'
set_option maxRecDepth 100000 in
set_option maxHeartbeats 8000000 in
theorem played8_spec (h : Own W m w) (pages : Int) (hp : (Lit.int .i64 pages).wf = true) (A : Option Addr) (len cap : Nat) (_hlc : len ≤ cap) (_hcap : cap ≤ maxLen) (hat : FlatAt W [some .i64, some .i64, some .i64, some .i64] A len) :
    Calls Try.prog 40 #[.int .i64 pages, .slice A len cap] w (Played8 W m (1 + (pages % 150).toNat)) := by
  have hb := emod_bd pages 150 (by omega)
  obtain ⟨N, hN⟩ : ∃ N : Nat, pages % 150 = N := ⟨(pages % 150).toNat, by omega⟩
  rw [hN, Int.toNat_natCast]
  have hN3 : N < 150 := by omega
  have HN := Lib.hid hN
  have HAT := Lib.hid hat
  clear hat hN hb
  go_enter Try.func40, Try.ntmps40
  go_wp2_with fail
  refine (bring_spec pages 150 (by omega) (by omega) hp _).mono ?_
  rintro e w' ⟨rfl, rfl⟩
  rw [HN.out]
  have hnew := zat_new h (1 + N) (by omega) (by omega)
  rw [show ((1 + N : Nat) : Int) = 1 + (N : Int) from by omega] at hnew
  have HNEW := Lib.hid hnew
  clear hnew
  go_wp2_with fail
  refine HNEW.out.mono ?_
  rintro e w1 ⟨zb, zs0, rfl, HZ0, h1⟩
  go_wp2_with fail
  go_loopw [8, 9] (fun out i wr => ∃ (j : Nat) (outl : List (Int × Int)) (zs bo : List (Nat × Obj)), i = .int .i64 j ∧ j ≤ len ∧ j ≤ 60 ∧ Hid (ZAt zb outl (1 + N) j zs) ∧ outl.length ≤ j ∧ Hid (PrO true out outl bo) ∧ Own W (bo ++ (zs ++ m)) wr) (fun _ i _ => len - (intOf i).toNat)
  case atStart => exact ⟨0, [], zs0, [], rfl, by omega, by omega, HZ0, by simp, SlO.nil _ _ _, h1⟩
  case round =>
    clear HZ0 h1
    obtain ⟨j, outl, zs, bo, rfl, hj, hj60, HZ, hol, HO, hr⟩ := hrel
    by_cases hlt : j < len ∧ j < 60
    · obtain ⟨hlt, hl60⟩ := hlt
      obtain ⟨B, o, rfl, hBW, hcs⟩ := HAT.out (by omega)
      obtain ⟨_, d0, x0, rfl, xf0⟩ := hcs j hlt 0 _ rfl
      obtain ⟨_, d1, x1, rfl, xf1⟩ := hcs j hlt 1 _ rfl
      obtain ⟨_, d2, x2, rfl, xf2⟩ := hcs j hlt 2 _ rfl
      obtain ⟨_, d3, x3, rfl, xf3⟩ := hcs j hlt 3 _ rfl
      simp only [List.length_cons, List.length_nil, Nat.reduceAdd, Nat.add_zero, Nat.zero_add] at d0 d1 d2 d3
      have d0' := (hr.old (a := ⟨B, o + j * 4, none⟩) hBW).trans d0
      have d1' := (hr.old (a := ⟨B, o + j * 4 + 1, none⟩) hBW).trans d1
      have d2' := (hr.old (a := ⟨B, o + j * 4 + 2, none⟩) hBW).trans d2
      have d3' := (hr.old (a := ⟨B, o + j * 4 + 3, none⟩) hBW).trans d3
      obtain ⟨A1, c1, hout, hc1, hc2⟩ := SlO.slice HO.out
      subst hout
      have b0 := emod_bd x0 4 (by omega)
      have b1 := emod_bd x1 3 (by omega)
      have b2 := emod_bd x2 4 (by omega)
      have b3 := emod_bd x3 9 (by omega)
      have hok : AllocOk (x2 % 4) (x3 % 9) := ⟨by omega, by omega, by omega, by omega⟩
      have HOK := Lib.hid hok
      clear hcs d0 d1 d2 d3 hok
      have hji : (j : Int) < len := by omega
      have hji2 : (j : Int) < 60 := by omega
      have hcase : (x0 % 4 = 3) ∨ ((x0 % 4 == 3) = false ∧ x0 % 4 = 0) ∨ ((x0 % 4 == 3) = false ∧ x0 % 4 ≠ 0 ∧ outl.length = 0) ∨ ((x0 % 4 == 3) = false ∧ x0 % 4 ≠ 0 ∧ 0 < outl.length) := by
        rw [beq_eq_false_iff_ne]; omega
      rcases hcase with hz3 | ⟨hz3, hz⟩ | ⟨hz3, hz, hl0⟩ | ⟨hz3, hz, hl0⟩
      · have hz3b : (x0 % 4 == 3) = true := beq_iff_eq.2 hz3
        go_wp2_with fail
        refine (bring_spec x1 3 (by omega) (by omega) xf1 _).mono ?_
        rintro e w' ⟨rfl, rfl⟩
        go_wp2_with fail
        refine (bring_spec x0 4 (by omega) (by omega) xf0 _).mono ?_
        rintro e w' ⟨rfl, rfl⟩
        go_wp2_with fail
        refine (zat_drain hr.swap HZ.out (x1 % 3) b1.1 b1.2).mono ?_
        rintro e w2 ⟨zs2, rfl, HZ2, h2⟩
        go_wp2_with fail
        exact ⟨⟨j + 1, outl, zs2, bo, by go_num, by omega, by omega, HZ2.out.up (by omega), by omega, HO, h2.swap⟩, by simp [intOf]; omega⟩
      · have hzb : (x0 % 4 == 0) = true := beq_iff_eq.2 hz
        go_wp2_with fail
        refine (bring_spec x1 3 (by omega) (by omega) xf1 _).mono ?_
        rintro e w' ⟨rfl, rfl⟩
        go_wp2_with fail
        refine (bring_spec x0 4 (by omega) (by omega) xf0 _).mono ?_
        rintro e w' ⟨rfl, rfl⟩
        go_wp2_with fail
        refine (bring_spec x2 4 (by omega) (by omega) xf2 _).mono ?_
        rintro e w' ⟨rfl, rfl⟩
        go_wp2_with fail
        refine (bring_spec x3 9 (by omega) (by omega) xf3 _).mono ?_
        rintro e w' ⟨rfl, rfl⟩
        go_wp2_with fail
        refine (zat_alloc hr.swap HZ.out (by omega) (x1 % 3) (x2 % 4) (x3 % 9) b1.1 b1.2 HOK.out).mono ?_
        rintro e w2 ⟨p, er, zs2, rfl, (⟨rfl, HZ2⟩ | ⟨rfl, HZ2⟩), h2⟩
        · go_wp2_with fail
          exact ⟨⟨j + 1, outl, zs2, bo, by go_num, by omega, by omega, HZ2, by omega, HO, h2.swap⟩, by simp [intOf]; omega⟩
        · have hsrc := fun w => pr_src w (p, x2 % 4)
          have HS := Lib.hid hsrc
          clear hsrc
          go_wp2_with (at_builtin; refine pr_app rfl _ _ rfl rfl rfl HO.out (h2.swap.alloc _) (p, x2 % 4) (HS.out _) (by omega) ?_; intro v' w' bs' k1 k2; have K1 := Lib.hid k1; clear k1)
          exact ⟨⟨j + 1, outl ++ [(p, x2 % 4)], zs2, bs', by go_num, by omega, by omega, HZ2, by simp; omega, K1, k2⟩, by simp [intOf]; omega⟩
      · have hzb : (x0 % 4 == 0) = false := beq_eq_false_iff_ne.2 hz
        have hlb : ((outl.length : Int) == 0) = true := by rw [hl0]; rfl
        have HL0 := Lib.hid hl0
        clear hl0
        go_wp2_with fail
        refine (bring_spec x1 3 (by omega) (by omega) xf1 _).mono ?_
        rintro e w' ⟨rfl, rfl⟩
        go_wp2_with fail
        refine (bring_spec x0 4 (by omega) (by omega) xf0 _).mono ?_
        rintro e w' ⟨rfl, rfl⟩
        go_wp2_with fail
        refine (bring_spec x2 4 (by omega) (by omega) xf2 _).mono ?_
        rintro e w' ⟨rfl, rfl⟩
        go_wp2_with fail
        refine (bring_spec x3 9 (by omega) (by omega) xf3 _).mono ?_
        rintro e w' ⟨rfl, rfl⟩
        go_wp2_with fail
        refine (zat_alloc hr.swap HZ.out (by omega) (x1 % 3) (x2 % 4) (x3 % 9) b1.1 b1.2 HOK.out).mono ?_
        rintro e w2 ⟨p, er, zs2, rfl, (⟨rfl, HZ2⟩ | ⟨rfl, HZ2⟩), h2⟩
        · go_wp2_with fail
          exact ⟨⟨j + 1, outl, zs2, bo, by go_num, by omega, by omega, HZ2, by omega, HO, h2.swap⟩, by simp [intOf]; omega⟩
        · have hsrc := fun w => pr_src w (p, x2 % 4)
          have HS := Lib.hid hsrc
          clear hsrc
          go_wp2_with (at_builtin; refine pr_app rfl _ _ rfl rfl rfl HO.out (h2.swap.alloc _) (p, x2 % 4) (HS.out _) (by omega) ?_; intro v' w' bs' k1 k2; have K1 := Lib.hid k1; clear k1)
          exact ⟨⟨j + 1, outl ++ [(p, x2 % 4)], zs2, bs', by go_num, by omega, by omega, HZ2, by simp; omega, K1, k2⟩, by simp [intOf]; omega⟩
      · have hzb : (x0 % 4 == 0) = false := beq_eq_false_iff_ne.2 hz
        obtain ⟨q, hn⟩ : ∃ q, outl.length = q + 1 := ⟨outl.length - 1, by omega⟩
        have HNn := Lib.hid hn
        rw [hn] at hl0 hol hc1
        have hn0 : ((q : Int) + 1 == 0) = false := by rw [beq_eq_false_iff_ne]; omega
        have b4 := emod_bd x2 ((q : Int) + 1) (by omega)
        obtain ⟨k, hk⟩ : ∃ k : Nat, x2 % ((q : Int) + 1) = k := ⟨(x2 % ((q : Int) + 1)).toNat, by omega⟩
        rw [hk] at b4
        have HK := Lib.hid hk
        obtain ⟨x, hx⟩ : ∃ x, outl[k]? = some x := ⟨_, List.getElem?_eq_getElem (by omega)⟩
        obtain ⟨y, hy⟩ : ∃ y, outl[q]? = some y := ⟨_, List.getElem?_eq_getElem (by omega)⟩
        obtain ⟨g, cap', cur, hv, -, -⟩ := SlO.form HO.out (by rw [hn]; omega)
        simp only [Value.slice.injEq] at hv
        obtain ⟨rfl, -, rfl⟩ := hv
        obtain ⟨cx, -, -, -⟩ := pr_cells HO.out hr rfl rfl hx
        have HX := Lib.hid hx
        have HY := Lib.hid hy
        rw [hn]
        have hperm := perm_out2 hx (y := y) (by rw [hn]; exact hy)
        rw [hn, Nat.add_sub_cancel] at hperm
        have HPM := Lib.hid hperm
        have hkq : (k : Int) < (q : Int) + 1 := by omega
        clear hx hy hk hn hperm
        go_wp2_with fail
        refine (bring_spec x1 3 (by omega) (by omega) xf1 _).mono ?_
        rintro e w' ⟨rfl, rfl⟩
        go_wp2_with fail
        refine (bring_spec x0 4 (by omega) (by omega) xf0 _).mono ?_
        rintro e w' ⟨rfl, rfl⟩
        go_wp2_with fail
        refine (bring_spec x2 ((q : Int) + 1) (by omega) (by omega) xf2 _).mono ?_
        rintro e w' ⟨rfl, rfl⟩
        rw [HK.out]
        go_wp2_with fail
        refine (zat_free hr.swap HZ.out (x1 % 3) b1.1 b1.2 HX.out).mono ?_
        rintro e w2 ⟨zs2, rfl, HZ2, h2⟩
        obtain ⟨cy0, cy1, -, -⟩ := pr_cells HO.out h2.swap rfl rfl HY.out
        obtain ⟨cx0, cx1, fx0, fx1⟩ := pr_cells HO.out h2.swap rfl rfl HX.out
        obtain ⟨bs3, o3, h3⟩ := pr_store HO.out h2.swap rfl rfl (j := k) (by rw [HNn.out]; omega) y
        have o4 := SlO.shorter o3 (k := q) (by rw [List.length_set]) (by rw [List.length_set, HNn.out]; omega)
        have O4 := Lib.hid o4
        clear o3 o4
        go_wp2_with fail
        have hlt : ((outl.set k y).take q).length = q := by rw [List.length_take, List.length_set, HNn.out]; omega
        refine ⟨⟨j + 1, (outl.set k y).take q, zs2, bs3, by go_num, by omega, by omega, (HZ2.out _ HPM.out).up (by omega), by omega, ?_, h3⟩, by simp [intOf]; omega⟩
        show PrO true _ _ _
        have := O4.out
        rw [ints_take, ← flat2_take] at this
        unfold PrO
        rw [hlt]
        exact this
    · have hnl : (len : Int) ≤ j ∨ (60 : Int) ≤ j := by omega
      obtain ⟨A1, c1, hout, hc1, hc2⟩ := SlO.slice HO.out
      subst hout
      by_cases hjl : (j : Int) < len
      · have hj6 : (60 : Int) ≤ j := by omega
        clear hnl hlt
        go_wp2_with fail
        go_ret2
        exact ⟨zb, zs, _, outl, bo, rfl, HZ.out.up (by omega), by omega, HO, hr⟩
      · clear hnl hlt
        go_wp2_with fail
        go_ret2
        exact ⟨zb, zs, _, outl, bo, rfl, HZ.out.up (by omega), by omega, HO, hr⟩
end
end Go.Proofs.Ytljcndcmdphmgaa

/-
  Contract: wainscotlaw06.played.
-/
namespace Go.Proofs.Ytljcndcmdphmgaa
open Go.RowKit
attribute [local go_sem ↓] Go.wp_at_zero Go.wp_at_succ
theorem perm_out {l : List Int} {k : Nat} {x y : Int} (hk : l[k]? = some x) (hy : l[l.length - 1]? = some y) : l.Perm (x :: (l.set k y).take (l.length - 1)) := by
  have hlt := (List.getElem?_eq_some_iff.1 hk).1
  have hne : l ≠ [] := by intro h; rw [h] at hlt; simp at hlt
  obtain ⟨i, z, rfl⟩ : ∃ i z, l = i ++ [z] := ⟨l.dropLast, l.getLast hne, (List.dropLast_concat_getLast hne).symm⟩
  have hz : y = z := by simp at hy; exact hy.symm
  subst hz
  rw [List.length_append, List.length_singleton, Nat.add_sub_cancel]
  by_cases h : k = i.length
  · subst h
    simp at hk
    subst hk
    rw [List.set_append_right _ _ (by omega)]
    simp
  · have hki : k < i.length := by rw [List.length_append, List.length_singleton] at hlt; omega
    rw [List.getElem?_append_left hki] at hk
    rw [List.set_append_left _ _ hki, List.take_left' (by simp)]
    obtain ⟨h1, rfl⟩ := List.getElem?_eq_some_iff.1 hk
    refine (List.perm_append_singleton _ _).trans ?_
    have h2 : i = i.take k ++ i[k] :: i.drop (k + 1) := by rw [List.getElem_cons_drop, List.take_append_drop]
    have h3 : i.set k y = i.take k ++ y :: i.drop (k + 1) := by rw [List.set_eq_take_append_cons_drop, if_pos hki]
    rw [h3]
    conv => lhs; rw [h2]
    refine (List.Perm.cons y (List.perm_middle)).trans ?_
    refine (List.Perm.swap _ _ _).trans ?_
    exact List.Perm.cons _ List.perm_middle.symm
section
variable {W w : World} {m bl : List (Nat × Obj)} {pb : Nat} {L : List Pg} {outl : List Int}
/-- Alloc, in the invariant's words -/
def AllocInv (W : World) (m : List (Nat × Obj)) (pb : Nat) (L : List Pg) (outl : List Int) (e : Ending) (w' : World) : Prop :=
  ∃ (a er : Int) (L' : List Pg) (bl' : List (Nat × Obj)), e = .returned (.tuple #[.int .i64 a, .int .i64 er]) ∧ Hid (L'.length = L.length) ∧ Hid (BdO pb L' bl') ∧ Own W (bl' ++ m) w' ∧ Hid ((er = 7 ∧ BInv L' outl) ∨ (er = 0 ∧ BInv L' (outl ++ [a])))
theorem alloc_inv (h : Own W (bl ++ m) w) (hb : BdO pb L bl) (hI : BInv L outl) (hL1 : 1 ≤ L.length) (hL : L.length ≤ 1024) (order c : Int) (ho0 : 0 ≤ order) (ho : order ≤ 10) (hc0 : 0 ≤ c) (hc8 : c ≤ 8) :
    Calls Try.prog 28 #[.pointer (some ⟨pb, 0, none⟩), .int .i64 order, .int .i64 c] w (AllocInv W m pb L outl) := by
  obtain ⟨bs, hT⟩ := bInv_tab hI
  obtain ⟨o, rfl⟩ : ∃ o : Nat, order = o := ⟨order.toNat, by omega⟩
  refine (alloc_ok h hb hT hL1 hL o c (by omega) hc0 hc8).mono ?_
  rintro x w' (⟨hbad, -⟩ | ⟨-, hno, hx, hO⟩ | ⟨-, a, k, bl', hl, hx, hb', hO⟩)
  · omega
  · exact ⟨0, 7, L, bl, hx, rfl, hb, hO, .inl ⟨rfl, hI⟩⟩
  · rw [Int.toNat_natCast] at hl hb'
    obtain ⟨h1, h2, -⟩ := binv_alloc hI hl ⟨hc0, hc8⟩
    exact ⟨a, 0, _, bl', hx, h2, hb', hO, .inr ⟨rfl, h1⟩⟩
/-- Free of what is out, in the invariant's words -/
theorem free_inv (h : Own W (bl ++ m) w) (hb : BdO pb L bl) (hI : BInv L outl) (hL1 : 1 ≤ L.length) (hL : L.length ≤ 1024) {k : Nat} {x : Int} (hk : outl[k]? = some x) :
    Calls Try.prog 25 #[.pointer (some ⟨pb, 0, none⟩), .int .i64 x] w fun e w' => ∃ L' bl', e = .returned (.int .i64 0) ∧ Hid (L'.length = L.length) ∧ Hid (BdO pb L' bl') ∧ Own W (bl' ++ m) w' ∧
      Hid (∀ out', outl.Perm (x :: out') → BInv L' out') ∧ Hid (pgFree L < pgFree L') := by
  obtain ⟨bs, hT⟩ := bInv_tab hI
  obtain ⟨p, o, c, rfl, hp⟩ := binv_out hI (List.mem_of_getElem? hk)
  refine (Free_ok h hb hT hL1 hL p o c hp).mono ?_
  rintro e w' ⟨bl', he, hb', hO⟩
  have hlen : (freeL L p o).length = L.length ∧ pgFree L < pgFree (freeL L p o) := by
    obtain ⟨y, hy⟩ : ∃ y, outl.Perm ((p : Int) :: y) := ⟨_, (List.perm_cons_erase (List.mem_of_getElem? hk))⟩
    obtain ⟨-, h2, h3⟩ := binv_free hI hp hy
    refine ⟨h2, ?_⟩
    obtain ⟨bs', hT', hs⟩ := h3 _ hT
    rw [pgFree_tab hT hL1 hL, pgFree_tab hT' (by rw [h2]; exact hL1) (by rw [h2]; exact hL), hs]
    have := Nat.two_pow_pos o
    have : (0 : Int) < 2 ^ o := by exact_mod_cast this
    omega
  exact ⟨_, bl', he, hlen.1, hb', hO, fun out' hperm => (binv_free hI hp hperm).1, hlen.2⟩
end
section
variable {W w : World} {m : List (Nat × Obj)}
def Played (W : World) (m : List (Nat × Obj)) (N : Nat) (e : Ending) (w' : World) : Prop :=
  ∃ pb L bl v outl bo, e = .returned (.tuple #[.pointer (some ⟨pb, 0, none⟩), v]) ∧ BInv L outl ∧ L.length = N ∧ outl.length ≤ 60 ∧ BdO pb L bl ∧ IntsOwn true v outl bo ∧ Own W (bo ++ (bl ++ m)) w'
set_option maxRecDepth 100000 in
set_option maxHeartbeats 4000000 in
theorem played_spec (h : Own W m w) (pages : Int) (hp : (Lit.int .i64 pages).wf = true) (A : Option Addr) (len cap : Nat) (_hlc : len ≤ cap) (_hcap : cap ≤ maxLen) (hat : FlatAt W [some .i64, some .i64, some .i64] A len) :
    Calls Try.prog 21 #[.int .i64 pages, .slice A len cap] w (Played W m (1 + (pages % 300).toNat)) := by
  have hb := emod_bd pages 300 (by omega)
  obtain ⟨N, hN⟩ : ∃ N : Nat, pages % 300 = N := ⟨(pages % 300).toNat, by omega⟩
  rw [hN]
  have hN3 : N < 300 := by omega
  have HN := Lib.hid hN
  have HAT := Lib.hid hat
  clear hat hN hb
  go_enter Try.func21, Try.ntmps21
  go_wp2_with fail
  refine (bring_spec pages 300 (by omega) (by omega) hp _).mono ?_
  rintro e w' ⟨rfl, rfl⟩
  rw [HN.out]
  have hnew := bnew_ok h (1 + N) (by omega) (by omega)
  rw [show ((1 + N : Nat) : Int) = 1 + (N : Int) from by omega] at hnew
  have HNEW := Lib.hid hnew
  clear hnew
  go_wp2_with fail
  refine HNEW.out.mono ?_
  rintro e w1 ⟨pb, bl0, rfl, hb0, h1⟩
  have HB0 := Lib.hid hb0
  go_wp2_with fail
  go_loopw [8, 9] (fun out i wr => ∃ (j : Nat) (L : List Pg) (outl : List Int) (bl bo : List (Nat × Obj)), i = .int .i64 j ∧ j ≤ len ∧ j ≤ 60 ∧ Hid (BInv L outl) ∧ Hid (L.length = 1 + N) ∧ outl.length ≤ j ∧ Hid (BdO pb L bl) ∧ Hid (IntsOwn true out outl bo) ∧ Own W (bo ++ (bl ++ m)) wr) (fun _ i _ => len - (intOf i).toNat)
  case atStart => exact ⟨0, freshL (1 + N), [], bl0, [], rfl, by omega, by omega, binv_fresh _, fresh_len _, by simp, HB0, SlO.nil _ _ _, h1⟩
  case round =>
    obtain ⟨j, L, outl, bl, bo, rfl, hj, hj60, HI, HL, hol, HB, HO, hr⟩ := hrel
    by_cases hlt : j < len ∧ j < 60
    · obtain ⟨hlt, hl60⟩ := hlt
      obtain ⟨B, o, rfl, hBW, hcs⟩ := HAT.out (by omega)
      obtain ⟨_, d0, x0, rfl, xf0⟩ := hcs j hlt 0 _ rfl
      obtain ⟨_, d1, x1, rfl, xf1⟩ := hcs j hlt 1 _ rfl
      obtain ⟨_, d2, x2, rfl, xf2⟩ := hcs j hlt 2 _ rfl
      simp only [List.length_cons, List.length_nil, Nat.reduceAdd, Nat.add_zero, Nat.zero_add] at d0 d1 d2
      have d0' := (hr.old (a := ⟨B, o + j * 3, none⟩) hBW).trans d0
      have d1' := (hr.old (a := ⟨B, o + j * 3 + 1, none⟩) hBW).trans d1
      have d2' := (hr.old (a := ⟨B, o + j * 3 + 2, none⟩) hBW).trans d2
      obtain ⟨A1, c1, hout, hc1, hc2⟩ := SlO.slice HO.out
      subst hout
      have b0 := emod_bd x0 2 (by omega)
      have b1 := emod_bd x1 6 (by omega)
      have b2 := emod_bd x2 9 (by omega)
      have D1 := Lib.hid d1
      have D2 := Lib.hid d2
      clear hcs d0 d1 d2
      have hji : (j : Int) < len := by omega
      have hji2 : (j : Int) < 60 := by omega
      have hcase : (x0 % 2 = 0) ∨ (x0 % 2 ≠ 0 ∧ outl.length = 0) ∨ (x0 % 2 ≠ 0 ∧ 0 < outl.length) := by omega
      rcases hcase with hz | ⟨hz, hl0⟩ | ⟨hz, hl0⟩
      · have hzb : (x0 % 2 == 0) = true := beq_iff_eq.2 hz
        go_wp2_with fail
        refine (bring_spec x0 2 (by omega) (by omega) xf0 _).mono ?_
        rintro e w' ⟨rfl, rfl⟩
        go_wp2_with fail
        go_region_held3 (fun w' => w'.cell? ⟨B, o + j * 3 + 1, none⟩ = some (.int .i64 x1) ∧ w'.cell? ⟨B, o + j * 3 + 2, none⟩ = some (.int .i64 x2)) (first | (refine ⟨?_, ?_⟩ <;> assumption) | go_keep)
          (first | (go_at_call 23; refine (bring_spec _ _ (by omega) (by omega) ?_ _).mono ?_; (first | exact xf1 | exact xf2); rintro e w' ⟨rfl, rfl⟩) |
            (go_at_call 28; refine (alloc_inv hr.swap.drew HB.out HI.out (by rw [HL.out]; omega) (by rw [HL.out]; omega) (x1 % 6) (x2 % 9) b1.1 (by omega) b2.1 (by omega)).mono ?_; rintro e w2 ⟨a, er, L', bl', rfl, HL', HB', h2, HE⟩; have d1' := (h2.old (a := ⟨B, o + j * 3 + 1, none⟩) hBW).trans D1.out; have d2' := (h2.old (a := ⟨B, o + j * 3 + 2, none⟩) hBW).trans D2.out))
        have HL2 : Hid (L'.length = 1 + N) := HL'.out.trans HL.out
        rcases HE.out with ⟨rfl, hI⟩ | ⟨rfl, hI⟩
        · have HI' := Lib.hid hI
          clear HE hI
          go_wp2_with fail
          exact ⟨⟨j + 1, L', outl, bl', bo, by go_num, by omega, by omega, HI', HL2, by omega, HB', HO, h2.swap⟩, by simp [intOf]; omega⟩
        · have HI' := Lib.hid hI
          have h4 := h2.swap.alloc (.cells #[.int .i64 a] 3)
          have hsrc := src_one w2 a
          clear HE hI
          go_wp2_with (at_builtin; refine wpList_app_ints rfl _ _ rfl rfl rfl HO.out h4 hsrc (by simp; omega) ?_; intro v' w' bs' k1 k2 k3; have K1 := Lib.hid k1; clear k1 k3)
          exact ⟨⟨j + 1, L', outl ++ [a], bl', bs', by go_num, by omega, by omega, HI', HL2, by simp; omega, HB', K1, k2⟩, by simp [intOf]; omega⟩
      · have hzb : (x0 % 2 == 0) = false := beq_eq_false_iff_ne.2 hz
        have hlb : ((outl.length : Int) == 0) = true := by rw [hl0]; rfl
        have HL0 := Lib.hid hl0
        clear hl0
        go_wp2_with fail
        refine (bring_spec x0 2 (by omega) (by omega) xf0 _).mono ?_
        rintro e w' ⟨rfl, rfl⟩
        go_wp2_with fail
        go_region_held3 (fun w' => w'.cell? ⟨B, o + j * 3 + 1, none⟩ = some (.int .i64 x1) ∧ w'.cell? ⟨B, o + j * 3 + 2, none⟩ = some (.int .i64 x2)) (first | (refine ⟨?_, ?_⟩ <;> assumption) | go_keep)
          (first | (go_at_call 23; refine (bring_spec _ _ (by omega) (by omega) ?_ _).mono ?_; (first | exact xf1 | exact xf2); rintro e w' ⟨rfl, rfl⟩) |
            (go_at_call 28; refine (alloc_inv hr.swap.drew HB.out HI.out (by rw [HL.out]; omega) (by rw [HL.out]; omega) (x1 % 6) (x2 % 9) b1.1 (by omega) b2.1 (by omega)).mono ?_; rintro e w2 ⟨a, er, L', bl', rfl, HL', HB', h2, HE⟩; have d1' := (h2.old (a := ⟨B, o + j * 3 + 1, none⟩) hBW).trans D1.out; have d2' := (h2.old (a := ⟨B, o + j * 3 + 2, none⟩) hBW).trans D2.out))
        have HL2 : Hid (L'.length = 1 + N) := HL'.out.trans HL.out
        rcases HE.out with ⟨rfl, hI⟩ | ⟨rfl, hI⟩
        · have HI' := Lib.hid hI
          clear HE hI
          go_wp2_with fail
          exact ⟨⟨j + 1, L', outl, bl', bo, by go_num, by omega, by omega, HI', HL2, by omega, HB', HO, h2.swap⟩, by simp [intOf]; omega⟩
        · have HI' := Lib.hid hI
          have h4 := h2.swap.alloc (.cells #[.int .i64 a] 3)
          have hsrc := src_one w2 a
          clear HE hI
          go_wp2_with (at_builtin; refine wpList_app_ints rfl _ _ rfl rfl rfl HO.out h4 hsrc (by simp; omega) ?_; intro v' w' bs' k1 k2 k3; have K1 := Lib.hid k1; clear k1 k3)
          exact ⟨⟨j + 1, L', outl ++ [a], bl', bs', by go_num, by omega, by omega, HI', HL2, by simp; omega, HB', K1, k2⟩, by simp [intOf]; omega⟩
      · have hzb : (x0 % 2 == 0) = false := beq_eq_false_iff_ne.2 hz
        obtain ⟨q, hn⟩ : ∃ q, outl.length = q + 1 := ⟨outl.length - 1, by omega⟩
        have HNn := Lib.hid hn
        rw [hn] at hl0 hol hc1
        have hn0 : ((q : Int) + 1 == 0) = false := by rw [beq_eq_false_iff_ne]; omega
        have b3 := emod_bd x1 ((q : Int) + 1) (by omega)
        obtain ⟨k, hk⟩ : ∃ k : Nat, x1 % ((q : Int) + 1) = k := ⟨(x1 % ((q : Int) + 1)).toNat, by omega⟩
        rw [hk] at b3
        have HK := Lib.hid hk
        obtain ⟨x, hx⟩ : ∃ x, outl[k]? = some x := ⟨_, List.getElem?_eq_getElem (by omega)⟩
        obtain ⟨y, hy⟩ : ∃ y, outl[q]? = some y := ⟨_, List.getElem?_eq_getElem (by omega)⟩
        obtain ⟨g, cap', cur, hv, -, -⟩ := SlO.form HO.out (by rw [hn]; omega)
        simp only [Value.slice.injEq] at hv
        obtain ⟨rfl, -, rfl⟩ := hv
        have cx := ints_cell HO.out hr rfl hx
        have HX := Lib.hid hx
        have HY := Lib.hid hy
        rw [hn]
        have hperm := perm_out hx (y := y) (by rw [hn]; exact hy)
        rw [hn, Nat.add_sub_cancel] at hperm
        have HPM := Lib.hid hperm
        have hkq : (k : Int) < (q : Int) + 1 := by omega
        clear hx hy hk hn hperm
        go_wp2_with fail
        refine (bring_spec x0 2 (by omega) (by omega) xf0 _).mono ?_
        rintro e w' ⟨rfl, rfl⟩
        go_wp2_with fail
        refine (bring_spec x1 ((q : Int) + 1) (by omega) (by omega) xf1 _).mono ?_
        rintro e w' ⟨rfl, rfl⟩
        rw [HK.out]
        go_wp2_with fail
        refine (free_inv hr.swap HB.out HI.out (by rw [HL.out]; omega) (by rw [HL.out]; omega) HX.out).mono ?_
        rintro e w2 ⟨L', bl', rfl, HL', HB', h2, HI', -⟩
        have cy := ints_cell HO.out h2.swap rfl HY.out
        have cx2 := ints_cell HO.out h2.swap rfl HX.out
        have fx := SlO.free HO.out h2.swap rfl k
        obtain ⟨bs3, o3, h3⟩ := ints_store HO.out h2.swap rfl (j := k) (by rw [HNn.out]; omega) y
        have o4 := SlO.shorter o3 (k := q) (by rw [List.length_set]) (by rw [List.length_set, HNn.out]; omega)
        have O4 := Lib.hid o4
        have HL2 : Hid (L'.length = 1 + N) := HL'.out.trans HL.out
        clear o3 o4
        go_wp2_with fail
        have hlt : ((outl.set k y).take q).length = q := by rw [List.length_take, List.length_set, HNn.out]; omega
        refine ⟨⟨j + 1, L', (outl.set k y).take q, bl', bs3, by go_num, by omega, by omega, HI'.out _ HPM.out, HL2, by omega, HB', ?_, h3⟩, by simp [intOf]; omega⟩
        show IntsOwn true _ _ _
        have := O4.out
        rw [Nat.mul_one, ints_take] at this
        unfold IntsOwn
        rw [hlt]
        exact this
    · have hnl : (len : Int) ≤ j ∨ (60 : Int) ≤ j := by omega
      obtain ⟨A1, c1, hout, hc1, hc2⟩ := SlO.slice HO.out
      subst hout
      by_cases hjl : (j : Int) < len
      · have hj6 : (60 : Int) ≤ j := by omega
        clear hnl hlt
        go_wp2_with fail
        go_ret2
        exact ⟨pb, L, bl, _, outl, bo, rfl, HI.out, HL.out, by omega, HB.out, HO.out, hr⟩
      · clear hnl hlt
        go_wp2_with fail
        go_ret2
        exact ⟨pb, L, bl, _, outl, bo, rfl, HI.out, HL.out, by omega, HB.out, HO.out, hr⟩
end
end Go.Proofs.Ytljcndcmdphmgaa

/-
  BuddyFull, in plain Lean: what Alloc gives. No condition.
-/
namespace Go.Proofs.Ytljcndcmdphmgaa
open Go.RowKit
theorem freeSum_nn : ∀ (bs : List Pg), 0 ≤ freeSum bs ∧ freeSum bs ≤ (lay bs).length
  | [] => by simp [freeSum]
  | p :: bs => by
    have h1 := freeSum_nn bs
    have h2 := lay_cons_len p bs
    unfold freeSum
    split <;> omega
theorem pgFree_bd {L bs : List Pg} (h : Tab L bs) (h1 : 1 ≤ L.length) (h2 : L.length ≤ 1024) : 0 ≤ pgFree L ∧ pgFree L ≤ L.length := by
  rw [pgFree_tab h h1 h2]
  have := freeSum_nn bs
  have h3 := tab_len h
  omega
theorem freesTo_some {L : List Pg} {q : Nat} : 0 < (freesTo L q L.length).length ↔ ¬ NoOrd L q := by
  unfold freesTo NoOrd
  rw [List.length_map, List.length_pos_iff_exists_mem]
  constructor
  · rintro ⟨a, ha⟩ h
    rw [List.mem_filter] at ha
    exact h a (by simpa using ha.2)
  · intro h
    have : ∃ a : Nat, L[a]? = some (fb q) := by
      apply Classical.byContradiction
      intro hn
      exact h fun a ha => hn ⟨a, ha⟩
    obtain ⟨a, ha⟩ := this
    have hlt := (List.getElem?_eq_some_iff.1 ha).1
    exact ⟨a, List.mem_filter.2 ⟨by simpa using hlt, by simpa using ha⟩⟩
/-- was there a free block of an order from O on, below k? -/
def someTo (L : List Pg) (O k : Nat) (b : Bool) : Prop := b = true ↔ ∃ q, O ≤ q ∧ q < k ∧ ¬ NoOrd L q
theorem someTo_start (L : List Pg) (O : Nat) : someTo L O O false := ⟨fun h => (by cases h), fun ⟨q, h1, h2, _⟩ => by omega⟩
theorem someTo_yes {L : List Pg} {O k : Nat} (h : someTo L O k true) : someTo L O (k + 1) true := ⟨fun _ => by
  obtain ⟨q, h1, h2, h3⟩ := h.1 rfl
  exact ⟨q, h1, by omega, h3⟩, fun _ => rfl⟩
theorem someTo_no {L : List Pg} {O k : Nat} (hk : O ≤ k) (h : someTo L O k false) : someTo L O (k + 1) (decide (0 < (freesTo L k L.length).length)) := by
  constructor
  · intro hd
    exact ⟨k, hk, by omega, freesTo_some.1 (of_decide_eq_true hd)⟩
  · rintro ⟨q, h1, h2, h3⟩
    by_cases hq : q = k
    · subst hq
      exact decide_eq_true (freesTo_some.2 h3)
    · have := h.2 ⟨q, h1, by omega, h3⟩
      cases this
theorem someTo_none {L : List Pg} {O k : Nat} (hk : 11 ≤ k) (h : someTo L O k false) : NoneIs L O := by
  intro q h1 h2
  apply Classical.byContradiction
  intro hn
  have := h.2 ⟨q, h1, by omega, hn⟩
  cases this
theorem someTo_least {L : List Pg} {O k a o : Nat} (h : LeastIs L O a o) (hk : 11 ≤ k) : ¬ someTo L O k false := by
  intro hs
  exact someTo_none hk hs o h.1 h.2.1 a h.2.2.1
theorem someTo_not {L : List Pg} {O k : Nat} (h : NoneIs L O) (hk : k ≤ 11) : ¬ someTo L O k true := by
  intro hs
  obtain ⟨q, h1, h2, h3⟩ := hs.1 rfl
  exact h3 (h q h1 (by omega))
/-- what Alloc gives, in BuddyFull's words -/
theorem full_plain {L : List Pg} {outl : List Int} (hI : BInv L outl) (h1 : 1 ≤ L.length) (h2 : L.length ≤ 1024) {O a k : Nat} (hl : LeastIs L O a (O + k)) :
    (allocL L a O k 2).length = L.length ∧ (allocL L a O k 2)[a]? = some (2, (O : Int), 2) ∧ a + 2 ^ O ≤ L.length ∧ pgFree (allocL L a O k 2) = pgFree L - 2 ^ O ∧ (2 : Int) ^ O ≤ pgFree L ∧
      L[a]? = some (fb (O + k)) ∧ ∀ i : Nat, a ≤ i → i < a + 2 ^ O → pgHeadE L i = ((a : Int), 0) := by
  obtain ⟨hI', hlen, hsum⟩ := binv_alloc hI hl (c := 2) ⟨by omega, by omega⟩
  obtain ⟨bs, hT⟩ := bInv_tab hI
  obtain ⟨bs', hT', hs⟩ := hsum _ hT
  have hnn := (freeSum_nn bs').1
  have f1 := pgFree_tab hT h1 h2
  have f2 := pgFree_tab hT' (by omega) (by omega)
  obtain ⟨b1, b2, rfl, hb⟩ := tab_block hT hl.2.2.1 (fb_kind _)
  obtain ⟨-, hfit, -⟩ := tab_align hT hl.2.2.1 (fb_kind _)
  rw [fb_size] at hfit
  have hpw : 2 ^ O ≤ 2 ^ (O + k) := Nat.pow_le_pow_right (by omega) (by omega)
  obtain ⟨hA, hal, hle⟩ := alloc_tab hT hl.2.1 (c := 2) ⟨by omega, by omega⟩
  have hat := tab_at hA
  rw [hb] at hat
  refine ⟨hlen, hat, by omega, by rw [f1, f2]; omega, by rw [f1]; omega, hl.2.2.1, fun i hi1 hi2 => ?_⟩
  have hhd := (pgHd_at hT (page := (i : Int)) (by omega) (by rw [fb_size]; omega)).1
  unfold pgHeadE
  rw [pgCheck_of_tab hT h1 h2, if_neg (by simp), if_neg (by omega), hhd, hb]
section
variable {W w : World} {m bl : List (Nat × Obj)} {pb : Nat} {L : List Pg} {outl : List Int}
def FullPost (W : World) (m : List (Nat × Obj)) (pb : Nat) (L : List Pg) (O : Nat) (e : Ending) (w' : World) : Prop :=
  ∃ (L' : List Pg) (bl' : List (Nat × Obj)), Hid (BdO pb L' bl') ∧ Own W (bl' ++ m) w' ∧
    ((Hid (NoneIs L O) ∧ e = .returned (.tuple #[.int .i64 0, .int .i64 7]) ∧ Hid (L' = L)) ∨
     (∃ a k : Nat, Hid (LeastIs L O a (O + k)) ∧ e = .returned (.tuple #[.int .i64 a, .int .i64 0]) ∧ Hid (L' = allocL L a O k 2)))
theorem full_alloc (h : Own W (bl ++ m) w) (hb : BdO pb L bl) (hI : BInv L outl) (hL1 : 1 ≤ L.length) (hL : L.length ≤ 1024) (O : Nat) (ho : O ≤ 10) :
    Calls Try.prog 28 #[.pointer (some ⟨pb, 0, none⟩), .int .i64 O, .int .i64 2] w (FullPost W m pb L O) := by
  obtain ⟨bs, hT⟩ := bInv_tab hI
  refine (alloc_ok h hb hT hL1 hL O 2 ho (by omega) (by omega)).mono ?_
  rintro x w' (⟨hbad, -⟩ | ⟨-, hno, hx, hO⟩ | ⟨-, a, k, bl', hl, hx, hb', hO⟩)
  · omega
  · rw [Int.toNat_natCast] at hno
    exact ⟨L, bl, hb, hO, .inl ⟨hno, hx, rfl⟩⟩
  · rw [Int.toNat_natCast] at hl hb'
    exact ⟨_, bl', hb', hO, .inr ⟨a, k, hl, hx, rfl⟩⟩
end
end Go.Proofs.Ytljcndcmdphmgaa

/-
  Zones, in plain Lean: what is left, and near. No condition.
-/
namespace Go.Proofs.Ytljcndcmdphmgaa
open Go.RowKit
theorem none_free {L bs : List Pg} (hT : Tab L bs) (h1 : 1 ≤ L.length) (h2 : L.length ≤ 1024) (hn : NoneIs L 0) : pgFree L = 0 := by
  rw [pgFree_tab hT h1 h2]
  have key : ∀ (b2 b1 : List Pg), bs = b1 ++ b2 → freeSum b2 = 0 := by
    intro b2
    induction b2 with
    | nil => intro b1 _; rfl
    | cons p b2 ih =>
      intro b1 hb
      have h3 := ih (b1 ++ [p]) (by simp [hb])
      unfold freeSum
      rw [h3]
      have hr := hT
      rw [hb] at hr
      have hh := ((row_append b1 _ 0).1 hr.2).2.1
      by_cases hp : p.1 = 0
      · exfalso
        obtain ⟨q0, q1, q2⟩ := p
        simp only at hp
        subst hp
        have ho := pgHead_order hh
        simp only at ho
        have hat := tab_at hr
        have hq2 : q2 = 0 := by
          unfold pgHead at hh
          have := of_decide_eq_true hh
          simp only at this
          omega
        subst hq2
        refine hn q1.toNat (by omega) (by omega) (lay b1).length ?_
        rw [hat]
        unfold fb
        rw [Int.toNat_of_nonneg ho.1]
      · rw [if_neg hp]
        rfl
  exact key bs [] rfl
section
variable {L : List Pg} {X : List (List Int)} {f : Int → Option Int} {out : List (Int × Int)} {N : Nat}
theorem near_sum (l : List Int) : ((l.map fun p => (p, (0 : Int))).map fun x => (2 : Int) ^ x.2.toNat).sum = l.length := by
  induction l with
  | nil => rfl
  | cons a l ih =>
    simp only [List.map_cons, List.sum_cons, List.length_cons]
    rw [ih]
    simp
    omega
theorem zleft_sum (h : ZInv L X f out N) : zLeftOf L X + (out.map fun x => (2 : Int) ^ x.2.toNat).sum = N := by
  have := h.c.sum
  rw [List.map_append, List.sum_append] at this
  unfold nearL at this
  rw [near_sum] at this
  unfold zLeftOf
  rw [nearAll_eq]
  omega
theorem pow_sum_nn (l : List (Int × Int)) : 0 ≤ (l.map fun x => (2 : Int) ^ x.2.toNat).sum := by
  induction l with
  | nil => simp
  | cons a l ih =>
    have h1 := pow_cast a.2.toNat
    have h2 := Nat.two_pow_pos a.2.toNat
    simp only [List.map_cons, List.sum_cons]
    omega
theorem zleft_bd (h : ZInv L X f out N) : 0 ≤ zLeftOf L X ∧ zLeftOf L X ≤ N := by
  have h1 := zleft_sum h
  have h2 := pow_sum_nn out
  obtain ⟨bs, hT⟩ := bInv_tab h.c.b
  have h3 := pgFree_bd hT (by rw [h.c.len]; exact h.c.n1) (by rw [h.c.len]; exact h.c.n2)
  refine ⟨?_, by omega⟩
  unfold zLeftOf
  omega
theorem nlist_nil (h : X.flatten = []) (c : Int) : nList X c = [] := by
  unfold nList
  cases hx : xAt X c with
  | none => rfl
  | some xs =>
    obtain ⟨-, hi⟩ := xAt_some hx
    exact List.flatten_eq_nil_iff.1 h xs (List.mem_of_getElem? hi)
theorem zleft_none (h : ZInv L X f out N) (hf : X.flatten = []) (hn : NoneIs L 0) : zLeftOf L X = 0 := by
  obtain ⟨bs, hT⟩ := bInv_tab h.c.b
  unfold zLeftOf
  rw [nearAll_eq, hf, none_free hT (by rw [h.c.len]; exact h.c.n1) (by rw [h.c.len]; exact h.c.n2) hn]
  rfl
/-- what Tag answers of a block that was given out just now -/
theorem ztag_given {p o cache c : Int} (h : ZInv L X f (out ++ [(p, o)]) N) (hc : L[p.toNat]? = some (2, o, c)) (hf : (f p).getD c = cache) {t : Option (Int × Int × Int)} (ht : ZTagIs L X f p t) : t = some (p, o, cache) := by
  have hpos : (0 : Int) < 2 ^ o.toNat := by have := pow_cast o.toNat; have := Nat.two_pow_pos o.toNat; omega
  obtain ⟨c', h1, h2⟩ := zinv_tag h (x := (p, o)) (by simp) (k := p) (Int.le_refl _) (by simp only; omega) ht
  simp only at h1 h2
  rw [hc] at h1
  cases h1
  rw [h2, hf]
end
end Go.Proofs.Ytljcndcmdphmgaa
