import Derived.Test.YtljcndcmdphmgaaZmZoneV
import Derived.BigQuiet
/-
  wainscotlaw08.ZoneStands answers true: the walk.
-/
namespace Go.Proofs.Ytljcndcmdphmgaa
open Go.RowKit
attribute [local go_sem ↓] Go.wp_at_zero Go.wp_at_succ
theorem zcZero : Try.zeroCells77 = (ints (List.replicate 1024 0)).toArray := by kernel_rfl
theorem zcGen {Z : Array Value} {l l' : List Int} (h : Z = (ints l).toArray) (h2 : l' = l) : Z = (ints l').toArray := by
  subst h2
  exact h
set_option maxRecDepth 100000 in
theorem zcMarks : Try.zeroCells77 = (ints (marksL fun _ => false)).toArray := zcGen zcZero marksL_zero
/-- the marks, in their block -/
def MkO (g : Nat) (p : Nat → Bool) (bs : List (Nat × Obj)) : Prop := SlO false 77 1 (.slice (some ⟨g, 0, none⟩) 1024 1024) 1024 (ints (marksL p)) bs
section
variable {W w : World} {m a b c : List (Nat × Obj)} {g : Nat} {p : Nat → Bool} {bs : List (Nat × Obj)}
theorem mk_new' (l : List Int) (n : Nat) (hl : l.length = n) (hn : n ≤ maxLen) (g : Nat) : SlO false 77 1 (.slice (some ⟨g, 0, none⟩) n n) n (ints l) [(g, .cells (ints l).toArray 77)] := by
  have h := SlO.made false 77 1 g n (ints l).toArray n (Nat.le_refl _) hn (by rw [List.size_toArray, ints_len, hl, Nat.mul_one])
  rw [List.take_of_length_le (by rw [Array.length_toList, List.size_toArray, ints_len, hl, Nat.mul_one]; exact Nat.le_refl _)] at h
  exact h
theorem mk_new (g : Nat) (p : Nat → Bool) : MkO g p [(g, .cells (ints (marksL p)).toArray 77)] := mk_new' (marksL p) 1024 (marksL_len p) (by unfold maxLen; omega) g
theorem mk_cell (h : MkO g p bs) (hO : Own W (bs ++ m) w) {k : Nat} (hk : k < 1024) : w.cell? ⟨g, k, none⟩ = some (.int .i64 (if p k then 1 else 0)) ∧ w.frozen? ⟨g, k, none⟩ = false :=
  ⟨SlO.cell h hO rfl (ints_get (marksL_get p hk)), SlO.free h hO rfl k⟩
theorem mk_set (h : MkO g p bs) (hO : Own W (bs ++ m) w) {k : Nat} (hk : k < 1024) : ∃ bs', MkO g (fun q => p q || q == k) bs' ∧ Own W (bs' ++ m) (w.setCell ⟨g, k, none⟩ (.int .i64 1)) := by
  obtain ⟨bs', h1, h2⟩ := SlO.store h hO rfl (j := k) (by omega) (.int .i64 1)
  rw [ints_set, marksL_set p hk] at h1
  exact ⟨bs', h1, h2⟩
theorem own_3 (h : Own W (a ++ (b ++ (c ++ m))) w) : Own W (c ++ (a ++ (b ++ m))) w := h.perm ((List.Perm.append_left a (perm_swap b c m)).trans (perm_swap a c _))
theorem own_3' (h : Own W (c ++ (a ++ (b ++ m))) w) : Own W (a ++ (b ++ (c ++ m))) w := h.perm ((perm_swap c a _).trans (List.Perm.append_left a (perm_swap c b m)))
end
namespace zoneStands
set_option maxRecDepth 100000 in
set_option maxHeartbeats 4000000 in
theorem walk {W w : World} {m : List (Nat × Obj)} (h : Own W m w) (pages : Int) (hp : (Lit.int .i64 pages).wf = true) (A : Option Addr) (len cap : Nat) (hlc : len ≤ cap) (hcap : cap ≤ maxLen) (hat : FlatAt W [some .i64, some .i64, some .i64, some .i64] A len) :
    Calls Try.prog 10 #[.int .i64 pages, .slice A len cap] w fun e w' => e = .returned (.bool true) ∧ Own W m w' := by
  have hpb := emod_bd pages 150 (by omega)
  obtain ⟨N, hN⟩ : ∃ N : Nat, pages % 150 = N := ⟨(pages % 150).toNat, by omega⟩
  have hN3 : N < 150 := by omega
  have HN := Lib.hid hN
  have hpl := fun w (h : Own W m w) => played8_spec h pages hp A len cap hlc hcap hat
  rw [hN, Int.toNat_natCast] at hpl
  have HPL := Lib.hid hpl
  clear hat hN hpb hpl
  go_enter Try.func10, Try.ntmps10
  go_wp2_with fail
  refine (HPL.out w h).mono ?_
  rintro e w2 ⟨zb, zs, v, outl, bo, rfl, HZ, ho60, HB, h2⟩
  obtain ⟨A1, c1, rfl, hc1, -⟩ := SlO.slice HB.out
  obtain ⟨q, hq⟩ : ∃ q, outl.length = q := ⟨_, rfl⟩
  have HQ := Lib.hid hq
  obtain ⟨L, X, f, ho, hi, h3⟩ := HZ.out
  have HO := Lib.hid ho
  have HI := Lib.hid hi
  rw [hq] at ho60 hc1 ⊢
  clear hq h HZ ho hi h3
  go_wp2_with fail
  refine (bring_spec pages 150 (by omega) (by omega) hp _).mono ?_
  rintro e w' ⟨rfl, rfl⟩
  rw [HN.out]
  go_wp2_with fail
  have h4 := (h2.swap).new1 (m1 := zs) (.cells Try.zeroCells77 77)
  rw [zcMarks] at h4 ⊢
  obtain ⟨gb, hgb⟩ : ∃ gb, w2.heap.size = gb := ⟨_, rfl⟩
  have HM := Lib.hid (mk_new gb fun _ => false)
  obtain ⟨wa, hwa⟩ : ∃ wa, w2.alloc (.cells (ints (marksL fun _ => false)).toArray 77) = wa := ⟨_, rfl⟩
  rw [hwa, hgb] at h4
  rw [hwa, hgb]
  have h5 : Own W (zs ++ ([(gb, .cells (ints (marksL fun _ => false)).toArray 77)] ++ (bo ++ m))) wa := h4
  have H5 := Lib.hid h5
  clear h5 h4 h2 hwa hgb
  refine (zleft_spec H5.out HO.out).mono ?_
  rintro e w3 ⟨rfl, h6⟩
  obtain ⟨F, hF⟩ : ∃ F, zLeftOf L X = F := ⟨_, rfl⟩
  have hF' : pgFree L + (nearAll X : Nat) = F := hF
  have HF := Lib.hid hF
  rw [hF', ← sumTo_zero F outl]
  have HMK := Lib.hid (markO_zero outl)
  clear hF hF'
  go_wp2_with fail
  go_loopw [9, 10] (fun s i wr => ∃ (k : Nat) (p : Nat → Bool) (bm : List (Nat × Obj)), i = .int .i64 k ∧ k ≤ q ∧ s = .int .i64 (sumTo F outl k) ∧ Hid (MarkO p outl k) ∧ Hid (MkO gb p bm) ∧ Own W (zs ++ (bm ++ (bo ++ m))) wr) (fun _ i _ => q - (intOf i).toNat)
  case atStart => exact ⟨0, _, _, rfl, by omega, rfl, HMK, HM, h6⟩
  case round =>
    clear h6 HMK HM H5
    obtain ⟨k, p, bm, rfl, hk, rfl, HMK, HM, hr⟩ := hrel
    obtain ⟨wo, hwo⟩ : ∃ wo : World, wo = wr := ⟨_, rfl⟩
    subst hwo
    by_cases hlt : k < q
    · have hlti : (k : Int) < q := by omega
      obtain ⟨⟨a, o⟩, hx⟩ : ∃ x, outl[k]? = some x := ⟨_, List.getElem?_eq_getElem (by have := HQ.out; omega)⟩
      obtain ⟨a0, o0, o10, haN, -⟩ := zout_blk HI.out (List.mem_of_getElem? hx)
      simp only at a0 o0 o10 haN
      obtain ⟨O, rfl⟩ : ∃ O : Nat, o = O := ⟨o.toNat, by omega⟩
      obtain ⟨a, rfl⟩ : ∃ a' : Nat, a = a' := ⟨a.toNat, by omega⟩
      rw [Int.toNat_natCast] at haN
      obtain ⟨M, hM, hMi, hM1, hM2⟩ := pow_nat (show O ≤ 10 by omega)
      rw [hMi] at haN
      have hmin : min O 64 = O := by omega
      obtain ⟨g, cap', cur, hv, -, -⟩ := SlO.form HB.out (by have := HQ.out; omega)
      rw [HQ.out] at hv
      simp only [Value.slice.injEq] at hv
      obtain ⟨rfl, -, rfl⟩ := hv
      obtain ⟨cx0, cx1, -, -⟩ := pr_cells HB.out (own_3 hr) (by rw [HQ.out]) rfl hx
      simp only at cx0 cx1
      obtain ⟨S, hS⟩ : ∃ S, sumTo F outl k = S := ⟨_, rfl⟩
      have hS2 := sumTo_step F hx
      simp only at hS2
      rw [Int.toNat_natCast, hMi, hS] at hS2
      have hsb := sumTo_bd HI.out k
      have hsb2 := sumTo_bd HI.out (k + 1)
      rw [HF.out] at hsb hsb2
      rw [hS] at hsb
      rw [hS2] at hsb2
      have hw1 : IntKind.i64.wrap (M : Int) = (M : Int) := by rw [IntWalk.i64_in] <;> omega
      have hw2 : IntKind.i64.wrap (S + (M : Int)) = S + M := by rw [IntWalk.i64_in] <;> omega
      have hw3 : IntKind.i64.wrap ((a : Int) + (M : Int)) = (a : Int) + M := by rw [IntWalk.i64_in] <;> omega
      have HX := Lib.hid hx
      have HS2 := Lib.hid hS2
      have HMi := Lib.hid hMi
      have HRR := Lib.hid hr
      rw [hS]
      clear hx hS2 hS hM hr
      go_wp2_with fail
      have HMKI := Lib.hid (markI_start (a : Int) HMK.out)
      go_loopw [11] (fun jv wr => ∃ (z : Nat) (p : Nat → Bool) (bm : List (Nat × Obj)), jv = .int .i64 z ∧ a ≤ z ∧ z ≤ a + M ∧ Hid (MarkI p outl k a z) ∧ Hid (MkO gb p bm) ∧ Own W (zs ++ (bm ++ (bo ++ m))) wr) (fun jv _ => a + M - (intOf jv).toNat)
      case atStart => exact ⟨a, p, bm, rfl, by omega, by omega, HMKI, HM, HRR.out⟩
      case round =>
        clear HMKI HM HMK HRR cx0 cx1
        obtain ⟨z, p, bm, rfl, hz1, hz2, HMK, HM, hr⟩ := hrel
        obtain ⟨cx0, cx1, -, -⟩ := pr_cells HB.out (own_3 hr) (by rw [HQ.out]) rfl HX.out
        simp only at cx0 cx1
        by_cases hzl : z < a + M
        · have hzi : (z : Int) < (a : Int) + (M : Int) := by omega
          have hz0 : (0 : Int) ≤ z := by omega
          have hzN : (z : Int) < 1 + (N : Int) := by omega
          have hblk : inBlk ((a : Int), (O : Int)) (z : Int) := ⟨by simp only; omega, by simp only; rw [Int.toNat_natCast, HMi.out]; exact hzi⟩
          have hpz := markI_free HI.out HX.out HMK.out hblk
          have HMK2 := Lib.hid (markI_step HMK.out (show (a : Int) ≤ z by omega))
          have HBLK := Lib.hid hblk
          have HPZ := Lib.hid hpz
          have HR := Lib.hid hr
          clear hr hpz hblk HMK
          go_wp2_with fail
          go_quiet (fail)
          have hrq := HR.out.drewN nq
          generalize wr.drewN nq = wq at hrq ⊢
          clear cx0 cx1 HR
          obtain ⟨cz, fz⟩ := mk_cell HM.out hrq.swap (k := z) (by omega)
          rw [HPZ.out] at cz
          simp only [Bool.false_eq_true, if_false] at cz
          obtain ⟨bm2, HM2, hr2⟩ := mk_set HM.out hrq.swap (k := z) (by omega)
          have HM3 := Lib.hid HM2
          have H2 := Lib.hid hr2
          clear HM2 hr2 hrq HM HPZ
          go_wp2_with fail
          have h3 := H2.out.swap
          refine (ztag_spec h3 HO.out (z : Int)).mono ?_
          rintro e w5 ⟨t, rfl, HTG, h5⟩
          obtain ⟨c, -, rfl⟩ := zinv_tag HI.out (List.mem_of_getElem? HX.out) HBLK.out.1 HBLK.out.2 HTG.out
          obtain ⟨cc, hcc⟩ : ∃ cc, (f ((a : Int), (O : Int)).1).getD c = cc := ⟨_, rfl⟩
          rw [hcc]
          simp only [tagV]
          clear HTG hcc h3
          go_wp2_with fail
          have h6 := h5.new1 (m1 := zs) (.cells #[.int .i64 a, .int .i64 O, .int .i64 cc] 80)
          have h7 := h5.alloc (.cells #[.int .i64 a, .int .i64 O, .int .i64 cc] 80)
          have hc0 := h6.cell (List.mem_append_right _ List.mem_cons_self) 0
          have hc1 := h6.cell (List.mem_append_right _ List.mem_cons_self) 1
          obtain ⟨gt, hgt⟩ : ∃ gt, w5.heap.size = gt := ⟨_, rfl⟩
          obtain ⟨wt, hwt⟩ : ∃ wt, w5.alloc (.cells #[.int .i64 a, .int .i64 O, .int .i64 cc] 80) = wt := ⟨_, rfl⟩
          rw [hwt, hgt] at hc0 hc1
          rw [hwt] at h7
          rw [hwt, hgt]
          simp at hc0 hc1
          obtain ⟨cx0, cx1, -, -⟩ := pr_cells HB.out (own_3 h7) (by rw [HQ.out]) rfl HX.out
          simp only at cx0 cx1
          have H7 := Lib.hid h7
          clear h5 h6 h7 hwt hgt H2
          go_quiet (fail)
          have h8 := H7.out.drewN nq
          clear hc0 hc1 cx0 cx1
          go_wp2_with fail
          exact ⟨⟨z + 1, _, bm2, by go_num, by omega, by omega, HMK2, HM3, h8⟩, by simp [intOf]; omega⟩
        · obtain rfl : z = a + M := by omega
          have hzi : ¬ ((a + M : Nat) : Int) < (a : Int) + (M : Int) := by omega
          have HR := Lib.hid hr
          have hme : MarkO p outl (k + 1) := by
            refine markI_end HX.out ?_
            simp only
            rw [Int.toNat_natCast, HMi.out]
            have := HMK.out
            rw [show ((a + M : Nat) : Int) = (a : Int) + (M : Int) from by omega] at this
            exact this
          have HME := Lib.hid hme
          clear hr hme HMK
          go_wp2_with fail
          go_quiet (fail)
          have h8 := HR.out.drewN nq
          clear cx0 cx1 HR
          go_wp2_with fail
          exact ⟨⟨k + 1, p, bm, by go_num, by omega, by rw [HS2.out], HME, HM, h8⟩, by simp [intOf]; omega⟩
    · obtain rfl : k = q := by omega
      have hlti : ¬ (k : Int) < k := by omega
      have hall := sumTo_all HI.out
      rw [HF.out, HQ.out] at hall
      rw [hall]
      have hmk := HMK.out
      rw [← HQ.out] at hmk
      have HMA : Hid (∀ j : Nat, p j = true ↔ covers outl j) := fun j => by
        rw [hmk j, List.take_length]
      clear hmk hall HMK
      go_wp2_with fail
      go_loopw [14] (fun iv wr => ∃ j : Nat, iv = .int .i64 j ∧ j ≤ 1 + N ∧ Own W (zs ++ (bm ++ (bo ++ m))) wr) (fun iv _ => 1 + N - (intOf iv).toNat)
      case atStart => exact ⟨0, rfl, by omega, hr⟩
      case round =>
        clear hr
        obtain ⟨j, rfl, hj, hr⟩ := hrel
        by_cases hjl : j < 1 + N
        · have hji : (j : Int) < 1 + (N : Int) := by omega
          go_wp2_with fail
          refine (ztag_spec hr HO.out (j : Int)).mono ?_
          rintro e w5 ⟨t, rfl, HTG, h5⟩
          have hto := ztold_iff HI.out HTG.out
          have hpj := HMA.out j
          cases t with
          | none =>
            have hpf : p j = false := by
              cases hp : p j with
              | false => rfl
              | true => have := hto.2 (hpj.1 hp); cases this
            have h6 := h5.alloc (.cells #[.int .i64 0, .int .i64 0, .int .i64 0] 80)
            obtain ⟨cz, -⟩ := mk_cell HM.out h6.swap (k := j) (by omega)
            rw [hpf] at cz
            simp only [Bool.false_eq_true, if_false] at cz
            simp only [tagV]
            clear hto hpj HTG h5
            go_wp2_with fail
            exact ⟨⟨j + 1, by go_num, by omega, h6⟩, by simp [intOf]; omega⟩
          | some v =>
            obtain ⟨a, o, c⟩ := v
            have hpf : p j = true := hpj.2 (hto.1 rfl)
            have h6 := h5.alloc (.cells #[.int .i64 a, .int .i64 o, .int .i64 c] 80)
            obtain ⟨cz, -⟩ := mk_cell HM.out h6.swap (k := j) (by omega)
            rw [hpf] at cz
            simp only [if_true] at cz
            simp only [tagV]
            clear hto hpj HTG h5
            go_wp2_with fail
            exact ⟨⟨j + 1, by go_num, by omega, h6⟩, by simp [intOf]; omega⟩
        · have hji : ¬ (j : Int) < 1 + (N : Int) := by omega
          go_wp2_with fail
          refine (law08.works_spec hr.dropL.dropL.dropL).mono ?_
          rintro e w5 ⟨rfl, h5⟩
          go_wp2_with fail
          go_ret
          exact ⟨rfl, h5⟩
end zoneStands
end Go.Proofs.Ytljcndcmdphmgaa
